/- Walks over functions of this seat, by contract. Conditions: those that each theorem states. -/
import Derived.Test.YtogjkcakoahpiaaN13
namespace Go.Proofs.Ytogjkcakoahpiaa
open Go.RowKit Go.Sort

theorem isMax_ge {ds : List Q3} {src t t' : Int} {S : Int → Bool} {gl : List Int} (h : IsMax ds src t S) (hg : IsFlow ds src gl t') : t' ≤ t := by
  obtain ⟨fl, hf, hS, h0⟩ := h
  obtain ⟨h1, h2, h3⟩ := side_le (S := S) ((hS _).2 .refl) h0 (fun u v hu hr => (hS _).2 (.step ((hS _).1 hu) hr)) hf hg
  have := pot_le (fun v => if S v = true then 1 else 0) ds fl gl hf.len hg.len h1
  omega
theorem mflow_nonneg {ds : List Q3} {src : Int} (hc : ∀ (k : Nat) d, ds[k]? = some d → 0 ≤ d.c) : 0 ≤ mflow ds src := by
  unfold mflow
  split
  · rename_i h
    obtain ⟨S, hm⟩ := h.choose_spec
    exact isMax_ge hm (isflow_zero hc)
  · exact Int.le_refl 0
theorem netOk_erase {J : Int} {es : List Q3} (h : netOk J es = true) (k : Nat) : netOk J (es.eraseIdx k) = true := by
  obtain ⟨hj, hl, ha⟩ := netOk_iff.1 h
  refine netOk_iff.2 ⟨hj, Nat.le_trans (List.length_eraseIdx_le es k) hl, ?_⟩
  rw [List.all_eq_true] at ha ⊢
  exact fun q hq => ha q ((List.eraseIdx_sublist es k).subset hq)
noncomputable def wdS (es : List Q3) (src : Int) : Nat → Int × Int
  | 0 => (-1, 0)
  | k + 1 => if (wdS es src k).1 < 0 ∨ mflow (es.eraseIdx k) src < (wdS es src k).2 then ((k : Int), mflow (es.eraseIdx k) src) else wdS es src k
noncomputable def wdI (es : List Q3) (src : Int) : Nat → Int × Int
  | 0 => (0, -1)
  | k + 1 => if (wdI es src k).2 < 0 ∨ mflow (es.eraseIdx k) src < (wdI es src k).2 then ((k : Int), mflow (es.eraseIdx k) src) else wdI es src k
theorem wd_same {J : Int} {es : List Q3} {src : Int} (h : netOk J es = true) : ∀ k, wdI es src (k + 1) = wdS es src (k + 1) ∧ 0 ≤ (wdS es src (k + 1)).1 ∧ 0 ≤ (wdS es src (k + 1)).2 ∧ (wdS es src (k + 1)).1 ≤ k
  | 0 => by
    have := mflow_nonneg (src := src) (netOk_c (netOk_erase h 0)).1
    have e1 : wdI es src (0 + 1) = (((0 : Nat) : Int), mflow (es.eraseIdx 0) src) := if_pos (.inl (by show (-1 : Int) < 0; omega))
    have e2 : wdS es src (0 + 1) = (((0 : Nat) : Int), mflow (es.eraseIdx 0) src) := if_pos (.inl (by show (-1 : Int) < 0; omega))
    rw [e1, e2]
    exact ⟨rfl, by show (0 : Int) ≤ ((0 : Nat) : Int); omega, this, by show ((0 : Nat) : Int) ≤ ((0 : Nat) : Int); omega⟩
  | k + 1 => by
    obtain ⟨h1, h2, h3, h4⟩ := wd_same h k
    have h5 := mflow_nonneg (src := src) (netOk_c (netOk_erase h (k + 1))).1
    have e1 : wdI es src (k + 1 + 1) = if (wdI es src (k + 1)).2 < 0 ∨ mflow (es.eraseIdx (k + 1)) src < (wdI es src (k + 1)).2 then (((k + 1 : Nat) : Int), mflow (es.eraseIdx (k + 1)) src) else wdI es src (k + 1) := rfl
    have e2 : wdS es src (k + 1 + 1) = if (wdS es src (k + 1)).1 < 0 ∨ mflow (es.eraseIdx (k + 1)) src < (wdS es src (k + 1)).2 then (((k + 1 : Nat) : Int), mflow (es.eraseIdx (k + 1)) src) else wdS es src (k + 1) := rfl
    rw [e1, e2, h1]
    by_cases hf : mflow (es.eraseIdx (k + 1)) src < (wdS es src (k + 1)).2
    · rw [if_pos (.inr hf), if_pos (.inr hf)]
      refine ⟨rfl, ?_, h5, ?_⟩
      · show (0 : Int) ≤ ((k + 1 : Nat) : Int); omega
      · show ((k + 1 : Nat) : Int) ≤ ((k + 1 : Nat) : Int); omega
    · rw [if_neg (by rintro (a | a); omega; exact hf a), if_neg (by rintro (a | a); omega; exact hf a)]
      exact ⟨rfl, h2, h3, by omega⟩
theorem wdS_lo {J : Int} {es : List Q3} {src : Int} (h : netOk J es = true) (k : Nat) : -1 ≤ (wdS es src k).1 ∧ (wdS es src k).1 ≤ (k : Int) := by
  cases k with
  | zero => simp [wdS]
  | succ k =>
    have := (wd_same (src := src) h k).2
    constructor
    · omega
    · have := this.2.2; omega
noncomputable def wdC (J : Int) (es : List Q3) (src : Int) : Int := if netCode J es src = 0 then (if es.length = 0 then 3 else 0) else netCode J es src
noncomputable def wdV (J : Int) (es : List Q3) (src : Int) : Int := if wdC J es src = 0 then (wdS es src es.length).1 else 0
set_option maxHeartbeats 2000000 in
set_option maxRecDepth 100000 in
theorem spec_WorstDitch (J src : Int) (A : Option Addr) (n c : Nat) (es : List Q3) (w : World) (hmax : n ≤ 1048576) (hnc : n ≤ c) (h : Sl w w.heap.size 3 Q3.cells A n es) :
    Calls Try.prog 14 #[.agg #[.int .i64 J, .slice A n c], .int .i64 src] w fun e w' => e = .returned (.tuple #[.int .i64 (wdV J es src), .int .i64 (wdC J es src)]) ∧ Below w.heap.size w w' := by
  have hb0 := below_al (Below.refl _ w) (.cells #[.int .i64 J, .slice A n c] 30)
  obtain ⟨x0, x1⟩ := box2k (Below.refl (w.alloc (.cells #[.int .i64 J, .slice A n c] 30)).heap.size (w.alloc (.cells #[.int .i64 J, .slice A n c] 30)))
  have hl : w.heap.size < (w.alloc (.cells #[.int .i64 J, .slice A n c] 30)).heap.size := by simp
  have hlen := h.len
  by_cases hc : netCode J es src = 0
  · obtain ⟨hok, hin, Jn, sn, rfl, rfl, s1, s2, s3⟩ := netCode_zero hc
    obtain ⟨_, hn20, _⟩ := netOk_iff.1 hok
    rw [hlen] at hn20
    by_cases hn : n = 0
    · subst hn
      have hcc : wdC Jn es sn = 3 := by rw [wdC, if_pos hc, if_pos hlen]
      have hv : wdV Jn es sn = 0 := by rw [wdV, if_neg (by omega)]
      rw [hv, hcc]
      have HC := Lib.hid hc
      clear hv hcc hc hlen
      go_enter Try.func14, Try.ntmps14
      go_wp2_with fail
      refine (spec_l04Code Jn sn A 0 c es w.heap.size _ hmax (h.on hb0) hl x0 x1).mono ?_
      rintro e w1 ⟨rfl, hb1⟩
      rw [HC.out]
      have hb01 := below_then hb0 hb1
      have y0 := cell_on x0 hb1 hl
      have y1 := cell_on x1 hb1 hl
      go_wp2_with fail
      go_ret2
      exact ⟨rfl, hb01⟩
    · have hcc : wdC Jn es sn = 0 := by rw [wdC, if_pos hc, if_neg (by omega)]
      have hv : wdV Jn es sn = (wdS es sn n).1 := by rw [wdV, if_pos hcc, hlen]
      rw [hv, hcc]
      have HC := Lib.hid hc
      have HK := Lib.hid hok
      have Hn := Lib.hid hlen
      have hnz : ((n : Int) == 0) = false := by simpa using hn
      clear hv hcc hc hok hin hlen
      go_enter Try.func14, Try.ntmps14
      go_wp2_with fail
      refine (spec_l04Code Jn sn A n c es w.heap.size _ hmax (h.on hb0) hl x0 x1).mono ?_
      rintro e w1 ⟨rfl, hb1⟩
      rw [HC.out]
      have hb01 := below_then hb0 hb1
      have y0 := cell_on x0 hb1 hl
      have y1 := cell_on x1 hb1 hl
      have l1 := Nat.lt_of_lt_of_le hl hb1.size
      clear x0 x1
      go_wp2_with fail
      go_loopw [7, 8, 9] (fun wv lv iv wr => ∃ k : Nat, k ≤ n ∧ wv = .int .i64 (wdS es sn k).1 ∧ lv = .int .i64 (wdS es sn k).2 ∧ iv = .int .i64 k ∧ Below w.heap.size w wr ∧ Below w1.heap.size w1 wr) (fun _ _ i _ => n - (intOf i).toNat)
      case atStart => exact ⟨0, by omega, rfl, rfl, rfl, hb01, Below.refl _ _⟩
      case round =>
        obtain ⟨k, hk, rfl, rfl, rfl, hbel, hbel1⟩ := hrel
        obtain ⟨wv, hwv⟩ : ∃ x, (wdS es sn k).1 = x := ⟨_, rfl⟩
        obtain ⟨lv, hlv⟩ : ∃ x, (wdS es sn k).2 = x := ⟨_, rfl⟩
        obtain ⟨fv, hfv⟩ : ∃ x, mflow (es.eraseIdx k) sn = x := ⟨_, rfl⟩
        have hlo := wdS_lo (src := sn) HK.out k
        rw [hwv] at hlo
        have hst : wdS es sn (k + 1) = if wv < 0 ∨ fv < lv then ((k : Int), fv) else (wv, lv) := by
          show (if (wdS es sn k).1 < 0 ∨ mflow (es.eraseIdx k) sn < (wdS es sn k).2 then ((k : Int), mflow (es.eraseIdx k) sn) else wdS es sn k) = _
          rw [hfv, ← hwv, ← hlv]
        rw [hwv, hlv]
        have z0 := cell_on y0 hbel1 l1
        have z1 := cell_on y1 hbel1 l1
        have l2 := Nat.lt_of_lt_of_le l1 hbel1.size
        have HWV := Lib.hid hwv
        have HST := Lib.hid hst
        have HFV := Lib.hid hfv
        clear hwv hlv hfv hst
        by_cases hlt : k < n
        · go_wp2_with fail
          refine (spec_l04Without Jn k A n c es w.heap.size _ hmax hnc hlt (h.on hbel) l2 z0 z1).mono ?_
          rintro e w2 ⟨v, rfl, ho, hb2⟩
          obtain ⟨A2, n2, c2, rfl, hl2, hn2⟩ := own_shape ho
          have HO := Lib.hid ho
          have HL := Lib.hid hl2
          have hbel2 := below_then hbel hb2
          have hbel12 := below_then hbel1 hb2
          clear ho hl2
          go_wp2_with fail
          have bx := below_al (Below.refl w2.heap.size w2) (.cells #[.int .i64 (Jn : Int), .slice A2 n2 c2] 30)
          obtain ⟨u0, u1⟩ := box2k (Below.refl (w2.alloc (.cells #[.int .i64 (Jn : Int), .slice A2 n2 c2] 30)).heap.size (w2.alloc (.cells #[.int .i64 (Jn : Int), .slice A2 n2 c2] 30)))
          refine (spec_l04Most Jn sn A2 n2 c2 (es.eraseIdx k) w2.heap.size _ (netOk_erase HK.out k) s1 s2 ((own_sl HO.out Q3.cells_len).on bx) (by simp) u0 u1).mono ?_
          rintro e w3 ⟨sb, rfl, _, hb3⟩
          rw [HFV.out]
          have hb23 := below_then bx hb3
          have hbel3 := below_then hbel2 hb23
          have hbel13 := below_then hbel12 hb23
          by_cases h1 : wv < 0
          · have hd1 : decide (wv < 0) = true := by simpa using h1
            have he : wdS es sn (k + 1) = ((k : Int), fv) := by rw [HST.out, if_pos (.inl h1)]
            have HE := Lib.hid he
            clear he
            go_wp2_with fail
            go_roundw
            case rel => exact ⟨k + 1, by omega, by rw [HE.out], by rw [HE.out], by go_num, hbel3, hbel13⟩
            case measure => simp [intOf]; omega
          · have hd1 : decide (wv < 0) = false := by simpa using h1
            by_cases h2 : fv < lv
            · have hd2 : decide (fv < lv) = true := by simpa using h2
              have he : wdS es sn (k + 1) = ((k : Int), fv) := by rw [HST.out, if_pos (.inr h2)]
              have HE := Lib.hid he
              clear he
              go_wp2_with fail
              go_roundw
              case rel => exact ⟨k + 1, by omega, by rw [HE.out], by rw [HE.out], by go_num, hbel3, hbel13⟩
              case measure => simp [intOf]; omega
            · have hd2 : decide (fv < lv) = false := by simpa using h2
              have he : wdS es sn (k + 1) = (wv, lv) := by rw [HST.out, if_neg (by rintro (a | a); exact h1 a; exact h2 a)]
              have HE := Lib.hid he
              clear he
              go_wp2_with fail
              go_roundw
              case rel => exact ⟨k + 1, by omega, by rw [HE.out], by rw [HE.out], by go_num, hbel3, hbel13⟩
              case measure => simp [intOf]; omega
        · have hkn : k = n := by omega
          subst hkn
          go_wp2_with fail
          go_ret2
          exact ⟨by rw [HWV.out]; rfl, hbel⟩
  · have hcc : wdC J es src = netCode J es src := if_neg hc
    have hv : wdV J es src = 0 := if_neg (by rw [hcc]; exact hc)
    rw [hv, hcc]
    clear hv hcc
    obtain ⟨cc, hcc⟩ : ∃ cc, netCode J es src = cc := ⟨_, rfl⟩
    rw [hcc]
    rw [hcc] at hc
    have hne : (cc != 0) = true := by simpa using hc
    have hne0 : (cc == 0) = false := by simpa using hc
    have HCC := Lib.hid hcc
    clear hcc hc
    go_enter Try.func14, Try.ntmps14
    go_wp2_with fail
    refine (spec_l04Code J src A n c es w.heap.size _ hmax (h.on hb0) hl x0 x1).mono ?_
    rintro e w1 ⟨rfl, hb1⟩
    rw [HCC.out]
    have y0 := cell_on x0 hb1 hl
    have y1 := cell_on x1 hb1 hl
    go_wp2_with fail
    go_ret2
    exact ⟨rfl, below_then hb0 hb1⟩
set_option maxHeartbeats 2000000 in
set_option maxRecDepth 100000 in
theorem impl_WorstDitch (J src : Int) (A : Option Addr) (n c : Nat) (es : List Q3) (w : World) (hmax : n ≤ 1048576) (hnc : n ≤ c) (h : Sl w w.heap.size 3 Q3.cells A n es) :
    Calls Try.prog 15 #[.agg #[.int .i64 J, .slice A n c], .int .i64 src] w fun e w' => e = .returned (.tuple #[.int .i64 (wdV J es src), .int .i64 (wdC J es src)]) ∧ Below w.heap.size w w' := by
  have hb0 := below_al (Below.refl _ w) (.cells #[.int .i64 J, .slice A n c] 30)
  obtain ⟨x0, x1⟩ := box2k (Below.refl (w.alloc (.cells #[.int .i64 J, .slice A n c] 30)).heap.size (w.alloc (.cells #[.int .i64 J, .slice A n c] 30)))
  have hl : w.heap.size < (w.alloc (.cells #[.int .i64 J, .slice A n c] 30)).heap.size := by simp
  have hlen := h.len
  by_cases hk : netOk J es = true
  rotate_left
  · have hk' : netOk J es = false := by simpa using hk
    have hcc : netCode J es src = 1 := if_pos hk'
    have hc2 : wdC J es src = 1 := by rw [wdC, if_neg (by omega), hcc]
    have hv : wdV J es src = 0 := if_neg (by omega)
    rw [hv, hc2]
    clear hv hcc hc2 hk
    go_enter Try.func15, Try.ntmps15
    go_wp2_with (go_at_call 48; refine (impl_ValidNet J A n c es _ hmax (h.on hb0)).mono ?_; rintro e w1 ⟨rfl, hb1⟩; rw [hk'])
    go_ret2
    exact ⟨rfl, below_then hb0 hb1⟩
  obtain ⟨⟨j1, j2⟩, hn20, _⟩ := netOk_iff.1 hk
  rw [hlen] at hn20
  by_cases hs : inR src 1 (J - 1) = true
  rotate_left
  · have hs' : inR src 1 (J - 1) = false := by simpa using hs
    have hcc : netCode J es src = 2 := by rw [netCode, if_neg (by simp [hk]), if_pos hs']
    have hc2 : wdC J es src = 2 := by rw [wdC, if_neg (by omega), hcc]
    have hv : wdV J es src = 0 := if_neg (by omega)
    rw [hv, hc2]
    clear hv hcc hc2 hs
    go_enter Try.func15, Try.ntmps15
    go_wp2_with (first
      | (go_at_call 48; refine (impl_ValidNet J A n c es _ hmax (h.on hb0)).mono ?_; rintro e w1 ⟨rfl, hb1⟩; rw [hk]; have y0 := cell_on x0 hb1 hl; have y1 := cell_on x1 hb1 hl)
      | (go_at_call 49; refine (impl_isInner J src _ j1 j2 _).mono ?_; rintro e w2 ⟨rfl, hb2⟩; rw [hs']))
    go_ret2
    exact ⟨rfl, below_then hb0 (below_then hb1 hb2)⟩
  have hc : netCode J es src = 0 := by rw [netCode, if_neg (by simp [hk]), if_neg (by simp [hs])]
  obtain ⟨hok, hin, Jn, sn, rfl, rfl, s1, s2, s3⟩ := netCode_zero hc
  by_cases hn : n = 0
  · subst hn
    have hcc : wdC Jn es sn = 3 := by rw [wdC, if_pos hc, if_pos hlen]
    have hv : wdV Jn es sn = 0 := by rw [wdV, if_neg (by omega)]
    rw [hv, hcc]
    clear hv hcc hc hlen
    go_enter Try.func15, Try.ntmps15
    go_wp2_with (first
      | (go_at_call 48; refine (impl_ValidNet Jn A 0 c es _ hmax (h.on hb0)).mono ?_; rintro e w1 ⟨rfl, hb1⟩; rw [hk]; have y0 := cell_on x0 hb1 hl; have y1 := cell_on x1 hb1 hl; have hl1 := Nat.lt_of_lt_of_le hl hb1.size)
      | (go_at_call 49; refine (impl_isInner Jn sn _ j1 j2 _).mono ?_; rintro e w2 ⟨rfl, hb2⟩; rw [hs]; have z0 := cell_on y0 hb2 hl1; have z1 := cell_on y1 hb2 hl1; have hb02 := below_then hb0 (below_then hb1 hb2)))
    go_ret2
    exact ⟨rfl, hb02⟩
  have hcc : wdC Jn es sn = 0 := by rw [wdC, if_pos hc, if_neg (by omega)]
  have hv : wdV Jn es sn = (wdI es sn n).1 := by
    rw [wdV, if_pos hcc, hlen]
    obtain ⟨q, rfl⟩ : ∃ q, n = q + 1 := ⟨n - 1, by omega⟩
    rw [(wd_same hok q).1]
  rw [hv, hcc]
  have HK := Lib.hid hok
  have hnz : ((n : Int) == 0) = false := by simpa using hn
  clear hv hcc hc hok hin hlen
  go_enter Try.func15, Try.ntmps15
  go_wp2_with (first
    | (go_at_call 48; refine (impl_ValidNet Jn A n c es _ hmax (h.on hb0)).mono ?_; rintro e w1 ⟨rfl, hb1⟩; rw [hk]; have y0 := cell_on x0 hb1 hl; have y1 := cell_on x1 hb1 hl; have hl1 := Nat.lt_of_lt_of_le hl hb1.size)
    | (go_at_call 49; refine (impl_isInner Jn sn _ j1 j2 _).mono ?_; rintro e w2 ⟨rfl, hb2⟩; rw [hs]; have z0 := cell_on y0 hb2 hl1; have z1 := cell_on y1 hb2 hl1; have hb02 := below_then hb0 (below_then hb1 hb2); have hl2 := Nat.lt_of_lt_of_le hl1 hb2.size))
  go_loopw [6, 7, 28] (fun wv lv iv wr => ∃ k : Nat, k ≤ n ∧ wv = .int .i64 (wdI es sn k).1 ∧ lv = .int .i64 (wdI es sn k).2 ∧ iv = .int .i64 k ∧ Below w.heap.size w wr ∧ Below w2.heap.size w2 wr) (fun _ _ i _ => n - (intOf i).toNat)
  case atStart => exact ⟨0, by omega, rfl, rfl, rfl, hb02, Below.refl _ _⟩
  case round =>
    obtain ⟨k, hk, rfl, rfl, rfl, hbel, hbel1⟩ := hrel
    obtain ⟨wv, hwv⟩ : ∃ x, (wdI es sn k).1 = x := ⟨_, rfl⟩
    obtain ⟨lv, hlv⟩ : ∃ x, (wdI es sn k).2 = x := ⟨_, rfl⟩
    obtain ⟨fv, hfv⟩ : ∃ x, mflow (es.eraseIdx k) sn = x := ⟨_, rfl⟩
    have hst : wdI es sn (k + 1) = if lv < 0 ∨ fv < lv then ((k : Int), fv) else (wv, lv) := by
      show (if (wdI es sn k).2 < 0 ∨ mflow (es.eraseIdx k) sn < (wdI es sn k).2 then ((k : Int), mflow (es.eraseIdx k) sn) else wdI es sn k) = _
      rw [hfv, ← hwv, ← hlv]
    rw [hwv, hlv]
    have u0 := cell_on z0 hbel1 hl2
    have u1 := cell_on z1 hbel1 hl2
    have HWV := Lib.hid hwv
    have HST := Lib.hid hst
    have HFV := Lib.hid hfv
    clear hwv hlv hfv hst
    by_cases hlt : k < n
    · go_wp2_with fail
      refine (impl_without Jn k A n c es _ hmax hnc hlt (h.on hbel)).mono ?_
      rintro e w3 ⟨v, rfl, ho, hb3⟩
      obtain ⟨A2, n2, c2, rfl, hl2', hn2⟩ := own_shape ho
      have HO := Lib.hid ho
      have hbel3 := below_then hbel hb3
      have hbel13 := below_then hbel1 hb3
      clear ho hl2'
      go_wp2_with fail
      refine (impl_greatest Jn sn A2 n2 c2 (es.eraseIdx k) _ (netOk_erase HK.out k) s1 s2 (own_sl HO.out Q3.cells_len)).mono ?_
      rintro e w4 ⟨q, rfl, _, hb4⟩
      rw [HFV.out]
      have hbel4 := below_then hbel3 hb4
      have hbel14 := below_then hbel13 hb4
      by_cases h1 : lv < 0
      · have hd1 : decide (lv < 0) = true := by simpa using h1
        have he : wdI es sn (k + 1) = ((k : Int), fv) := by rw [HST.out, if_pos (.inl h1)]
        have HE := Lib.hid he
        clear he
        go_wp2_with fail
        go_roundw
        case rel => exact ⟨k + 1, by omega, by rw [HE.out], by rw [HE.out], by go_num, hbel4, hbel14⟩
        case measure => simp [intOf]; omega
      · have hd1 : decide (lv < 0) = false := by simpa using h1
        by_cases h2 : fv < lv
        · have hd2 : decide (fv < lv) = true := by simpa using h2
          have he : wdI es sn (k + 1) = ((k : Int), fv) := by rw [HST.out, if_pos (.inr h2)]
          have HE := Lib.hid he
          clear he
          go_wp2_with fail
          go_roundw
          case rel => exact ⟨k + 1, by omega, by rw [HE.out], by rw [HE.out], by go_num, hbel4, hbel14⟩
          case measure => simp [intOf]; omega
        · have hd2 : decide (fv < lv) = false := by simpa using h2
          have he : wdI es sn (k + 1) = (wv, lv) := by rw [HST.out, if_neg (by rintro (a | a); exact h1 a; exact h2 a)]
          have HE := Lib.hid he
          clear he
          go_wp2_with fail
          go_roundw
          case rel => exact ⟨k + 1, by omega, by rw [HE.out], by rw [HE.out], by go_num, hbel4, hbel14⟩
          case measure => simp [intOf]; omega
    · have hkn : k = n := by omega
      subst hkn
      go_wp2_with fail
      go_ret2
      exact ⟨by rw [HWV.out]; rfl, hbel⟩

end Go.Proofs.Ytogjkcakoahpiaa

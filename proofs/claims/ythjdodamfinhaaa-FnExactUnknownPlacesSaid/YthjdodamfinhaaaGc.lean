/- Walks over functions of this seat, by contract. Conditions: those that each theorem states. -/
import Derived.Test.YthjdodamfinhaaaGb
namespace Go.Proofs.Ythjdodamfinhaaa
open Go.RowKit Go.Sort

theorem rfold_mem (es : List G3) : ∀ (xs : List Int) (b : Int), xs.foldl (rNext es) b = b ∨ xs.foldl (rNext es) b ∈ xs
  | [], _ => .inl rfl
  | x :: xs, b => by
    simp only [List.foldl_cons]
    rcases rfold_mem es xs (rNext es b x) with h | h
    · rw [h]
      unfold rNext
      split
      · exact .inr (List.mem_cons.2 (.inl rfl))
      · exact .inl rfl
    · exact .inr (List.mem_cons.2 (.inr h))
theorem rfold_bd {es : List G3} {m : Int} {n : Nat} (k : Nat) : ((idxs (knowP es m) n).take k).foldl (rNext es) (-1) = -1 ∨ ∃ j : Nat, ((idxs (knowP es m) n).take k).foldl (rNext es) (-1) = (j : Int) ∧ j < n := by
  rcases rfold_mem es ((idxs (knowP es m) n).take k) (-1) with h | h
  · exact .inl h
  · obtain ⟨j, h1, h2, _⟩ := idxs_mem (List.mem_of_mem_take h)
    exact .inr ⟨j, h1, h2⟩
theorem fold_take_succ {α β : Type} {f : β → α → β} {b : β} {xs : List α} {k : Nat} {x : α} (hx : xs[k]? = some x) : (xs.take (k + 1)).foldl f b = f ((xs.take k).foldl f b) x := by
  obtain ⟨hk, he⟩ := List.getElem?_eq_some_iff.1 hx
  rw [List.take_succ_eq_append_getElem hk, List.foldl_append, he]; rfl
set_option maxHeartbeats 1000000 in
theorem spec_l17Reach (A : Option Addr) (n c : Nat) (es : List G3) (m : Int) (w : World) (hmax : n ≤ 1048576) (hok : guardsOk es = true) (h : Sl w w.heap.size 3 G3.cells A n es) :
    Calls Try.prog 68 #[.slice A n c, .int .i64 m] w fun e w' => e = .returned (.int .i64 (reach es m)) ∧ Below w.heap.size w w' := by
  have Hn := Lib.hid h.len
  have Hok := Lib.hid hok
  clear hok
  go_enter Try.func68, Try.ntmps68
  go_wp2
  go_loopw [5, 6] (fun bs i wr => ∃ (k : Nat) (b : Int), k ≤ n ∧ i = .int .i64 k ∧ bs = .int .i64 b ∧ Hid (reachN es m k = b) ∧ Below w.heap.size w wr) (fun _ i _ => n - (intOf i).toNat)
  case atStart => exact ⟨0, -1, by omega, rfl, rfl, Lib.hid rfl, Below.refl _ _⟩
  case round =>
    obtain ⟨k, bb, hk, rfl, rfl, Hb, hbel⟩ := hrel
    by_cases hlt : k < n
    · obtain ⟨b, off, rfl, hb, H⟩ := h.at_ (by omega)
      obtain ⟨e, he⟩ := h.get hlt
      obtain ⟨c0, c1, c2⟩ := (H.below hbel hb).g3c (Nat.lt_of_lt_of_le hb hbel.size) he
      obtain ⟨_, b1, b2, b3⟩ := guardOk_iff.1 ((guards_all Hok.out).2 e (List.mem_of_getElem? he))
      have Hp : Hid (knowP es m k = inR m e.a (e.b - 1)) := by show knowP es m k = _; rw [knowP_at he, knowsB]
      have Ht := Lib.hid (toOf_at he)
      have hwr : IntKind.i64.wrap (e.b - 1) = e.b - 1 := IntWalk.i64_in _ (by omega)
      have hk0 : (0 : Int) ≤ (k : Int) := by omega
      have hkn : (k : Int) < (n : Int) := by omega
      clear he
      obtain ⟨r, hr⟩ : ∃ r, inR m e.a (e.b - 1) = r := ⟨_, rfl⟩
      have Hr := Lib.hid hr
      clear hr
      cases r with
      | false =>
        go_wp2_with fail
        refine wp_region_quiet_below (by kernel_rfl) (by kernel_rfl) ?_
        repeat (go_big_quiet_step (exact Calls.regrown_of (calls_below (l00In_r _ _ _ _ Hr.out _))))
        refine wpQuiet_nil ?_
        intro wq hwq
        have hbq := below_then hbel (below_of_class hwq)
        clear hwq c0 c1 c2 hwr
        go_wp2_with fail
        go_roundw
        case rel => exact ⟨k + 1, bb, by omega, by go_num, rfl, Lib.hid (by rw [reachN, if_neg (by rw [Hp.out, Hr.out]; simp), Hb.out]), hbq⟩
        case measure => simp [intOf]; omega
      | true =>
        have Hs : Hid (reachN es m (k + 1) = rNext es bb (k : Int)) := by show reachN es m (k + 1) = _; rw [reachN, if_pos (by rw [Hp.out, Hr.out]), Hb.out]
        by_cases hneg : bb < 0
        · have hd : decide (bb < 0) = true := by simpa using hneg
          go_wp2_with fail
          refine wp_region_quiet_below (by kernel_rfl) (by kernel_rfl) ?_
          repeat (go_big_quiet_step (exact Calls.regrown_of (calls_below (l00In_r _ _ _ _ Hr.out _))))
          refine wpQuiet_nil ?_
          intro wq hwq
          have hbq := below_then hbel (below_of_class hwq)
          clear hwq c0 c1 c2 hwr
          go_wp2_with fail
          go_roundw
          case rel => exact ⟨k + 1, _, by omega, by go_num, rfl, Lib.hid (by rw [Hs.out, rNext, if_pos (.inl hneg)]), hbq⟩
          case measure => simp [intOf]; omega
        · obtain ⟨j, hj, hjk⟩ : ∃ j : Nat, bb = (j : Int) ∧ j < k := by
            rcases reachN_bd es m k with h1 | ⟨j, h1, h2, _⟩
            · rw [Hb.out] at h1; omega
            · exact ⟨j, by rw [← Hb.out, h1], h2⟩
          subst hj
          obtain ⟨f, hf⟩ := h.get (k := j) (by omega)
          obtain ⟨d0, d1, d2⟩ := (H.below hbel hb).g3c (Nat.lt_of_lt_of_le hb hbel.size) hf
          have Hf := Lib.hid (toOf_at hf)
          have hj0 : (0 : Int) ≤ (j : Int) := by omega
          have hjn : (j : Int) < (n : Int) := by omega
          have hd : decide ((j : Int) < 0) = false := by simp
          clear hf
          go_wp2_with fail
          refine wp_region_quiet_below (by kernel_rfl) (by kernel_rfl) ?_
          repeat (go_big_quiet_step (exact Calls.regrown_of (calls_below (l00In_r _ _ _ _ Hr.out _))))
          refine wpQuiet_nil ?_
          intro wq hwq
          have hbq := below_then hbel (below_of_class hwq)
          clear hwq c0 c1 c2 d0 d1 d2 hwr hd
          go_wp2_with fail
          · have hgt : f.b < e.b := by first | assumption | omega
            go_roundw
            case rel => exact ⟨k + 1, _, by omega, by go_num, rfl, Lib.hid (by rw [Hs.out, rNext, if_pos (.inr (by rw [Hf.out, Ht.out]; exact hgt))]), hbq⟩
            case measure => simp [intOf]; omega
          · have hgt : ¬ f.b < e.b := by omega
            go_roundw
            case rel => exact ⟨k + 1, _, by omega, by go_num, rfl, Lib.hid (by rw [Hs.out, rNext, if_neg (by rw [Hf.out, Ht.out]; omega)]), hbq⟩
            case measure => simp [intOf]; omega
    · go_wp2
      go_ret
      have hkn : k = n := by omega
      subst hkn
      exact ⟨ret_int (by rw [reach, Hn.out, Hb.out]), hbel⟩
set_option maxHeartbeats 1000000 in
set_option maxRecDepth 100000 in
theorem spec_FewestGuards (A : Option Addr) (n c : Nat) (es : List G3) (len : Int) (w : World) (hmax : n ≤ 1048576) (hnm : ∀ e ∈ es, e.s.size ≤ 1048576) (h : Sl w w.heap.size 3 G3.cells A n es) :
    Calls Try.prog 32 #[.slice A n c, .int .i64 len] w fun e w' => ∃ v, e = .returned (.tuple #[v, .int .i64 (fCode es len)]) ∧ Own w' w.heap.size 2 1 icell v (fRes es len) ∧ Below w.heap.size w w' := by
  obtain ⟨i0, hi, hz0, hz1, hz2⟩ := info_parts info_i64
  by_cases k0 : lenCode es len = 0
  · have g : guardsOk es = true ∧ inR len 1 300000 = true := by
      revert k0; unfold lenCode; cases guardsOk es <;> cases inR len 1 300000 <;> simp
    obtain ⟨g1, g2⟩ := g
    obtain ⟨l1, l2⟩ := inR_iff.1 g2
    have Hk0 := Lib.hid k0
    have Hok := Lib.hid g1
    have Hn := Lib.hid h.len
    go_enter Try.func32, Try.ntmps32
    go_wp2_with (go_at_call 67; refine (spec_l17Code _ _ _ es _ _ hmax hnm h).mono ?_; rintro e w1 ⟨rfl, hb1⟩; rw [k0])
    clear k0 g1 g2
    go_loopw [7, 8] (fun v p wr => ∃ (f : Nat) (m : Int) (out : List Int), 0 ≤ m ∧ len < m + f ∧ out.length + f ≤ 300001 ∧ p = .int .i64 m ∧ Hid (fgo es len f m out = fewest es len) ∧ Hid (Own wr w.heap.size 2 1 icell v out) ∧ Below w.heap.size w wr) (fun _ p _ => (len - intOf p).toNat)
    case atStart => exact ⟨len.toNat + 1, 0, [], by omega, by omega, by simp; omega, rfl, Lib.hid rfl, Lib.hid (own_new_empty _ _ _ _ _ hb1.size), below_al hb1 _⟩
    case round =>
      obtain ⟨f, m, out, hm0, hf, hol, rfl, Hf, Hown, hbel⟩ := hrel
      by_cases hlt : m < len
      · by_cases hr : reach es m < 0
        · have hno := fgo_none (out := out) hf hlt hr
          rw [Hf.out] at hno
          have Hc : Hid (fCode es len = 3) := by show fCode es len = 3; unfold fCode; rw [if_neg (by simp [Hk0.out]), hno]; rfl
          clear hno
          go_wp2_with (go_at_call 68; refine (spec_l17Reach _ _ _ es _ _ hmax Hok.out (h.on hbel)).mono ?_; rintro e w2 ⟨rfl, hb2⟩)
          go_ret2
          exact ⟨_, by rw [Hc.out]; rfl, by rw [fRes_neg (by rw [Hc.out]; omega)]; exact own_nil _ _ _ _ _, below_then hbel hb2⟩
        · obtain ⟨k, e, hk, he, ht, h4, h5⟩ := reach_to hr
          obtain ⟨hs1, hs2⟩ := fgo_step (out := out) hf hlt hr
          rw [ht, hk] at hs1
          rw [ht] at hs2
          have hkn : k < n := by rw [← Hn.out]; exact (List.getElem?_eq_some_iff.1 he).1
          obtain ⟨b, off, rfl, hb, H⟩ := h.at_ (by omega)
          have HS := Lib.hid hs1
          have hrk : reach es m = (k : Int) := hk
          have hf1 : 1 ≤ f := by omega
          clear hs1 hk ht hr
          go_wp2_with (first
            | (at_builtin; refine wpList_push rfl _ _ 39 rfl w.heap.size 2 i0 (.int .i64 0) 1 8 Try.underlying39 hi hz0 hz1 hz2 rfl (by omega) icell_len (fun e u hu => by simp [icell] at hu; subst hu; rfl) _ _ (k : Int) rfl Ho2.out _ rfl _ rfl (by first | rfl | simp) (by omega) (by omega) hbel2.size ?_; intro v3 w3 ho3 hg3; have hbel3 := own_grown hbel2 Ho2.out (Nat.le_refl _) hbel2.size hg3; have Ho3 := Lib.hid ho3; clear ho3; obtain ⟨_, _, c2⟩ := (H.below hbel3 hb).g3 he)
            | (go_at_call 68; refine (spec_l17Reach _ _ _ es _ _ hmax Hok.out (h.on hbel)).mono ?_; rintro ev w2 ⟨rfl, hb2⟩; rw [hrk]; have hbel2 := below_then hbel hb2; have Ho2 := Lib.hid (Own.below Hown.out hb2 (Nat.le_refl _))))
          go_roundw
          case rel => exact ⟨f - 1, e.b, _, by omega, by omega, by simp; omega, rfl, Lib.hid (by rw [← HS.out]; exact Hf.out), Lib.hid Ho3.out, hbel3⟩
          case measure => simp [intOf]; omega
      · have hend := fgo_end (es := es) (f := f) (out := out) (by omega : len ≤ m)
        rw [Hf.out] at hend
        have Hc : Hid (fCode es len = 0) := by show fCode es len = 0; unfold fCode; rw [if_neg (by simp [Hk0.out]), hend]; rfl
        have Hr : Hid (fRes es len = out) := by show fRes es len = out; rw [fRes, if_pos Hc.out, hend]; rfl
        clear hend
        go_wp2
        go_ret2
        exact ⟨_, by rw [Hc.out]; rfl, by rw [Hr.out]; exact Hown.out, hbel⟩
  · have hc : fCode es len = lenCode es len := by unfold fCode; rw [if_pos k0]
    have hne : (lenCode es len != 0) = true := by simpa using k0
    rw [fRes_neg (by rw [hc]; exact k0), hc]
    clear hc
    go_enter Try.func32, Try.ntmps32
    go_wp2_with (go_at_call 67; refine (spec_l17Code _ _ _ es _ _ hmax hnm h).mono ?_; rintro e w1 ⟨rfl, hb1⟩)
    go_ret2
    exact ⟨_, rfl, own_nil _ _ _ _ _, hb1⟩
set_option maxHeartbeats 2000000 in
set_option maxRecDepth 100000 in
theorem impl_FewestGuards (A : Option Addr) (n c : Nat) (es : List G3) (len : Int) (w : World) (hmax : n ≤ 1048576) (hnm : ∀ e ∈ es, e.s.size ≤ 1048576) (h : Sl w w.heap.size 3 G3.cells A n es) :
    Calls Try.prog 33 #[.slice A n c, .int .i64 len] w fun e w' => ∃ v, e = .returned (.tuple #[v, .int .i64 (fCode es len)]) ∧ Own w' w.heap.size 2 1 icell v (fRes es len) ∧ Below w.heap.size w w' := by
  obtain ⟨i0, hi, hz0, hz1, hz2⟩ := info_parts info_i64
  by_cases k0 : lenCode es len = 0
  · have g : guardsOk es = true ∧ inR len 1 300000 = true := by
      revert k0; unfold lenCode; cases guardsOk es <;> cases inR len 1 300000 <;> simp
    obtain ⟨g1, g2⟩ := g
    obtain ⟨l1, l2⟩ := inR_iff.1 g2
    have Hk0 := Lib.hid k0
    have Hok := Lib.hid g1
    have Hn := Lib.hid h.len
    go_enter Try.func33, Try.ntmps33
    go_wp2_with (go_at_call 69; refine (impl_lengthCode _ _ _ es _ _ hmax hnm h).mono ?_; rintro e w1 ⟨rfl, hb1⟩; rw [k0])
    clear k0 g1 g2
    go_loopw [7, 8] (fun v p wr => ∃ (f : Nat) (m : Int) (out : List Int), 0 ≤ m ∧ len < m + f ∧ out.length + f ≤ 300001 ∧ p = .int .i64 m ∧ Hid (fgo es len f m out = fewest es len) ∧ Hid (Own wr w.heap.size 2 1 icell v out) ∧ Below w.heap.size w wr) (fun _ p _ => (len - intOf p).toNat)
    case atStart => exact ⟨len.toNat + 1, 0, [], by omega, by omega, by simp; omega, rfl, Lib.hid rfl, Lib.hid (own_new_empty _ _ _ _ _ hb1.size), below_al hb1 _⟩
    case round =>
      obtain ⟨f, m, out, hm0, hf, hol, rfl, Hf, Hown, hbel⟩ := hrel
      by_cases hlt : m < len
      · obtain ⟨ks, hks⟩ : ∃ ks, knowIdx es m = ks := ⟨_, rfl⟩
        have hkl : ks.length ≤ n := by rw [← hks, knowIdx]; have := idxs_len (knowP es m) es.length; rw [Hn.out] at this; exact (by rw [Hn.out]; exact this)
        have Hks : Hid (∀ q, (ks.take q).foldl (rNext es) (-1) = -1 ∨ ∃ j : Nat, (ks.take q).foldl (rNext es) (-1) = (j : Int) ∧ j < n) := fun q => by
          rw [← hks, knowIdx, ← Hn.out]; exact rfold_bd q
        have Hmem : Hid (∀ (q : Nat) x, ks[q]? = some x → ∃ j : Nat, x = (j : Int) ∧ j < n) := fun q x hx => by
          rw [← hks, knowIdx, Hn.out] at hx
          obtain ⟨j, h1, h2, _⟩ := idxs_mem (List.mem_of_getElem? hx)
          exact ⟨j, h1, h2⟩
        have Hall : Hid (ks.foldl (rNext es) (-1) = reach es m) := by
          show ks.foldl (rNext es) (-1) = reach es m
          rw [← hks, knowIdx, reach_fold, reach]
        go_wp2_with (go_at_call 66; refine (impl_guardsAt _ _ _ es _ _ hmax Hok.out (h.on hbel)).mono ?_; rintro ev w2 ⟨v2, rfl, ho2, hb2⟩; rw [hks] at ho2; obtain ⟨A2, n2, c2, rfl, hl2, _⟩ := own_shape ho2)
        have hbel2 := below_then hbel hb2
        have Ho2 := Lib.hid (Own.below Hown.out hb2 (Nat.le_refl _))
        have hS2 := own_sl ho2 icell_len
        have Hl2 := Lib.hid hl2
        have hn2 : n2 ≤ n := by omega
        clear hks ho2 hl2 hb2 Hown hbel
        obtain ⟨wo, hwo⟩ : ∃ wo : World, wo = w2 := ⟨_, rfl⟩
        subst hwo
        go_loopw [9, 27] (fun bs i wz => ∃ (q : Nat) (b : Int), q ≤ n2 ∧ i = .int .i64 q ∧ bs = .int .i64 b ∧ Hid ((ks.take q).foldl (rNext es) (-1) = b) ∧ Below wo.heap.size wo wz) (fun _ i _ => n2 - (intOf i).toNat)
        case atStart => exact ⟨0, -1, by omega, rfl, rfl, Lib.hid rfl, Below.refl _ _⟩
        case round =>
          obtain ⟨q, bb, hq, rfl, rfl, Hb, hbz⟩ := hrel
          by_cases hlq : q < n2
          · obtain ⟨b2, off2, rfl, hb22, H2⟩ := hS2.at_ (by omega)
            obtain ⟨x, hx⟩ := hS2.get hlq
            obtain ⟨i, rfl, hin⟩ := Hmem.out q x hx
            obtain ⟨b, off, rfl, hbb, H⟩ := h.at_ (by omega)
            obtain ⟨e, he⟩ := h.get hin
            have hbw := below_then hbel2 hbz
            obtain ⟨_, _, c2'⟩ := (H.below hbw hbb).g3c (Nat.lt_of_lt_of_le hbb hbw.size) he
            have y0 := (H2.below hbz hb22).i1 hx
            have Hx := Lib.hid hx
            have Ht := Lib.hid (toOf_at he)
            have Hs : Hid ((ks.take (q + 1)).foldl (rNext es) (-1) = rNext es bb (i : Int)) := by show (ks.take (q + 1)).foldl (rNext es) (-1) = _; rw [fold_take_succ hx, Hb.out]
            have hi0 : (0 : Int) ≤ (i : Int) := by omega
            have hin' : (i : Int) < (n : Int) := by omega
            clear hx he
            by_cases hneg : bb < 0
            · have hd : decide (bb < 0) = true := by simpa using hneg
              go_wp2_with fail
              refine wp_region_quiet_below (by kernel_rfl) (by kernel_rfl) ?_
              repeat (go_big_quiet_step (fail))
              refine wpQuiet_nil ?_
              intro wq hwq
              have hbq := below_then hbz (below_of_class hwq)
              clear hwq c2' y0
              go_wp2_with fail
              go_roundw
              case rel => exact ⟨q + 1, _, by omega, by go_num, rfl, Lib.hid (by rw [Hs.out, rNext, if_pos (.inl hneg)]), hbq⟩
              case measure => simp [intOf]; omega
            · obtain ⟨j, hj, hjk⟩ : ∃ j : Nat, bb = (j : Int) ∧ j < n := by
                rcases Hks.out q with h1 | h1
                · rw [Hb.out] at h1; omega
                · rw [Hb.out] at h1; exact h1
              subst hj
              obtain ⟨f', hf'⟩ := h.get hjk
              obtain ⟨_, _, d2⟩ := (H.below hbw hbb).g3c (Nat.lt_of_lt_of_le hbb hbw.size) hf'
              have Hf' := Lib.hid (toOf_at hf')
              have hj0 : (0 : Int) ≤ (j : Int) := by omega
              have hjn : (j : Int) < (n : Int) := by omega
              have hd : decide ((j : Int) < 0) = false := by simp
              clear hf'
              go_wp2_with fail
              refine wp_region_quiet_below (by kernel_rfl) (by kernel_rfl) ?_
              repeat (go_big_quiet_step (fail))
              refine wpQuiet_nil ?_
              intro wq hwq
              have hbq := below_then hbz (below_of_class hwq)
              clear hwq c2' d2 y0 hd
              go_wp2_with fail
              · have hgt : f'.b < e.b := by first | assumption | omega
                go_roundw
                case rel => exact ⟨q + 1, _, by omega, by go_num, rfl, Lib.hid (by rw [Hs.out, rNext, if_pos (.inr (by rw [Hf'.out, Ht.out]; exact hgt))]), hbq⟩
                case measure => simp [intOf]; omega
              · have hgt : ¬ f'.b < e.b := by omega
                go_roundw
                case rel => exact ⟨q + 1, _, by omega, by go_num, rfl, Lib.hid (by rw [Hs.out, rNext, if_neg (by rw [Hf'.out, Ht.out]; omega)]), hbq⟩
                case measure => simp [intOf]; omega
          · have hqn : q = n2 := by omega
            subst hqn
            have hbb : reach es m = bb := by
              rw [← Hall.out, ← Hb.out, List.take_of_length_le (by rw [Hl2.out]; exact Nat.le_refl _)]
            have hbw := below_then hbel2 hbz
            have Ho3 := Lib.hid (Own.below Ho2.out hbz (Nat.le_refl _))
            by_cases hr : reach es m < 0
            · have hno := fgo_none (out := out) hf hlt hr
              rw [Hf.out] at hno
              have Hc : Hid (fCode es len = 3) := by show fCode es len = 3; unfold fCode; rw [if_neg (by simp [Hk0.out]), hno]; rfl
              have hneg : bb < 0 := by omega
              clear hno hbb hr
              go_wp2_with fail
              go_ret2
              exact ⟨_, by rw [Hc.out]; rfl, by rw [fRes_neg (by rw [Hc.out]; omega)]; exact own_new_empty _ _ _ _ _ hbw.size, below_al hbw _⟩
            · obtain ⟨k, e, hk, he, ht, h4, h5⟩ := reach_to hr
              obtain ⟨hs1, hs2⟩ := fgo_step (out := out) hf hlt hr
              rw [ht, hk] at hs1
              rw [ht] at hs2
              have hkn : k < n := by rw [← Hn.out]; exact (List.getElem?_eq_some_iff.1 he).1
              obtain ⟨b, off, rfl, hb, H⟩ := h.at_ (by omega)
              have HS := Lib.hid hs1
              have hf1 : 1 ≤ f := by omega
              obtain rfl : bb = (k : Int) := by rw [← hbb, hk]
              clear hs1 hk ht hr hbb
              go_wp2_with (at_builtin; refine wpList_push rfl _ _ 39 rfl w.heap.size 2 i0 (.int .i64 0) 1 8 Try.underlying39 hi hz0 hz1 hz2 rfl (by omega) icell_len (fun e u hu => by simp [icell] at hu; subst hu; rfl) _ _ (k : Int) rfl Ho3.out _ rfl _ rfl (by first | rfl | simp) (by omega) (by omega) hbw.size ?_; intro v4 w4 ho4 hg4; have hbel4 := own_grown hbw Ho3.out (Nat.le_refl _) hbw.size hg4; have Ho4 := Lib.hid ho4; clear ho4; obtain ⟨_, _, c2'⟩ := (H.below hbel4 hb).g3 he)
              go_roundw
              case rel => exact ⟨f - 1, e.b, _, by omega, by omega, by simp; omega, rfl, Lib.hid (by rw [← HS.out]; exact Hf.out), Lib.hid Ho4.out, hbel4⟩
              case measure => simp [intOf]; omega
      · have hend := fgo_end (es := es) (f := f) (out := out) (by omega : len ≤ m)
        rw [Hf.out] at hend
        have Hc : Hid (fCode es len = 0) := by show fCode es len = 0; unfold fCode; rw [if_neg (by simp [Hk0.out]), hend]; rfl
        have Hr : Hid (fRes es len = out) := by show fRes es len = out; rw [fRes, if_pos Hc.out, hend]; rfl
        clear hend
        go_wp2
        go_ret2
        exact ⟨_, by rw [Hc.out]; rfl, by rw [Hr.out]; exact Hown.out, hbel⟩
  · have hc : fCode es len = lenCode es len := by unfold fCode; rw [if_pos k0]
    have hne : (lenCode es len != 0) = true := by simpa using k0
    rw [fRes_neg (by rw [hc]; exact k0), hc]
    clear hc
    go_enter Try.func33, Try.ntmps33
    go_wp2_with (go_at_call 69; refine (impl_lengthCode _ _ _ es _ _ hmax hnm h).mono ?_; rintro e w1 ⟨rfl, hb1⟩)
    go_ret2
    exact ⟨_, rfl, own_new_empty _ _ _ _ _ hb1.size, below_al hb1 _⟩

end Go.Proofs.Ythjdodamfinhaaa

/- Walks over functions of this seat, by contract. Conditions: those that each theorem states. -/
import Derived.Test.YtccajbnklegniaaD4
import Derived.Test.YtccajbnklegniaaStp
namespace Go.Proofs.Ytccajbnklegniaa
open Go.RowKit Go.Sort

theorem q4_one (e : Q4) (u : Value) (hu : u ∈ e.cells) : u.oneCell' = true := by
  simp only [Q4.cells, List.mem_cons, List.not_mem_nil, or_false] at hu
  rcases hu with rfl | rfl | rfl | rfl <;> rfl
theorem impl_clone_Defect (A : Option Addr) (n c : Nat) (es : List Q4) (w : World) (hmax : n ≤ 1048576) (h : Sl w w.heap.size 4 Q4.cells A n es) :
    Calls Try.prog 55 #[.slice A n c] w fun e w' => ∃ v, e = .returned v ∧ Own w' w.heap.size 45 4 Q4.cells v es ∧ Below w.heap.size w w' := by
  obtain ⟨i0, hi, hz0, hz1, hz2⟩ := info_parts info_Defect
  go_enter Try.func55, Try.ntmps55
  go_wp2_with (at_builtin; refine wpList_app rfl _ _ 28 rfl w.heap.size 45 i0 _ 4 32 Try.underlying28 hi hz0 hz1 hz2 rfl (by omega) Q4.cells_len q4_one _ ([] : List Q4) es rfl (own_new_empty w w.heap.size _ 4 Q4.cells (Nat.le_refl _)) w.heap.size A n c rfl (h.below (below_al (Below.refl _ _) _)) (by simp) (by omega) (by omega) (by simp) ?_; intro v2 w2 ho2 hg2; have hb2 := own_grown (below_al (Below.refl _ w) (.cells #[] 45)) (own_new_empty w w.heap.size _ 4 Q4.cells (Nat.le_refl _)) (Nat.le_refl _) (by simp) hg2)
  go_ret
  exact ⟨_, rfl, by simpa using ho2, hb2⟩
theorem own_store4 {w : World} {base E g n c k : Nat} {es : List Q4} {e : Q4} (h : Own w base E 4 Q4.cells (.slice (some ⟨g, 0, none⟩) n c) es) (he : es[k]? = some e) (x0 x1 x2 x3 : Int) :
    Own ((((w.setCell ⟨g, k * 4, none⟩ (.int .i64 x0)).setCell ⟨g, k * 4 + 1, none⟩ (.int .i64 x1)).setCell ⟨g, k * 4 + 2, none⟩ (.int .i64 x2)).setCell ⟨g, k * 4 + 3, none⟩ (.int .i64 x3)) base E 4 Q4.cells (.slice (some ⟨g, 0, none⟩) n c) (es.set k ⟨x0, x1, x2, x3⟩) := by
  have hk : k < es.length := (List.getElem?_eq_some_iff.1 he).1
  have hs : ∀ x : Q4, (es.set k x)[k]? = some x := fun x => by rw [List.getElem?_set_self hk]
  have h0 := Own.store (j := 0) (u := .int .i64 x0) (e' := ⟨x0, e.b, e.c, e.d⟩) Q4.cells_len h he (by omega) rfl
  have h1 := Own.store (j := 1) (u := .int .i64 x1) (e' := ⟨x0, x1, e.c, e.d⟩) Q4.cells_len h0 (hs _) (by omega) rfl
  rw [List.set_set] at h1
  have h2 := Own.store (j := 2) (u := .int .i64 x2) (e' := ⟨x0, x1, x2, e.d⟩) Q4.cells_len h1 (hs _) (by omega) rfl
  rw [List.set_set] at h2
  have h3 := Own.store (j := 3) (u := .int .i64 x3) (e' := ⟨x0, x1, x2, x3⟩) Q4.cells_len h2 (hs _) (by omega) rfl
  rw [List.set_set] at h3
  simp only [Nat.add_zero] at h3
  exact h3
theorem idxs_at {p : Nat → Bool} {n j : Nat} {x : Int} (h : (idxs p n)[j]? = some x) : ∃ k : Nat, x = k ∧ k < n ∧ p k = true := idxs_mem (List.mem_of_getElem? h)
theorem filter_take {f : Int → Bool} {xs : List Int} {k : Nat} {x : Int} (hx : xs[k]? = some x) : (xs.take (k + 1)).filter f = (xs.take k).filter f ++ (if f x = true then [x] else []) := by
  obtain ⟨hk, he⟩ := List.getElem?_eq_some_iff.1 hx
  rw [List.take_succ_eq_append_getElem hk, List.filter_append, he]
  cases hf : f x <;> simp [hf]
theorem filter_len (f : Int → Bool) (xs : List Int) (k : Nat) : ((xs.take k).filter f).length ≤ k := by
  have := List.length_filter_le f (xs.take k)
  rw [List.length_take] at this; omega
theorem late_filter (es : List Q4) (day : Int) : (openIdx es day).filter (lateD es day) = idxs (lateP es day) es.length := idxs_filter _ _ _
set_option maxHeartbeats 1000000 in
theorem spec_LateDefects (A : Option Addr) (n c : Nat) (es : List Q4) (day : Int) (w : World) (hmax : n ≤ 1048576) (h : Sl w w.heap.size 4 Q4.cells A n es) :
    Calls Try.prog 41 #[.slice A n c, .int .i64 day] w fun e w' => ∃ v, e = .returned (.tuple #[v, .int .i64 (dcode es day)]) ∧ Own w' w.heap.size 2 1 icell v (lateRes es day) ∧ Below w.heap.size w w' := by
  obtain ⟨i0, hi, hz0, hz1, hz2⟩ := info_parts info_i64
  by_cases k0 : dcode es day = 0
  · have hr : lateRes es day = (openIdx es day).filter (lateD es day) := by rw [lateRes, if_pos k0, late_filter]
    obtain ⟨k1, k2⟩ := dcode_zero.1 k0
    rw [hr, k0]
    have Hn := Lib.hid h.len
    have Hok := Lib.hid k1
    have hol : (openIdx es day).length ≤ n := by have := idxs_len (openP es day) es.length; rw [h.len] at this; rw [openIdx, h.len]; exact this
    clear k1 k2 hr
    go_enter Try.func41, Try.ntmps41
    go_wp2_with (first
      | (go_at_call 63; refine (spec_l18Code _ _ _ es _ _ hmax h).mono ?_; rintro e w1 ⟨rfl, hb1⟩; rw [k0])
      | (go_at_call 64; refine (spec_l18List _ _ _ es _ _ hmax (h.on (below_al hb1 _))).mono ?_; rintro e w2 ⟨v2, rfl, ho2, hb2⟩; obtain ⟨A2, n2, c2, rfl, hl2, _⟩ := own_shape ho2; have hbw2 := below_then (below_al hb1 _) hb2; have hE := own_new_empty w1 w.heap.size 2 1 icell hb1.size; have hE2 := Own.below hE hb2 (Nat.le_refl _)))
    have Hl2 := Lib.hid hl2
    have hn2 : n2 ≤ n := by omega
    have HO2 := Lib.hid ho2
    have hap := own_ne_hi hE ho2 (Nat.le_refl _)
    have HA2 : Hid ((Value.slice A2 n2 c2).ownBlock = none ∨ (Value.slice A2 n2 c2).ownBlock ≠ (Value.slice (some ⟨w1.heap.size, 0, none⟩) 0 0).ownBlock) := hap
    have HB := Lib.hid hbw2.size
    clear k0 hl2 ho2 hE hol hap
    go_loopw [7, 9] (fun v i wr => ∃ k : Nat, k ≤ n2 ∧ i = .int .i64 k ∧ Hid (Own wr w.heap.size 2 1 icell v (((openIdx es day).take k).filter (lateD es day))) ∧ Below w.heap.size w wr ∧ Hid (Own wr (w1.alloc (.cells #[] 2)).heap.size 2 1 icell (.slice A2 n2 c2) (openIdx es day)) ∧ Hid ((Value.slice A2 n2 c2).ownBlock = none ∨ (Value.slice A2 n2 c2).ownBlock ≠ v.ownBlock)) (fun _ i _ => n2 - (intOf i).toNat)
    case atStart => exact ⟨0, by omega, rfl, Lib.hid (by simpa using hE2), hbw2, HO2, HA2⟩
    case round =>
      obtain ⟨k, hk, rfl, Hown, hbel, HO, HA⟩ := hrel
      have hll := filter_len (lateD es day) (openIdx es day) k
      by_cases hlt : k < n2
      · obtain ⟨b, off, rfl, hb, H⟩ := h.at_ (by omega)
        obtain ⟨b2, off2, rfl, hbb2, H2⟩ := (own_sl HO.out icell_len).at_ (by omega)
        obtain ⟨x, hx⟩ := (own_sl HO.out icell_len).get hlt
        obtain ⟨j, hxj, hjl, hjp⟩ := idxs_at hx
        subst hxj
        have hjn : j < n := by rw [← Hn.out]; exact hjl
        obtain ⟨e, he⟩ := h.get hjn
        obtain ⟨c0, c1, c2', c3⟩ := (H.below hbel hb).q4 he
        have y0 := H2.i1 hx
        obtain ⟨_, ⟨b1, b2'⟩, ⟨b3, b4⟩, _⟩ := defectOk_iff.1 ((defects_all Hok.out).2 e (List.mem_of_getElem? he))
        obtain ⟨b5, b6⟩ := daysOf_bd e.b
        have bx := box4c wr (.int .i64 e.a) (.int .i64 e.b) (.int .i64 e.c) (.int .i64 e.d) 45
        have x0 := fun d os => (bx d os).1
        have x1 := fun d os => (bx d os).2.1
        have x2 := fun d os => (bx d os).2.2.1
        have x3 := fun d os => (bx d os).2.2.2
        have Hx := Lib.hid hx
        have Hd := Lib.hid (lateD_at (day := day) he)
        clear hx he bx hjp
        go_wp2_with fail
        refine wp_region_quiet_below (by kernel_rfl) (by kernel_rfl) ?_
        repeat (go_big_quiet_step (exact Calls.regrown_of (spec_l18Days _ b1 b2' _)))
        refine wpQuiet_nil ?_
        intro wq hwq
        have hbq := below_of_class hwq
        have hbelq := below_then (below_al hbel _) hbq
        have HOq := Lib.hid (Own.below (own_alloc HO.out (.cells #[.int .i64 e.a, .int .i64 e.b, .int .i64 e.c, .int .i64 e.d] 45)) hbq (Nat.le_refl _))
        have ho3 := Own.below (own_alloc Hown.out (.cells #[.int .i64 e.a, .int .i64 e.b, .int .i64 e.c, .int .i64 e.d] 45)) hbq (Nat.le_refl _)
        have Ho3 := Lib.hid ho3
        have y1 := cell_on y0 (below_then (below_al (Below.refl _ _) (.cells #[.int .i64 e.a, .int .i64 e.b, .int .i64 e.c, .int .i64 e.d] 45)) hbq) hbb2
        clear hwq x0 x1 x2 x3 y0 c0 c1 c2' c3 ho3
        go_wp2_with (at_builtin; refine wpList_push_at rfl _ _ 33 rfl w.heap.size 2 i0 (.int .i64 0) 1 8 Try.underlying33 hi hz0 hz1 hz2 rfl (by omega) icell_len (fun e u hu => by simp [icell] at hu; subst hu; rfl) _ _ (j : Int) rfl Ho3.out _ rfl _ rfl (by first | rfl | simp) (by omega) (by omega) hbelq.size ?_; intro v4 w4 ho4 hg4 hat4; have hbel4 := own_grown hbelq Ho3.out (Nat.le_refl _) hbelq.size hg4; have HO4 := Lib.hid (own_other HOq.out HA.out hg4); have HA4 := Lib.hid (apart_next HOq.out HA.out (Nat.le_succ _) hat4); have Ho4 := Lib.hid ho4; clear ho4 hg4 hat4)
        · have hp : e.c + daysOf e.b < day := by assumption
          go_roundw
          case rel => exact ⟨k + 1, by omega, by go_num, Lib.hid (by rw [filter_take Hx.out, if_pos (by rw [Hd.out]; simpa using hp)]; exact Ho4.out), hbel4, HO4, HA4⟩
          case measure => simp [intOf]; omega
        · have hp : day ≤ e.c + daysOf e.b := by omega
          go_roundw
          case rel => exact ⟨k + 1, by omega, by go_num, Lib.hid (by rw [filter_take Hx.out, if_neg (by rw [Hd.out]; simp; omega), List.append_nil]; exact Ho3.out), hbelq, HOq, HA⟩
          case measure => simp [intOf]; omega
      · go_wp2
        go_ret2
        have hkn : k = n2 := by omega
        subst hkn
        have ho := Hown.out
        rw [List.take_of_length_le (by rw [Hl2.out]; exact Nat.le_refl _)] at ho
        exact ⟨_, rfl, ho, hbel⟩
  · have hr : lateRes es day = [] := if_neg k0
    have hne : (dcode es day != 0) = true := by simpa using k0
    rw [hr]
    go_enter Try.func41, Try.ntmps41
    go_wp2_with (go_at_call 63; refine (spec_l18Code _ _ _ es _ _ hmax h).mono ?_; rintro e w1 ⟨rfl, hb1⟩)
    go_ret2
    exact ⟨_, rfl, own_nil _ _ _ _ _, hb1⟩
def mendAt (es : List Q4) (k day : Int) : Int := match es[k.toNat]? with | some e => if ¬ e.d = 0 then 6 else if day < e.c then 6 else 0 | none => 2
def mendCode (es : List Q4) (k day : Int) : Int := if defectsOk es = false then 1 else if inR k 0 ((es.length : Int) - 1) = false then 2 else if inR day 1 100000 = false then 2 else mendAt es k day
def mendOut (es : List Q4) (k day : Int) : List Q4 := if mendCode es k day = 0 then (match es[k.toNat]? with | some e => es.set k.toNat ⟨e.a, e.b, e.c, day⟩ | none => []) else []
theorem mendOut_neg {es : List Q4} {k day : Int} (h : mendCode es k day ≠ 0) : mendOut es k day = [] := if_neg h
theorem mendOut_pos {es : List Q4} {k : Nat} {day : Int} {e : Q4} (h : mendCode es k day = 0) (he : es[k]? = some e) : mendOut es k day = es.set k ⟨e.a, e.b, e.c, day⟩ := by
  rw [mendOut, if_pos h, Int.toNat_natCast, he]
theorem mendCode_at {es : List Q4} {k : Nat} {day : Int} {e : Q4} (g1 : defectsOk es = true) (g2 : inR (k : Int) 0 ((es.length : Int) - 1) = true) (g3 : inR day 1 100000 = true) (he : es[k]? = some e) :
    mendCode es k day = if ¬ e.d = 0 then 6 else if day < e.c then 6 else 0 := by
  unfold mendCode
  rw [if_neg (by simp [g1]), if_neg (by simp [g2]), if_neg (by simp [g3]), mendAt, Int.toNat_natCast, he]
theorem mendOut_len (es : List Q4) (k day : Int) : (mendOut es k day).length ≤ es.length := by
  unfold mendOut
  split
  · split
    · rw [List.length_set]; omega
    · simp
  · simp
set_option maxHeartbeats 1000000 in
theorem impl_MendDefect (A : Option Addr) (n c : Nat) (es : List Q4) (k day : Int) (w : World) (hmax : n ≤ 1048576) (h : Sl w w.heap.size 4 Q4.cells A n es) :
    Calls Try.prog 29 #[.slice A n c, .int .i64 k, .int .i64 day] w fun e w' => ∃ v, e = .returned (.tuple #[v, .int .i64 (mendCode es k day)]) ∧ Own w' w.heap.size 45 4 Q4.cells v (mendOut es k day) ∧ Below w.heap.size w w' := by
  rcases Bool.eq_false_or_eq_true (defectsOk es) with g1 | g1
  · rcases Bool.eq_false_or_eq_true (inR k 0 ((es.length : Int) - 1)) with g2 | g2
    · have g2' : inR k 0 ((n : Int) - 1) = true := by rw [← h.len]; exact g2
      obtain ⟨j1, j2⟩ := inR_iff.1 g2'
      obtain ⟨k, rfl⟩ : ∃ kk : Nat, k = (kk : Int) := ⟨k.toNat, by omega⟩
      have hkn : k < n := by omega
      obtain ⟨e, he⟩ := h.get hkn
      obtain ⟨b, off, rfl, hb, H⟩ := h.at_ (by omega)
      clear j1 j2
      rcases Bool.eq_false_or_eq_true (inR day 1 100000) with g3 | g3
      · by_cases e1 : e.d = 0
        · have e1' : (e.d != 0) = false := by simpa using e1
          by_cases e2 : day < e.c
          · have hc : mendCode es k day = 6 := by rw [mendCode_at g1 g2 g3 he, if_neg (by simpa using e1), if_pos e2]
            rw [hc, mendOut_neg (by omega)]
            clear hc
            go_enter Try.func29, Try.ntmps29
            go_wp2_with (first
              | (go_at_call 21; refine (impl_ValidDefects _ _ _ es _ hmax h).mono ?_; rintro e w1 ⟨rfl, hb1⟩; rw [g1]; have hbb := hb1; obtain ⟨c0, c1, c2, c3⟩ := (H.below hbb hb).q4 he)
              | (go_at_call 53; refine (impl_size_impl.Defect _ _ _ _ (by omega)).mono ?_; rintro e w' ⟨rfl, rfl⟩)
              | (go_at_call 45; refine (impl_in _ _ _ _).mono ?_; rintro e w' ⟨rfl, rfl⟩; rw [g2'])
              | (go_at_call 54; refine (impl_isDate _ _).mono ?_; rintro e w' ⟨rfl, rfl⟩; rw [g3]))
            go_ret2
            exact ⟨_, rfl, own_new_empty _ _ _ _ _ hbb.size, below_al hbb _⟩
          · have hc : mendCode es k day = 0 := by rw [mendCode_at g1 g2 g3 he, if_neg (by simpa using e1), if_neg e2]
            rw [hc, mendOut_pos hc he]
            have He := Lib.hid he
            have e2' : e.c ≤ day := by omega
            clear hc e1
            go_enter Try.func29, Try.ntmps29
            go_wp2_with (first
              | (go_at_call 21; refine (impl_ValidDefects _ _ _ es _ hmax h).mono ?_; rintro e w1 ⟨rfl, hb1⟩; rw [g1]; have hbb := hb1; obtain ⟨c0, c1, c2, c3⟩ := (H.below hbb hb).q4 he)
              | (go_at_call 53; refine (impl_size_impl.Defect _ _ _ _ (by omega)).mono ?_; rintro e w' ⟨rfl, rfl⟩)
              | (go_at_call 45; refine (impl_in _ _ _ _).mono ?_; rintro e w' ⟨rfl, rfl⟩; rw [g2'])
              | (go_at_call 54; refine (impl_isDate _ _).mono ?_; rintro e w' ⟨rfl, rfl⟩; rw [g3])
              | (go_at_call 55; refine (impl_clone_Defect _ _ _ es _ hmax (h.on hbb)).mono ?_; rintro e' w3 ⟨v3, rfl, ho3, hb3⟩; obtain ⟨g3, cc3, rfl, hg3, hg4, hfr⟩ := own_block_of ho3 h.len (by omega); obtain ⟨y0, y1, y2, y3⟩ := (own_has ho3 Q4.cells_len).q4 he; simp only [Nat.zero_add] at y0 y1 y2 y3; clear he))
            go_ret2
            exact ⟨_, rfl, Own.base_le (Own.store Q4.cells_len ho3 He.out (by omega) rfl) hbb.size, below_st (below_then hbb hb3) _ (Nat.le_trans hbb.size hg3) _⟩
        · have e1' : (e.d != 0) = true := by simpa using e1
          have hc : mendCode es k day = 6 := by rw [mendCode_at g1 g2 g3 he, if_pos e1]
          rw [hc, mendOut_neg (by omega)]
          clear hc
          go_enter Try.func29, Try.ntmps29
          go_wp2_with (first
            | (go_at_call 21; refine (impl_ValidDefects _ _ _ es _ hmax h).mono ?_; rintro e w1 ⟨rfl, hb1⟩; rw [g1]; have hbb := hb1; obtain ⟨c0, c1, c2, c3⟩ := (H.below hbb hb).q4 he)
            | (go_at_call 53; refine (impl_size_impl.Defect _ _ _ _ (by omega)).mono ?_; rintro e w' ⟨rfl, rfl⟩)
            | (go_at_call 45; refine (impl_in _ _ _ _).mono ?_; rintro e w' ⟨rfl, rfl⟩; rw [g2'])
            | (go_at_call 54; refine (impl_isDate _ _).mono ?_; rintro e w' ⟨rfl, rfl⟩; rw [g3]))
          go_ret2
          exact ⟨_, rfl, own_new_empty _ _ _ _ _ hbb.size, below_al hbb _⟩
      · have hc : mendCode es k day = 2 := by simp [mendCode, g1, g3]
        rw [hc, mendOut_neg (by omega)]
        clear hc
        go_enter Try.func29, Try.ntmps29
        go_wp2_with (first
          | (go_at_call 21; refine (impl_ValidDefects _ _ _ es _ hmax h).mono ?_; rintro e w1 ⟨rfl, hb1⟩; rw [g1]; have hbb := hb1; obtain ⟨c0, c1, c2, c3⟩ := (H.below hbb hb).q4 he)
          | (go_at_call 53; refine (impl_size_impl.Defect _ _ _ _ (by omega)).mono ?_; rintro e w' ⟨rfl, rfl⟩)
          | (go_at_call 45; refine (impl_in _ _ _ _).mono ?_; rintro e w' ⟨rfl, rfl⟩; rw [g2'])
          | (go_at_call 54; refine (impl_isDate _ _).mono ?_; rintro e w' ⟨rfl, rfl⟩; rw [g3]))
        go_ret2
        exact ⟨_, rfl, own_new_empty _ _ _ _ _ hbb.size, below_al hbb _⟩
    · have g2' : inR k 0 ((n : Int) - 1) = false := by rw [← h.len]; exact g2
      have hc : mendCode es k day = 2 := by simp [mendCode, g1, g2]
      rw [hc, mendOut_neg (by omega)]
      clear hc
      go_enter Try.func29, Try.ntmps29
      go_wp2_with (first
        | (go_at_call 21; refine (impl_ValidDefects _ _ _ es _ hmax h).mono ?_; rintro e w1 ⟨rfl, hb1⟩; rw [g1]; have hbb := hb1)
        | (go_at_call 53; refine (impl_size_impl.Defect _ _ _ _ (by omega)).mono ?_; rintro e w' ⟨rfl, rfl⟩)
        | (go_at_call 45; refine (impl_in _ _ _ _).mono ?_; rintro e w' ⟨rfl, rfl⟩; rw [g2'])
        | (go_at_call 54; refine (impl_isDate _ _).mono ?_; rintro e w' ⟨rfl, rfl⟩; rw [g3]))
      go_ret2
      exact ⟨_, rfl, own_new_empty _ _ _ _ _ hbb.size, below_al hbb _⟩
  · have hc : mendCode es k day = 1 := by simp [mendCode, g1]
    rw [hc, mendOut_neg (by omega)]
    clear hc
    go_enter Try.func29, Try.ntmps29
    go_wp2_with (first
      | (go_at_call 21; refine (impl_ValidDefects _ _ _ es _ hmax h).mono ?_; rintro e w1 ⟨rfl, hb1⟩; rw [g1]; have hbb := hb1)
      | (go_at_call 53; refine (impl_size_impl.Defect _ _ _ _ (by omega)).mono ?_; rintro e w' ⟨rfl, rfl⟩)
      | (go_at_call 45; refine (impl_in _ _ _ _).mono ?_; rintro e w' ⟨rfl, rfl⟩; rw [g2'])
      | (go_at_call 54; refine (impl_isDate _ _).mono ?_; rintro e w' ⟨rfl, rfl⟩; rw [g3]))
    go_ret2
    exact ⟨_, rfl, own_new_empty _ _ _ _ _ hbb.size, below_al hbb _⟩
set_option maxHeartbeats 1000000 in
theorem spec_MendDefect (A : Option Addr) (n c : Nat) (es : List Q4) (k day : Int) (w : World) (hmax : n ≤ 1048576) (h : Sl w w.heap.size 4 Q4.cells A n es) :
    Calls Try.prog 28 #[.slice A n c, .int .i64 k, .int .i64 day] w fun e w' => ∃ v, e = .returned (.tuple #[v, .int .i64 (mendCode es k day)]) ∧ Own w' w.heap.size 45 4 Q4.cells v (mendOut es k day) ∧ Below w.heap.size w w' := by
  obtain ⟨i0, hi, hz0, hz1, hz2⟩ := info_parts info_Defect
  rcases Bool.eq_false_or_eq_true (defectsOk es) with g1 | g1
  · rcases Bool.eq_false_or_eq_true (inR k 0 ((es.length : Int) - 1)) with g2 | g2
    · have g2' : inR k 0 ((n : Int) - 1) = true := by rw [← h.len]; exact g2
      obtain ⟨j1, j2⟩ := inR_iff.1 g2'
      obtain ⟨k, rfl⟩ : ∃ kk : Nat, k = (kk : Int) := ⟨k.toNat, by omega⟩
      have hkn : k < n := by omega
      obtain ⟨e, he⟩ := h.get hkn
      obtain ⟨b, off, rfl, hb, H⟩ := h.at_ (by omega)
      clear j1 j2
      rcases Bool.eq_false_or_eq_true (inR day 1 100000) with g3 | g3
      · by_cases e1 : e.d = 0
        · have e1' : (e.d != 0) = false := by simpa using e1
          by_cases e2 : day < e.c
          · have hc : mendCode es k day = 6 := by rw [mendCode_at g1 g2 g3 he, if_neg (by simpa using e1), if_pos e2]
            rw [hc, mendOut_neg (by omega)]
            clear hc
            go_enter Try.func28, Try.ntmps28
            go_wp2_with (first
              | (go_at_call 49; refine (spec_l18Ok _ _ _ es _ hmax h).mono ?_; rintro e w1 ⟨rfl, hb1⟩; rw [g1]; have hbb := hb1; obtain ⟨c0, c1, c2, c3⟩ := (H.below hbb hb).q4 he)
              | (go_at_call 43; refine (spec_l00In _ _ _ _).mono ?_; rintro e w' ⟨rfl, rfl⟩; (first | rw [g2'] | rw [g3])))
            go_ret2
            exact ⟨_, rfl, own_nil _ _ _ _ _, hbb⟩
          · have hc : mendCode es k day = 0 := by rw [mendCode_at g1 g2 g3 he, if_neg (by simpa using e1), if_neg e2]
            rw [hc, mendOut_pos hc he]
            have He := Lib.hid he
            have e2' : e.c ≤ day := by omega
            clear hc e1
            go_enter Try.func28, Try.ntmps28
            go_wp2_with (first
              | (go_at_call 49; refine (spec_l18Ok _ _ _ es _ hmax h).mono ?_; rintro e w1 ⟨rfl, hb1⟩; rw [g1]; have hbb := hb1; obtain ⟨c0, c1, c2, c3⟩ := (H.below hbb hb).q4 he)
              | (go_at_call 43; refine (spec_l00In _ _ _ _).mono ?_; rintro e w' ⟨rfl, rfl⟩; (first | rw [g2'] | rw [g3]))
              | (at_builtin; refine wpList_app rfl _ _ 28 rfl w.heap.size 45 i0 _ 4 32 Try.underlying28 hi hz0 hz1 hz2 rfl (by omega) Q4.cells_len q4_one _ ([] : List Q4) es rfl (own_new_empty _ _ _ _ _ hbb.size) w.heap.size _ n c rfl (h.below (below_al hbb _)) (by simp) (by omega) (by omega) (by have := hbb.size; simp; omega) ?_; intro v3 w3 ho3 hg3; rw [List.nil_append] at ho3; have hb3 := own_grown (below_al hbb (.cells #[] 45)) (own_new_empty _ w.heap.size _ 4 Q4.cells hbb.size) (Nat.le_refl _) (by have := hbb.size; simp; omega) hg3; obtain ⟨g3, cc3, rfl, hg3, hg4, hfr⟩ := own_block_of ho3 h.len (by omega); obtain ⟨y0, y1, y2, y3⟩ := (own_has ho3 Q4.cells_len).q4 he; simp only [Nat.zero_add] at y0 y1 y2 y3; clear he))
            go_ret2
            exact ⟨_, rfl, own_alloc (own_store4 ho3 He.out _ _ _ _) _, below_al (below_st (below_st (below_st (below_st hb3 _ hg3 _) _ hg3 _) _ hg3 _) _ hg3 _) _⟩
        · have e1' : (e.d != 0) = true := by simpa using e1
          have hc : mendCode es k day = 6 := by rw [mendCode_at g1 g2 g3 he, if_pos e1]
          rw [hc, mendOut_neg (by omega)]
          clear hc
          go_enter Try.func28, Try.ntmps28
          go_wp2_with (first
            | (go_at_call 49; refine (spec_l18Ok _ _ _ es _ hmax h).mono ?_; rintro e w1 ⟨rfl, hb1⟩; rw [g1]; have hbb := hb1; obtain ⟨c0, c1, c2, c3⟩ := (H.below hbb hb).q4 he)
            | (go_at_call 43; refine (spec_l00In _ _ _ _).mono ?_; rintro e w' ⟨rfl, rfl⟩; (first | rw [g2'] | rw [g3])))
          go_ret2
          exact ⟨_, rfl, own_nil _ _ _ _ _, hbb⟩
      · have hc : mendCode es k day = 2 := by simp [mendCode, g1, g3]
        rw [hc, mendOut_neg (by omega)]
        clear hc
        go_enter Try.func28, Try.ntmps28
        go_wp2_with (first
          | (go_at_call 49; refine (spec_l18Ok _ _ _ es _ hmax h).mono ?_; rintro e w1 ⟨rfl, hb1⟩; rw [g1]; have hbb := hb1; obtain ⟨c0, c1, c2, c3⟩ := (H.below hbb hb).q4 he)
          | (go_at_call 43; refine (spec_l00In _ _ _ _).mono ?_; rintro e w' ⟨rfl, rfl⟩; (first | rw [g2'] | rw [g3])))
        go_ret2
        exact ⟨_, rfl, own_nil _ _ _ _ _, hbb⟩
    · have g2' : inR k 0 ((n : Int) - 1) = false := by rw [← h.len]; exact g2
      have hc : mendCode es k day = 2 := by simp [mendCode, g1, g2]
      rw [hc, mendOut_neg (by omega)]
      clear hc
      go_enter Try.func28, Try.ntmps28
      go_wp2_with (first
        | (go_at_call 49; refine (spec_l18Ok _ _ _ es _ hmax h).mono ?_; rintro e w1 ⟨rfl, hb1⟩; rw [g1]; have hbb := hb1)
        | (go_at_call 43; refine (spec_l00In _ _ _ _).mono ?_; rintro e w' ⟨rfl, rfl⟩; (first | rw [g2'] | rw [g3])))
      go_ret2
      exact ⟨_, rfl, own_nil _ _ _ _ _, hbb⟩
  · have hc : mendCode es k day = 1 := by simp [mendCode, g1]
    rw [hc, mendOut_neg (by omega)]
    clear hc
    go_enter Try.func28, Try.ntmps28
    go_wp2_with (first
      | (go_at_call 49; refine (spec_l18Ok _ _ _ es _ hmax h).mono ?_; rintro e w1 ⟨rfl, hb1⟩; rw [g1]; have hbb := hb1)
      | (go_at_call 43; refine (spec_l00In _ _ _ _).mono ?_; rintro e w' ⟨rfl, rfl⟩; (first | rw [g2'] | rw [g3])))
    go_ret2
    exact ⟨_, rfl, own_nil _ _ _ _ _, hbb⟩

end Go.Proofs.Ytccajbnklegniaa

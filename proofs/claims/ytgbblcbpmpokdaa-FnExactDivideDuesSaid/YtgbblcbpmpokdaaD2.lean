/- Walks over functions of this seat, by contract. Conditions: those that each theorem states. -/
import Derived.Test.YtgbblcbpmpokdaaDe
import Derived.Test.YtgbblcbpmpokdaaTq
import Derived.Test.YtgbblcbpmpokdaaTi
namespace Go.Proofs.Ytgbblcbpmpokdaa
open Go.RowKit Go.Sort

def tri (q : Q4) : List Int := [q.c, q.a, q.b]
theorem tri_len (q : Q4) : (tri q).length = 3 := rfl
def triEq (p q : Q4) (k : Nat) : Prop := (0 < k → p.c = q.c) ∧ (1 < k → p.a = q.a) ∧ (2 < k → p.b = q.b)
theorem tri_step {p q : Q4} {k : Nat} {x y : Int} (hk : k < 3) (h : triEq p q k) (hx : (tri p)[k]? = some x) (hy : (tri q)[k]? = some y) : (x < y → dLt p q = true) ∧ (y < x → dLt q p = true) ∧ (x = y → triEq p q (k + 1)) := by
  have hk2 : k = 0 ∨ k = 1 ∨ k = 2 := by omega
  obtain ⟨h0, h1, h2⟩ := h
  rcases hk2 with rfl | rfl | rfl
  · simp [tri] at hx hy; subst hx; subst hy
    simp only [dLt_iff, triEq]; omega
  · simp [tri] at hx hy; subst hx; subst hy
    simp only [dLt_iff, triEq]; omega
  · simp [tri] at hx hy; subst hx; subst hy
    simp only [dLt_iff, triEq]; omega
theorem tri_end {p q : Q4} (h : triEq p q 3) : dCmp p q = 0 := by
  obtain ⟨h0, h1, h2⟩ := h
  rw [dCmp_zero, dLt_no, dLt_no]; omega
theorem has_tri (w : World) (x y z : Int) (E : Nat) : Has (w.alloc (.cells #[.int .i64 x, .int .i64 y, .int .i64 z] E)) w.heap.size 0 1 icell [x, y, z] := fun k e he j v hv => by
  have hj : j < (icell e).length := (List.getElem?_eq_some_iff.1 hv).1
  have hj0 : j = 0 := by simpa [icell] using hj
  subst hj0
  have hk : k < [x, y, z].length := (List.getElem?_eq_some_iff.1 he).1
  have hk2 : k = 0 ∨ k = 1 ∨ k = 2 := by simp at hk; omega
  simp [icell] at hv
  rcases hk2 with rfl | rfl | rfl <;> (simp at he; subst he; subst hv; rw [cell_of_row _ _ _ _ _ (0, 0) (heap_alloc_new w _)]; rfl)
set_option maxHeartbeats 400000 in
theorem spec_l18Before (p q : Q4) (w : World) : Calls Try.prog 96 #[.agg #[.int .i64 p.a, .int .i64 p.b, .int .i64 p.c, .int .i64 p.d], .agg #[.int .i64 q.a, .int .i64 q.b, .int .i64 q.c, .int .i64 q.d]] w fun e w' => e = .returned (.int .i64 (dCmp p q)) ∧ Below w.heap.size w w' := by
  go_enter Try.func96, Try.ntmps96
  go_wp2
  obtain ⟨wA, hwA⟩ : ∃ wA, wA = (w.alloc (.cells #[.int .i64 p.a, .int .i64 p.b, .int .i64 p.c, .int .i64 p.d] 65)).alloc (.cells #[.int .i64 q.a, .int .i64 q.b, .int .i64 q.c, .int .i64 q.d] 65) := ⟨_, rfl⟩
  have hA : Below w.heap.size w wA := by rw [hwA]; exact below_al (below_al (Below.refl _ _) _) _
  have hsz : wA.heap.size = w.heap.size + 1 + 1 := by rw [hwA]; simp
  obtain ⟨wB, hwB⟩ : ∃ wB, wB = (wA.alloc (.cells #[.int .i64 p.c, .int .i64 p.a, .int .i64 p.b] 2)).alloc (.cells #[.int .i64 q.c, .int .i64 q.a, .int .i64 q.b] 2) := ⟨_, rfl⟩
  have hB : Below w.heap.size w wB := by rw [hwB]; exact below_al (below_al hA _) _
  have hP : Has wB (w.heap.size + 1 + 1) 0 1 icell (tri p) := by
    have := (has_tri wA p.c p.a p.b 2).below (below_al (Below.refl _ _) (.cells #[.int .i64 q.c, .int .i64 q.a, .int .i64 q.b] 2)) (by simp)
    rw [← hwB, hsz] at this; exact this
  have hQ : Has wB (w.heap.size + 1 + 1 + 1) 0 1 icell (tri q) := by
    have := has_tri (wA.alloc (.cells #[.int .i64 p.c, .int .i64 p.a, .int .i64 p.b] 2)) q.c q.a q.b 2
    rw [← hwB] at this
    have hs2 : (wA.alloc (.cells #[.int .i64 p.c, .int .i64 p.a, .int .i64 p.b] 2)).heap.size = w.heap.size + 1 + 1 + 1 := by simp [hsz]
    rw [hs2] at this; exact this
  have hszB : wB.heap.size = w.heap.size + 1 + 1 + 1 + 1 := by rw [hwB]; simp [hsz]
  rw [← hwA, ← hwB]
  have HszB := Lib.hid hszB
  clear hwA hwB hsz hA hszB
  go_loopw [7] (fun i wr => ∃ k : Nat, k ≤ 3 ∧ i = .int .i64 k ∧ Hid (triEq p q k) ∧ Below wB.heap.size wB wr) (fun i _ => 3 - (intOf i).toNat)
  case atStart => exact ⟨0, by omega, rfl, Lib.hid ⟨by omega, by omega, by omega⟩, Below.refl _ _⟩
  case round =>
    obtain ⟨k, hk, rfl, Heq, hbel⟩ := hrel
    by_cases hlt : k < 3
    · obtain ⟨x, hx⟩ : ∃ x, (tri p)[k]? = some x := ⟨_, List.getElem?_eq_getElem (by rw [tri_len]; exact hlt)⟩
      obtain ⟨y, hy⟩ : ∃ y, (tri q)[k]? = some y := ⟨_, List.getElem?_eq_getElem (by rw [tri_len]; exact hlt)⟩
      have hs := HszB.out
      have hs2 := hbel.size
      have c0 := (hP.below hbel (by omega)).i1c (by omega) hx
      have d0 := (hQ.below hbel (by omega)).i1c (by omega) hy
      simp only [Nat.zero_add] at c0 d0
      have Hst := Lib.hid (tri_step hlt Heq.out hx hy)
      have hl0 : (0 : Int) ≤ (k : Int) := by omega
      have hl3 : (k : Int) < 3 := by omega
      have Hx := Lib.hid hx
      have Hy := Lib.hid hy
      clear hx hy hs hs2
      go_wp2_with fail
      refine wp_region_quiet_below (by kernel_rfl) (by kernel_rfl) ?_
      repeat (go_big_quiet_step (fail))
      refine wpQuiet_nil ?_
      intro wq hwq
      have hbq := below_then hbel (below_of_class hwq)
      have hs3 := hbq.size
      have hs := HszB.out
      have c1 := (hP.below hbq (by omega)).i1c (by omega) Hx.out
      have d1 := (hQ.below hbq (by omega)).i1c (by omega) Hy.out
      simp only [Nat.zero_add] at c1 d1
      clear hwq c0 d0 hs hs3
      go_wp2_with fail
      · have hxy : x < y := by assumption
        go_ret
        exact ⟨ret_int (by rw [dCmp, if_pos (Hst.out.1 hxy)]), below_then hB hbq⟩
      · have hxy : y ≤ x := by omega
        refine wp_region_quiet_below (by kernel_rfl) (by kernel_rfl) ?_
        repeat (go_big_quiet_step (fail))
        refine wpQuiet_nil ?_
        intro wz hwz
        have hbz := below_then hbq (below_of_class hwz)
        clear hwz c1 d1
        go_wp2_with fail
        · have hyx : y < x := by assumption
          go_ret
          have h1 := Hst.out.2.1 hyx
          have h2 : dLt p q = false := by
            rw [dLt_no]; rw [dLt_iff] at h1; omega
          exact ⟨ret_int (by rw [dCmp, if_neg (by simp [h2]), if_pos h1]), below_then hB hbz⟩
        · have hyx : x = y := by omega
          go_roundw
          case rel => exact ⟨k + 1, by omega, by go_num, Lib.hid (Hst.out.2.2 hyx), hbz⟩
          case measure => simp [intOf]; omega
    · go_wp2
      go_ret
      have : k = 3 := by omega
      subst this
      exact ⟨ret_int (tri_end Heq.out).symm, below_then hB hbel⟩
theorem spec_l18Before_r (p q : Q4) (r : Int) (hr : dCmp p q = r) (w : World) : Calls Try.prog 96 #[.agg #[.int .i64 p.a, .int .i64 p.b, .int .i64 p.c, .int .i64 p.d], .agg #[.int .i64 q.a, .int .i64 q.b, .int .i64 q.c, .int .i64 q.d]] w fun e w' => e = .returned (.int .i64 r) ∧ Below w.heap.size w w' := by
  subst hr; exact spec_l18Before p q w
set_option maxHeartbeats 400000 in
theorem spec_l18Ok (A : Option Addr) (n c : Nat) (es : List Q4) (w : World) (hmax : n ≤ 1048576) (h : Sl w w.heap.size 4 Q4.cells A n es) :
    Calls Try.prog 71 #[.slice A n c] w fun e w' => e = .returned (.bool (defectsOk es)) ∧ Below w.heap.size w w' := by
  have Hn := Lib.hid h.len
  go_enter Try.func71, Try.ntmps71
  go_wp2
  go_loopw [3] (fun i wr => ∃ k : Nat, k ≤ n ∧ i = .int .i64 k ∧ okTo defectOk dLt es k ∧ Below w.heap.size w wr) (fun i _ => n - (intOf i).toNat)
  case atStart => exact ⟨0, by omega, rfl, okTo_zero, Below.refl _ _⟩
  case round =>
    obtain ⟨k, hk, rfl, hgood, hbel⟩ := hrel
    have Hgood := Lib.hid hgood
    clear hgood
    by_cases hlt : k < n
    · obtain ⟨b, off, rfl, hb, H⟩ := h.at_ (by omega)
      obtain ⟨e, he⟩ := h.get hlt
      obtain ⟨c0, c1, c2, c3⟩ := (H.below hbel hb).q4c (Nat.lt_of_lt_of_le hb hbel.size) he
      have He := Lib.hid he
      clear he
      go_wp2
      by_cases hok : defectOk e = true
      · by_cases hk0 : 0 < k
        · obtain ⟨e', he'⟩ := h.get (k := k - 1) (by omega)
          obtain ⟨d0, d1, d2, d3⟩ := (H.below hbel hb).q4c (Nat.lt_of_lt_of_le hb hbel.size) he'
          have He' := Lib.hid he'
          clear he'
          obtain ⟨r, hr⟩ : ∃ r, dCmp e' e = r := ⟨_, rfl⟩
          have Hr := Lib.hid hr
          have hrr : -1 ≤ r ∧ r ≤ 1 := by rw [← hr]; exact dCmp_bd _ _
          clear hr
          rcases Int.lt_or_le r 0 with hr0 | hr0
          · refine wp_region_quiet_below (by kernel_rfl) (by kernel_rfl) ?_
            repeat (go_big_quiet_step (first | exact Calls.regrown_of (spec_l18One_r e true hok _) | exact Calls.regrown_of (spec_l18Before_r e' e r Hr.out _)))
            refine wpQuiet_nil ?_
            intro wq hwq
            have hbq := below_then hbel (below_of_class hwq)
            clear hwq c0 c1 c2 c3 d0 d1 d2 d3
            have hlt' : dLt e' e = true := dCmp_neg.1 (by rw [Hr.out]; exact hr0)
            go_wp2
            go_roundw
            case rel =>
              exact ⟨k + 1, by omega, by go_num, okTo_succ Hgood.out He.out hok (fun x _ hx => by rw [He'.out] at hx; injection hx with hx; subst hx; exact hlt'), hbq⟩
            case measure => simp [intOf]; omega
          · refine wp_region_quiet_below (by kernel_rfl) (by kernel_rfl) ?_
            repeat (go_big_quiet_step (first | exact Calls.regrown_of (spec_l18One_r e true hok _) | exact Calls.regrown_of (spec_l18Before_r e' e r Hr.out _)))
            refine wpQuiet_nil ?_
            intro wq hwq
            have hbq := below_then hbel (below_of_class hwq)
            clear hwq c0 c1 c2 c3 d0 d1 d2 d3
            have hlt' : dLt e' e = false := by
              cases hx : dLt e' e with
              | false => rfl
              | true => have := dCmp_neg.2 hx; rw [Hr.out] at this; omega
            go_wp2
            go_ret
            have hk1 : k - 1 + 1 = k := by omega
            exact ⟨ret_bool (by rw [defectsOk, okList_no2 (k := k - 1) He'.out (by rw [hk1]; exact He.out) hlt']; rfl), hbq⟩
        · refine wp_region_quiet_below (by kernel_rfl) (by kernel_rfl) ?_
          repeat (go_big_quiet_step (exact Calls.regrown_of (spec_l18One_r e true hok _)))
          refine wpQuiet_nil ?_
          intro wq hwq
          have hbq := below_then hbel (below_of_class hwq)
          clear hwq c0 c1 c2 c3
          go_wp2
          go_roundw
          case rel => exact ⟨k + 1, by omega, by go_num, okTo_succ Hgood.out He.out hok (fun x h0 _ => absurd h0 hk0), hbq⟩
          case measure => simp [intOf]; omega
      · have hok' : defectOk e = false := by simpa using hok
        refine wp_region_quiet_below (by kernel_rfl) (by kernel_rfl) ?_
        repeat (go_big_quiet_step (exact Calls.regrown_of (spec_l18One_r e false hok' _)))
        refine wpQuiet_nil ?_
        intro wq hwq
        have hbq := below_then hbel (below_of_class hwq)
        clear hwq c0 c1 c2 c3
        go_wp2
        go_ret
        exact ⟨ret_bool (by rw [defectsOk, okList_no1 He.out hok']; rfl), hbq⟩
    · go_wp2
      go_ret
      have hkn : k = n := by omega
      subst hkn
      exact ⟨ret_bool (by rw [defectsOk, okTo_all Hgood.out Hn.out, Hn.out]; simp; omega), hbel⟩
set_option maxHeartbeats 400000 in
theorem impl_all_Defect (A : Option Addr) (n c : Nat) (es : List Q4) (w : World) (hmax : n ≤ 1048576) (h : Sl w w.heap.size 4 Q4.cells A n es) :
    Calls Try.prog 98 #[.slice A n c, .func (.func 99) #[] #[]] w fun e w' => e = .returned (.bool (es.all defectOk)) ∧ Below w.heap.size w w' := by
  have Hn := Lib.hid h.len
  go_enter Try.func98, Try.ntmps98
  go_wp2
  go_loopw [9] (fun i wr => ∃ k : Nat, k ≤ n ∧ i = .int .i64 k ∧ (∀ j e, j < k → es[j]? = some e → defectOk e = true) ∧ Below w.heap.size w wr) (fun i _ => n - (intOf i).toNat)
  case atStart => exact ⟨0, by omega, rfl, fun j e hj => by omega, Below.refl _ _⟩
  case round =>
    obtain ⟨k, hk, rfl, hgood, hbel⟩ := hrel
    have Hgood := Lib.hid hgood
    clear hgood
    by_cases hlt : k < n
    · obtain ⟨b, off, rfl, hb, H⟩ := h.at_ (by omega)
      obtain ⟨e, he⟩ := h.get hlt
      obtain ⟨c0, c1, c2, c3⟩ := (H.below hbel hb).q4 he
      have He := Lib.hid he
      clear he
      go_wp2_with (go_at_call 99; refine (impl_isDefect e _).mono ?_; rintro e' w' ⟨rfl, hb1⟩; have hb2 := below_then (below_al hbel _) hb1)
      · have hne : (!defectOk e) = true := by assumption
        go_ret
        exact ⟨ret_bool (by rw [all_no He.out (by simpa using hne)]), hb2⟩
      · have heq : (!defectOk e) = false := by assumption
        go_roundw
        case rel => exact ⟨k + 1, by omega, by go_num, fun j x hj hx => if h1 : j < k then Hgood.out j x h1 hx else by
          have : j = k := by omega
          subst this; rw [He.out] at hx; injection hx with hx; subst hx; simpa using heq, hb2⟩
        case measure => simp [intOf]; omega
    · go_wp2
      go_ret
      have hkn : k = n := by omega
      subst hkn
      exact ⟨ret_bool (by symm; rw [all_iff_get]; exact fun j x hx => Hgood.out j x (by rw [← Hn.out]; exact (List.getElem?_eq_some_iff.1 hx).1) hx), hbel⟩
set_option maxHeartbeats 400000 in
theorem impl_ValidDefects (A : Option Addr) (n c : Nat) (es : List Q4) (w : World) (hmax : n ≤ 1048576) (h : Sl w w.heap.size 4 Q4.cells A n es) :
    Calls Try.prog 74 #[.slice A n c] w fun e w' => e = .returned (.bool (defectsOk es)) ∧ Below w.heap.size w w' := by
  have Hn := Lib.hid h.len
  go_enter Try.func74, Try.ntmps74
  go_wp2
  go_loopw [3] (fun i wr => ∃ k : Nat, 1 ≤ k ∧ (k ≤ n ∨ k = 1) ∧ i = .int .i64 k ∧ (∀ j e e', j + 1 < k → es[j]? = some e → es[j+1]? = some e' → dLt e e' = true) ∧ Below w.heap.size w wr) (fun i _ => n - (intOf i).toNat)
  case atStart => exact ⟨1, by omega, by omega, rfl, fun j e e' hj => by omega, Below.refl _ _⟩
  case round =>
    obtain ⟨k, hk1, hk, rfl, hgood, hbel⟩ := hrel
    have Hgood := Lib.hid hgood
    clear hgood
    by_cases hlt : k < n
    · obtain ⟨b, off, rfl, hb, H⟩ := h.at_ (by omega)
      obtain ⟨e, he⟩ := h.get hlt
      obtain ⟨c0, c1, c2, c3⟩ := (H.below hbel hb).q4c (Nat.lt_of_lt_of_le hb hbel.size) he
      obtain ⟨e', he'⟩ := h.get (k := k - 1) (by omega)
      obtain ⟨d0, d1, d2, d3⟩ := (H.below hbel hb).q4c (Nat.lt_of_lt_of_le hb hbel.size) he'
      have He := Lib.hid he
      have He' := Lib.hid he'
      clear he he' hk
      obtain ⟨r, hr⟩ : ∃ r, dLt e' e = r := ⟨_, rfl⟩
      have Hr := Lib.hid hr
      clear hr
      go_wp2
      refine wp_region_quiet_below (by kernel_rfl) (by kernel_rfl) ?_
      repeat (go_big_quiet_step (exact Calls.regrown_of (impl_lessDefect_r e' e r Hr.out _)))
      refine wpQuiet_nil ?_
      intro wq hwq
      have hbq := below_then hbel (below_of_class hwq)
      clear hwq c0 c1 c2 c3 d0 d1 d2 d3
      go_wp2
      · have hrf : (!r) = true := by assumption
        have hr0 : dLt e' e = false := by rw [Hr.out]; simpa using hrf
        go_ret
        have hk2 : k - 1 + 1 = k := by omega
        exact ⟨ret_bool (by rw [defectsOk, okList_no2 (k := k - 1) He'.out (by rw [hk2]; exact He.out) hr0]; rfl), hbq⟩
      · have hrf : (!r) = false := by assumption
        have hr0 : dLt e' e = true := by rw [Hr.out]; simpa using hrf
        go_roundw
        case rel =>
          refine ⟨k + 1, by omega, by omega, by go_num, fun j x x' hj hx hx' => ?_, hbq⟩
          rcases Nat.lt_or_ge (j + 1) k with h1 | h1
          · exact Hgood.out j x x' h1 hx hx'
          · have : j = k - 1 := by omega
            subst this
            have hk2 : k - 1 + 1 = k := by omega
            rw [He'.out] at hx; rw [hk2, He.out] at hx'
            injection hx with hx; injection hx' with hx'
            subst hx; subst hx'; exact hr0
        case measure => simp [intOf]; omega
    · clear hk
      go_wp2_with (go_at_call 98; refine (impl_all_Defect _ _ _ es _ hmax (h.on hbel)).mono ?_; rintro e' w' ⟨rfl, hb1⟩)
      all_goals
        have hpair : okList defectOk dLt es = es.all defectOk := okList_all fun j x x' hx hx' =>
          Hgood.out j x x' (by have := (List.getElem?_eq_some_iff.1 hx').1; have := Hn.out; omega) hx hx'
        go_ret
        refine ⟨ret_bool ?_, by first | exact hbel | exact below_then hbel hb1⟩
        rw [defectsOk, hpair, Hn.out]
        have hd : decide (n ≤ 60) = true ∨ decide (n ≤ 60) = false := by cases decide (n ≤ 60) <;> simp
        first
          | (have : n ≤ 60 := by omega
             simp [this])
          | (have : ¬ n ≤ 60 := by omega
             simp [this])

end Go.Proofs.Ytgbblcbpmpokdaa

/- Walks over functions of this seat, by contract. Conditions: those that each theorem states. -/
import Derived.Test.YtgbblcbpmpokdaaBase
namespace Go.Proofs.Ytgbblcbpmpokdaa
open Go.RowKit Go.Sort

theorem impl_isDate (n : Int) (w : World) : Calls Try.prog 75 #[.int .i64 n] w fun e w' => e = .returned (.bool (inR n 1 100000)) ∧ w = w' := by
  go_enter Try.func75, Try.ntmps75
  go_wp2_with (go_at_call 100; refine (impl_ValidDay _ _).mono ?_; rintro e w' ⟨rfl, rfl⟩)
  all_goals (go_ret; exact ⟨ret_bool (by simp_all [inR] <;> omega), rfl⟩)
theorem impl_isMetre (n : Int) (w : World) : Calls Try.prog 45 #[.int .i64 n] w fun e w' => e = .returned (.bool (inR n 0 300000)) ∧ w = w' := by
  go_enter Try.func45, Try.ntmps45
  go_wp2_with (go_at_call 56; refine (impl_in _ _ _ _).mono ?_; rintro e w' ⟨rfl, rfl⟩)
  all_goals (go_ret; exact ⟨rfl, rfl⟩)
def defectOk (q : Q4) : Bool := inR q.a 0 300000 && inR q.b 1 5 && inR q.c 1 100000 && (q.d == 0 || inR q.d q.c 100000)
def dLt (p q : Q4) : Bool := decide (p.c < q.c) || (p.c == q.c && (decide (p.a < q.a) || (p.a == q.a && decide (p.b < q.b))))
def dCmp (p q : Q4) : Int := if dLt p q = true then -1 else if dLt q p = true then 1 else 0
def defectsOk (es : List Q4) : Bool := okList defectOk dLt es && decide (es.length ≤ 60)
theorem defectOk_iff {q : Q4} : defectOk q = true ↔ (0 ≤ q.a ∧ q.a ≤ 300000) ∧ (1 ≤ q.b ∧ q.b ≤ 5) ∧ (1 ≤ q.c ∧ q.c ≤ 100000) ∧ (q.d = 0 ∨ q.c ≤ q.d ∧ q.d ≤ 100000) := by
  simp [defectOk, inR_iff, and_assoc]
theorem dLt_iff {p q : Q4} : dLt p q = true ↔ p.c < q.c ∨ (p.c = q.c ∧ (p.a < q.a ∨ (p.a = q.a ∧ p.b < q.b))) := by
  simp [dLt]
theorem dLt_no {p q : Q4} : dLt p q = false ↔ ¬ (p.c < q.c ∨ (p.c = q.c ∧ (p.a < q.a ∨ (p.a = q.a ∧ p.b < q.b)))) := by
  rw [← dLt_iff]; simp
theorem dCmp_neg {p q : Q4} : dCmp p q < 0 ↔ dLt p q = true := by
  unfold dCmp; split <;> rename_i h
  · simp [h]
  · split <;> simp [h]
theorem dCmp_zero {p q : Q4} : dCmp p q = 0 ↔ dLt p q = false ∧ dLt q p = false := by
  unfold dCmp; split <;> rename_i h
  · simp [h]
  · split <;> rename_i h2 <;> simp_all
theorem dCmp_bd (p q : Q4) : -1 ≤ dCmp p q ∧ dCmp p q ≤ 1 := by unfold dCmp; split <;> (try split) <;> omega
theorem defectsOk_iff {es : List Q4} : defectsOk es = true ↔ okList defectOk dLt es = true ∧ es.length ≤ 60 := by simp [defectsOk]
theorem defects_all {es : List Q4} (h : defectsOk es = true) : es.length ≤ 60 ∧ ∀ e ∈ es, defectOk e = true := by
  obtain ⟨h1, h2⟩ := defectsOk_iff.1 h
  refine ⟨h2, fun e he => ?_⟩
  obtain ⟨k, hk, rfl⟩ := List.mem_iff_getElem.1 he
  exact (okList_iff.1 h1).1 k _ (List.getElem?_eq_getElem hk)
theorem spec_l18One (q : Q4) (w : World) : Calls Try.prog 95 #[.agg #[.int .i64 q.a, .int .i64 q.b, .int .i64 q.c, .int .i64 q.d]] w fun e w' => e = .returned (.bool (defectOk q)) ∧ Below w.heap.size w w' := by
  go_enter Try.func95, Try.ntmps95
  go_wp2_with (go_at_call 38; refine (spec_l00In _ _ _ _).mono ?_; rintro e w' ⟨rfl, rfl⟩)
  all_goals (go_ret; exact ⟨ret_bool (by simp_all [defectOk]), below_al (Below.refl _ _) _⟩)
theorem spec_l18One_r (q : Q4) (r : Bool) (hr : defectOk q = r) (w : World) : Calls Try.prog 95 #[.agg #[.int .i64 q.a, .int .i64 q.b, .int .i64 q.c, .int .i64 q.d]] w fun e w' => e = .returned (.bool r) ∧ Below w.heap.size w w' := by
  subst hr; exact spec_l18One q w
theorem impl_isDefect (q : Q4) (w : World) : Calls Try.prog 99 #[.agg #[.int .i64 q.a, .int .i64 q.b, .int .i64 q.c, .int .i64 q.d]] w fun e w' => e = .returned (.bool (defectOk q)) ∧ Below w.heap.size w w' := by
  go_enter Try.func99, Try.ntmps99
  go_wp2_with (first
    | (go_at_call 45; refine (impl_isMetre _ _).mono ?_; rintro e w' ⟨rfl, rfl⟩)
    | (go_at_call 75; refine (impl_isDate _ _).mono ?_; rintro e w' ⟨rfl, rfl⟩)
    | (go_at_call 100; refine (impl_ValidDay _ _).mono ?_; rintro e w' ⟨rfl, rfl⟩)
    | (go_at_call 56; refine (impl_in _ _ _ _).mono ?_; rintro e w' ⟨rfl, rfl⟩))
  all_goals (go_ret; exact ⟨ret_bool (by simp_all [defectOk, inR]; try omega), below_al (Below.refl _ _) _⟩)
theorem impl_lessDefect (p q : Q4) (w : World) : Calls Try.prog 97 #[.agg #[.int .i64 p.a, .int .i64 p.b, .int .i64 p.c, .int .i64 p.d], .agg #[.int .i64 q.a, .int .i64 q.b, .int .i64 q.c, .int .i64 q.d]] w fun e w' => e = .returned (.bool (dLt p q)) ∧ Below w.heap.size w w' := by
  by_cases h1 : p.c = q.c
  · have h1' : (p.c == q.c) = true := by simpa using h1
    have h1'' : (p.c != q.c) = false := by simpa using h1
    by_cases h2 : p.a = q.a
    · have h2'' : (p.a != q.a) = false := by simpa using h2
      have hd : dLt p q = decide (p.b < q.b) := by rw [Bool.eq_iff_iff, dLt_iff]; simp; omega
      rw [hd]; clear h1 h2 hd h1'
      go_enter Try.func97, Try.ntmps97
      go_wp2
      go_ret
      exact ⟨rfl, below_al (below_al (Below.refl _ _) _) _⟩
    · have h2'' : (p.a != q.a) = true := by simpa using h2
      have hd : dLt p q = decide (p.a < q.a) := by rw [Bool.eq_iff_iff, dLt_iff]; simp; omega
      rw [hd]; clear h1 h2 hd h1'
      go_enter Try.func97, Try.ntmps97
      go_wp2
      go_ret
      exact ⟨rfl, below_al (below_al (Below.refl _ _) _) _⟩
  · have h1'' : (p.c != q.c) = true := by simpa using h1
    have hd : dLt p q = decide (p.c < q.c) := by rw [Bool.eq_iff_iff, dLt_iff]; simp; omega
    rw [hd]; clear h1 hd
    go_enter Try.func97, Try.ntmps97
    go_wp2
    go_ret
    exact ⟨rfl, below_al (below_al (Below.refl _ _) _) _⟩
theorem impl_lessDefect_r (p q : Q4) (r : Bool) (hr : dLt p q = r) (w : World) : Calls Try.prog 97 #[.agg #[.int .i64 p.a, .int .i64 p.b, .int .i64 p.c, .int .i64 p.d], .agg #[.int .i64 q.a, .int .i64 q.b, .int .i64 q.c, .int .i64 q.d]] w fun e w' => e = .returned (.bool r) ∧ Below w.heap.size w w' := by
  subst hr; exact impl_lessDefect p q w

end Go.Proofs.Ytgbblcbpmpokdaa

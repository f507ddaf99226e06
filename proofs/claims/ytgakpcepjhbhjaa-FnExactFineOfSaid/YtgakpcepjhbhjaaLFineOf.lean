/- Proves: the law FineOf returns true for every input and leaves its arguments as they were (the given statement). Conditions: none beyond the statement itself. -/
import Derived.Test.YtgakpcepjhbhjaaB7
import Derived.Test.YtgakpcepjhbhjaaRow
namespace Go.Proofs.Ytgakpcepjhbhjaa
open Go.RowKit Go.Sort

set_option maxHeartbeats 4000000 in
theorem law_FineOf (q0 : Q4) (x1 : Int) (x2 : Int) (w : World)  :
    Calls Try.prog 3 #[.agg #[.int .i64 q0.a, .int .i64 q0.b, .int .i64 q0.c, .int .i64 q0.d], .int .i64 x1, .int .i64 x2] w fun e w' => e = .returned (.bool true) ∧ Below w.heap.size w w' := by
  go_enter Try.func3, Try.ntmps3
  have B0 := below_al (Below.refl _ w) (.cells #[.int .i64 q0.a, .int .i64 q0.b, .int .i64 q0.c, .int .i64 q0.d] 23)
  go_wp2_with fail
  refine (laws_toBill q0 _).mono ?_
  rintro e w1 ⟨rfl, b1⟩
  have B1 := below_then B0 b1
  have X1 := b1
  obtain ⟨y10, y11, y12, y13⟩ := box4k X1
  go_wp2_with fail
  refine (spec_FineOf q0 x1 x2 _).mono ?_
  rintro e w2 ⟨rfl, b2⟩
  have B2 := below_then B1 b2
  have X2 := below_then X1 b2
  obtain ⟨y20, y21, y22, y23⟩ := box4k X2
  go_wp2_with fail
  refine (laws_toBill q0 _).mono ?_
  rintro e w3 ⟨rfl, b3⟩
  have B3 := below_then B2 b3
  have X3 := below_then X2 b3
  obtain ⟨y30, y31, y32, y33⟩ := box4k X3
  go_wp2_with fail
  refine (impl_FineOf q0 x1 x2 _).mono ?_
  rintro e w4 ⟨rfl, b4⟩
  have B4 := below_then B3 b4
  have X4 := below_then X3 b4
  obtain ⟨y40, y41, y42, y43⟩ := box4k X4
  go_wp2_with fail
  go_ret
  exact ⟨rfl, B4⟩
open Go.ChangeShapes Go.WideShapes Go.ChangeAt Go.Deep Go.Joins
set_option maxRecDepth 100000 in
theorem lifted_FineOf (os : Os) (started : os.Started) (H : Type) (enc : TypeId × Value → H) :
    ReturnsInHanded {} Try.checked os 3 .any (Rows.fnExactFineOfSpec.pre6 enc Try.prog Try.f3 [] false) (Rows.fnExactFineOfSpec.post enc Try.prog Try.f3 false true false false) := by
  refine lift_law (C := Try.checked) (by kernel_rfl) (by kernel_rfl) (s := Rows.fnExactFineOfSpec) (T := 4) Try.underlying4 rfl rfl ?_ (by kernel_rfl) (by kernel_rfl) Try.func3 started
    (ChangeSpec.witness6 (enc := enc) (C := Try.checked) false ⟨#[], #[.agg #[.int .i64 0, .int .i64 0, .int .i64 0, .int .i64 0], .int .i64 0, .int .i64 0], []⟩ 8 (by kernel_rfl) (by kernel_rfl) (by kernel_rfl) (by kernel_rfl)) ?_
  · intro H ds hl
    match ds, hl with
    | [d0, d1, d2], _ => rfl
  · intro W base args ds ps hval hlt hA
    have hval' : ∀ (j : Nat) t v, (#[23, 2, 2] : Array TypeId)[j]? = some t → args[j]? = some v → Value.okWide Try.prog W .any base t v := hval
    have hA' : DataW.TrodAll enc Try.prog W 0 (fun _ => true) true [23, 2, 2] args.toList ds ps := hA
    obtain ⟨v0, v1, v2, d0, d1, d2, p0, p1, p2, rfl, rfl, rfl, z0, z1, z2⟩ := trodAll_three hA'
    obtain ⟨q0, rfl⟩ := open_q4 Try.underlying23 (by kernel_rfl) (by kernel_rfl) Try.underlying2 Try.underlying2 Try.underlying2 Try.underlying2 (hval' 0 23 v0 rfl rfl) z0
    obtain ⟨x1, rfl, rfl, rfl, _⟩ := open_int Try.underlying2 (hval' 1 2 v1 rfl rfl) z1
    obtain ⟨x2, rfl, rfl, rfl, _⟩ := open_int Try.underlying2 (hval' 2 2 v2 rfl rfl) z2
    exact law_FineOf q0 x1 x2 W 
theorem row_FineOf : Rows.FnExactFineOfSaid :=
  OpenClaim.holds_of_wide 3 Try.f3 rfl rfl rfl rfl rfl rfl rfl ⟨rfl, rfl, rfl, rfl, rfl⟩ rfl rfl rfl rfl rfl (by kernel_rfl) Try.func3 (by kernel_rfl)
    (of_decide_eq_true (by kernel_rfl)) (by unfold Func.isWrapper; first | (rw [if_pos (by decide +kernel)]; kernel_rfl) | (rw [if_neg (by decide +kernel)]; exact ⟨rfl, rfl⟩))
    (fun os started H enc _ => lifted_FineOf os started H enc)

end Go.Proofs.Ytgakpcepjhbhjaa

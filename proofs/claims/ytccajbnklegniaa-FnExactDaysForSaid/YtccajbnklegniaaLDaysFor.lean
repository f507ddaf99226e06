/- Proves: the law DaysFor returns true for every input and leaves its arguments as they were (the given statement). Conditions: none beyond the statement itself. -/
import Derived.Test.YtccajbnklegniaaD4
import Derived.Test.YtccajbnklegniaaRow
namespace Go.Proofs.Ytccajbnklegniaa
open Go.RowKit Go.Sort

set_option maxHeartbeats 4000000 in
theorem law_DaysFor (x0 : Int) (w : World)  :
    Calls Try.prog 3 #[.int .i64 x0] w fun e w' => e = .returned (.bool true) ∧ Below w.heap.size w w' := by
  go_enter Try.func3, Try.ntmps3
  go_wp2_with fail
  refine (spec_DaysFor x0 _).mono ?_
  rintro e w1 ⟨rfl, b1⟩
  have B1 := below_then (Below.refl _ _) b1
  go_wp2_with fail
  refine (impl_DaysFor x0 _).mono ?_
  rintro e w2 ⟨rfl, b2⟩
  have B2 := below_then B1 b2
  go_wp2_with fail
  go_ret
  exact ⟨rfl, B2⟩
open Go.ChangeShapes Go.WideShapes Go.ChangeAt Go.Deep Go.Joins
set_option maxRecDepth 100000 in
theorem lifted_DaysFor (os : Os) (started : os.Started) (H : Type) (enc : TypeId × Value → H) :
    ReturnsInHanded {} Try.checked os 3 .any (Rows.fnExactDaysForSpec.pre6 enc Try.prog Try.f3 [] false) (Rows.fnExactDaysForSpec.post enc Try.prog Try.f3 false true false false) := by
  refine lift_law (C := Try.checked) (by kernel_rfl) (by kernel_rfl) (s := Rows.fnExactDaysForSpec) (T := 4) Try.underlying4 rfl rfl ?_ (by kernel_rfl) (by kernel_rfl) Try.func3 started
    (ChangeSpec.witness6 (enc := enc) (C := Try.checked) false ⟨#[], #[.int .i64 0], []⟩ 8 (by kernel_rfl) (by kernel_rfl) (by kernel_rfl) (by kernel_rfl)) ?_
  · intro H ds hl
    match ds, hl with
    | [d0], _ => rfl
  · intro W base args ds ps hval hlt hA
    have hval' : ∀ (j : Nat) t v, (#[2] : Array TypeId)[j]? = some t → args[j]? = some v → Value.okWide Try.prog W .any base t v := hval
    have hA' : DataW.TrodAll enc Try.prog W 0 (fun _ => true) true [2] args.toList ds ps := hA
    obtain ⟨v0, d0, rfl, rfl, z0⟩ := trodAll_one hA'
    obtain ⟨x0, rfl, rfl, rfl, _⟩ := open_int Try.underlying2 (hval' 0 2 v0 rfl rfl) z0
    exact law_DaysFor x0 W 
theorem row_DaysFor : Rows.FnExactDaysForSaid :=
  OpenClaim.holds_of_wide 3 Try.f3 rfl rfl rfl rfl rfl rfl rfl ⟨rfl, rfl, rfl, rfl, rfl⟩ rfl rfl rfl rfl rfl (by kernel_rfl) Try.func3 (by kernel_rfl)
    (of_decide_eq_true (by kernel_rfl)) (by unfold Func.isWrapper; first | (rw [if_pos (by decide +kernel)]; kernel_rfl) | (rw [if_neg (by decide +kernel)]; exact ⟨rfl, rfl⟩))
    (fun os started H enc _ => lifted_DaysFor os started H enc)

end Go.Proofs.Ytccajbnklegniaa

/- Walks over functions of this seat, by contract. Conditions: those that each theorem states. -/
import Derived.Test.YtogjkcakoahpiaaLib
namespace Go.Proofs.Ytogjkcakoahpiaa
open Go.RowKit Go.Sort

theorem impl_in (n lo hi : Int) (w : World) : Calls Try.prog 82 #[.int .i64 n, .int .i64 lo, .int .i64 hi] w fun e w' => e = .returned (.bool (inR n lo hi)) ∧ w = w' := by
  go_enter Try.func82, Try.ntmps82
  go_wp2
  all_goals (go_ret; exact ⟨ret_bool (by simp_all [inR] <;> omega), rfl⟩)
theorem spec_l00In (n lo hi : Int) (w : World) : Calls Try.prog 64 #[.int .i64 n, .int .i64 lo, .int .i64 hi] w fun e w' => e = .returned (.bool (inR n lo hi)) ∧ w = w' := by
  go_enter Try.func64, Try.ntmps64
  go_wp2
  all_goals (go_ret; exact ⟨ret_bool (by simp_all [inR] <;> omega), rfl⟩)
theorem impl_ValidDay (n : Int) (w : World) : Calls Try.prog 140 #[.int .i64 n] w fun e w' => e = .returned (.bool (inR n 0 100000)) ∧ w = w' := by
  go_enter Try.func140, Try.ntmps140
  go_wp2_with (go_at_call 82; refine (impl_in _ _ _ _).mono ?_; rintro e w' ⟨rfl, rfl⟩)
  all_goals (go_ret; exact ⟨rfl, rfl⟩)
theorem impl_isOwner (n : Int) (w : World) : Calls Try.prog 147 #[.int .i64 n] w fun e w' => e = .returned (.bool (inR n 0 39)) ∧ w = w' := by
  go_enter Try.func147, Try.ntmps147
  go_wp2_with (go_at_call 82; refine (impl_in _ _ _ _).mono ?_; rintro e w' ⟨rfl, rfl⟩)
  all_goals (go_ret; exact ⟨rfl, rfl⟩)
theorem impl_isShared (n : Int) (w : World) : Calls Try.prog 107 #[.int .i64 n] w fun e w' => e = .returned (.bool (inR n 0 1000000000)) ∧ w = w' := by
  go_enter Try.func107, Try.ntmps107
  go_wp2_with (go_at_call 82; refine (impl_in _ _ _ _).mono ?_; rintro e w' ⟨rfl, rfl⟩)
  all_goals (go_ret; exact ⟨rfl, rfl⟩)
theorem spec_l19Owner (n : Int) (w : World) : Calls Try.prog 172 #[.int .i64 n] w fun e w' => e = .returned (.bool (inR n 0 39)) ∧ w = w' := by
  go_enter Try.func172, Try.ntmps172
  go_wp2_with (go_at_call 64; refine (spec_l00In _ _ _ _).mono ?_; rintro e w' ⟨rfl, rfl⟩)
  all_goals (go_ret; exact ⟨rfl, rfl⟩)
theorem spec_l19Id (n : Int) (w : World) : Calls Try.prog 171 #[.int .i64 n] w fun e w' => e = .returned (.bool (inR n 1 9999)) ∧ w = w' := by
  go_enter Try.func171, Try.ntmps171
  go_wp2_with (go_at_call 64; refine (spec_l00In _ _ _ _).mono ?_; rintro e w' ⟨rfl, rfl⟩)
  all_goals (go_ret; exact ⟨rfl, rfl⟩)
theorem impl_isParcelId (n : Int) (w : World) : Calls Try.prog 146 #[.int .i64 n] w fun e w' => e = .returned (.bool (inR n 1 9999)) ∧ w = w' := by
  go_enter Try.func146, Try.ntmps146
  go_wp2_with (go_at_call 82; refine (impl_in _ _ _ _).mono ?_; rintro e w' ⟨rfl, rfl⟩)
  all_goals (go_ret; exact ⟨rfl, rfl⟩)
theorem impl_isParcelArea (n : Int) (w : World) : Calls Try.prog 148 #[.int .i64 n] w fun e w' => e = .returned (.bool (inR n 1 10000000)) ∧ w = w' := by
  go_enter Try.func148, Try.ntmps148
  go_wp2_with (go_at_call 82; refine (impl_in _ _ _ _).mono ?_; rintro e w' ⟨rfl, rfl⟩)
  all_goals (go_ret; exact ⟨rfl, rfl⟩)

end Go.Proofs.Ytogjkcakoahpiaa

/- Walks over functions of this seat, by contract. Conditions: those that each theorem states. -/
import Derived.Test.YtolnbbfbeieicaaLib
namespace Go.Proofs.Ytolnbbfbeieicaa
open Go.RowKit Go.Sort

theorem impl_in (n lo hi : Int) (w : World) : Calls Try.prog 16 #[.int .i64 n, .int .i64 lo, .int .i64 hi] w fun e w' => e = .returned (.bool (inR n lo hi)) ∧ w = w' := by
  go_enter Try.func16, Try.ntmps16
  go_wp2
  all_goals (go_ret; exact ⟨ret_bool (by simp_all [inR] <;> omega), rfl⟩)
theorem spec_l00In (n lo hi : Int) (w : World) : Calls Try.prog 23 #[.int .i64 n, .int .i64 lo, .int .i64 hi] w fun e w' => e = .returned (.bool (inR n lo hi)) ∧ w = w' := by
  go_enter Try.func23, Try.ntmps23
  go_wp2
  all_goals (go_ret; exact ⟨ret_bool (by simp_all [inR] <;> omega), rfl⟩)
theorem spec_l00Min (a b : Int) (w : World) : Calls Try.prog 26 #[.int .i64 a, .int .i64 b] w fun e w' => e = .returned (.int .i64 (min a b)) ∧ w = w' := by
  go_enter Try.func26, Try.ntmps26
  go_wp2
  all_goals (go_ret; exact ⟨ret_int (by omega), rfl⟩)

end Go.Proofs.Ytolnbbfbeieicaa

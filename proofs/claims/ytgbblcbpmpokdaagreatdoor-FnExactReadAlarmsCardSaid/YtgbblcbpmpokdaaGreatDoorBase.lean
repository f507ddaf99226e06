/- Walks over functions of this seat, by contract. Conditions: those that each theorem states. -/
import Derived.Test.YtgbblcbpmpokdaaGreatDoorLib
namespace Go.Proofs.YtgbblcbpmpokdaaGreatDoor
open Go.RowKit Go.Sort

theorem impl_in (n lo hi : Int) (w : World) : Calls Tryz.prog 29 #[.int .i64 n, .int .i64 lo, .int .i64 hi] w fun e w' => e = .returned (.bool (inR n lo hi)) ∧ w = w' := by
  go_enter Tryz.func29, Tryz.ntmps29
  go_wp2
  all_goals (go_ret; exact ⟨ret_bool (by simp_all [inR] <;> omega), rfl⟩)
theorem spec_l00In (n lo hi : Int) (w : World) : Calls Tryz.prog 17 #[.int .i64 n, .int .i64 lo, .int .i64 hi] w fun e w' => e = .returned (.bool (inR n lo hi)) ∧ w = w' := by
  go_enter Tryz.func17, Tryz.ntmps17
  go_wp2
  all_goals (go_ret; exact ⟨ret_bool (by simp_all [inR] <;> omega), rfl⟩)

end Go.Proofs.YtgbblcbpmpokdaaGreatDoor

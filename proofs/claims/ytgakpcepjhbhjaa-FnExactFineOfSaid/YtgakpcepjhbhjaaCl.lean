/- Walks over functions of this seat, by contract. Conditions: those that each theorem states. -/
import Derived.Test.YtgakpcepjhbhjaaB4
namespace Go.Proofs.Ytgakpcepjhbhjaa
open Go.RowKit Go.Sort

theorem q4_one (e : Q4) (u : Value) (hu : u ∈ e.cells) : u.oneCell' = true := by
  simp only [Q4.cells, List.mem_cons, List.not_mem_nil, or_false] at hu
  rcases hu with rfl | rfl | rfl | rfl <;> rfl
theorem impl_clone_Bill (A : Option Addr) (n c : Nat) (es : List Q4) (w : World) (hmax : n ≤ 1048576) (h : Sl w w.heap.size 4 Q4.cells A n es) :
    Calls Try.prog 56 #[.slice A n c] w fun e w' => ∃ v, e = .returned v ∧ Own w' w.heap.size 26 4 Q4.cells v es ∧ Below w.heap.size w w' := by
  obtain ⟨i0, hi, hz0, hz1, hz2⟩ := info_parts info_Bill
  go_enter Try.func56, Try.ntmps56
  go_wp2_with (at_builtin; refine wpList_app rfl _ _ 32 rfl w.heap.size 26 i0 _ 4 32 Try.underlying32 hi hz0 hz1 hz2 rfl (by omega) Q4.cells_len q4_one _ ([] : List Q4) es rfl (own_new_empty w w.heap.size _ 4 Q4.cells (Nat.le_refl _)) w.heap.size A n c rfl (h.below (below_al (Below.refl _ _) _)) (by simp) (by omega) (by omega) (by simp) ?_; intro v2 w2 ho2 hg2; have hb2 := own_grown (below_al (Below.refl _ w) (.cells #[] 26)) (own_new_empty w w.heap.size _ 4 Q4.cells (Nat.le_refl _)) (Nat.le_refl _) (by simp) hg2)
  go_ret
  exact ⟨_, rfl, by simpa using ho2, hb2⟩

end Go.Proofs.Ytgakpcepjhbhjaa

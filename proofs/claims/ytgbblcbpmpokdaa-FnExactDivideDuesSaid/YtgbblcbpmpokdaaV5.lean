/- Walks over functions of this seat, by contract. Conditions: those that each theorem states. -/
import Derived.Test.YtgbblcbpmpokdaaV3
import Derived.Test.YtgbblcbpmpokdaaR2
import Derived.IntWalk
import Derived.BigQuiet
import Derived.Deep.QuietTactic
namespace Go.Proofs.Ytgbblcbpmpokdaa
open Go.RowKit Go.Sort

theorem rK_at {T s x : Int} {ws : List Int} {p : Nat} (h : ws[p]? = some x) : rK (rests T s ws) (p : Int) = -(T * x % s) := by
  rw [rK, Int.toNat_natCast, rests, List.getElem?_map, h]; rfl
theorem prod_bd {T x : Int} (hT : 0 ≤ T ∧ T ≤ 1000000000) (hx : 0 ≤ x ∧ x ≤ 100000000) : 0 ≤ T * x ∧ T * x ≤ 100000000000000000 := by
  constructor
  · exact Int.mul_nonneg hT.1 hx.1
  · have := Int.mul_le_mul (a := T) (b := x) (c := 1000000000) (d := 100000000) hT.2 hx.2 hx.1 (by omega)
    omega
set_option maxHeartbeats 1000000 in
set_option maxRecDepth 100000 in
theorem impl_shareOut_1 (i j : Nat) (g0 g1 g2 g3 : Nat) (T s : Int) (A : Option Addr) (n c : Nat) (ws : List Int) (gb n2 c2 : Nat) (G : Nat → Nat) (W : World) (hi : i < n2) (hj : j < n2) (hn : n ≤ 60) (hT : 0 ≤ T ∧ T ≤ 1000000000) (hs : 0 < s) (hs6 : s ≤ 6000000000) (hws : ∀ x ∈ ws, 0 ≤ x ∧ x ≤ 100000000)
    (x0 : W.cell? ⟨g0, 0, none⟩ = some (.int .i64 T)) (x1 : W.cell? ⟨g1, 0, none⟩ = some (.slice A n c)) (x2 : W.cell? ⟨g2, 0, none⟩ = some (.slice (some ⟨gb, 0, none⟩) n2 c2)) (x3 : W.cell? ⟨g3, 0, none⟩ = some (.int .i64 s))
    (hc : ∀ t, t < n2 → W.cell? ⟨gb, t, none⟩ = some (.int .i64 (G t : Nat))) (hG : ∀ t, t < n2 → G t < n) {B : Nat} (h : Sl W B 1 icell A n ws) :
    Calls Try.prog 70 #[.int .i64 i, .int .i64 j, .pointer (some ⟨g0, 0, none⟩), .pointer (some ⟨g1, 0, none⟩), .pointer (some ⟨g2, 0, none⟩), .pointer (some ⟨g3, 0, none⟩)] W fun e w' => e = .returned (.bool (decide (rK (rests T s ws) (G i : Nat) < rK (rests T s ws) (G j : Nat)))) ∧ ∃ q, w' = W.drewN q := by
  have hGi := hG i hi
  have hGj := hG j hj
  have ci := hc i hi
  have cj := hc j hj
  clear hc hG
  generalize G i = p at ci hGi
  generalize G j = q at cj hGj
  obtain ⟨b, off, rfl, hb, H⟩ := h.at_ (by omega)
  obtain ⟨x, hx⟩ := h.get hGi
  obtain ⟨y, hy⟩ := h.get hGj
  have c0 := H.i1 hx
  have d0 := H.i1 hy
  obtain ⟨u0, u1⟩ := prod_bd hT (hws x (List.mem_of_getElem? hx))
  obtain ⟨v0, v1⟩ := prod_bd hT (hws y (List.mem_of_getElem? hy))
  rw [rK_at hx, rK_at hy]
  have hw1 : IntKind.i64.wrap (T * x) = T * x := IntWalk.i64_in _ (by omega)
  have hw2 : IntKind.i64.wrap (T * y) = T * y := IntWalk.i64_in _ (by omega)
  obtain ⟨r1, hr1⟩ : ∃ r, T * x % s = r := ⟨_, rfl⟩
  obtain ⟨r2, hr2⟩ : ∃ r, T * y % s = r := ⟨_, rfl⟩
  have e1 := Int.emod_nonneg (T * x) (show s ≠ 0 by omega)
  have e2 := Int.emod_lt_of_pos (T * x) hs
  have e3 := Int.emod_nonneg (T * y) (show s ≠ 0 by omega)
  have e4 := Int.emod_lt_of_pos (T * y) hs
  rw [hr1] at e1 e2
  rw [hr2] at e3 e4
  have m1 : (T * x).tmod s = r1 := by rw [Int.tmod_eq_emod_of_nonneg u0, hr1]
  have m2 : (T * y).tmod s = r2 := by rw [Int.tmod_eq_emod_of_nonneg v0, hr2]
  have hw3 : IntKind.i64.wrap r1 = r1 := IntWalk.i64_in _ (by omega)
  have hw4 : IntKind.i64.wrap r2 = r2 := IntWalk.i64_in _ (by omega)
  rw [hr1, hr2]
  have hs0 : (s == 0) = false := by simp; omega
  have hs1 : ¬ s = 0 := by omega
  have hp0 : (0 : Int) ≤ (p : Int) := by omega
  have hq0 : (0 : Int) ≤ (q : Int) := by omega
  have hpn : (p : Int) < (n : Int) := by omega
  have hqn : (q : Int) < (n : Int) := by omega
  have hi0 : (0 : Int) ≤ (i : Int) := by omega
  have hj0 : (0 : Int) ≤ (j : Int) := by omega
  have hin : (i : Int) < (n2 : Int) := by omega
  have hjn : (j : Int) < (n2 : Int) := by omega
  clear hx hy H hr1 hr2 hws h hGi hGj hi hj hT u0 u1 v0 v1
  go_enter Try.func70, Try.ntmps70
  go_wp2_with fail
  go_quiet (fail)
  go_wp2_with fail
  go_ret
  exact ⟨ret_bool (by simp), nq, rfl⟩
theorem impl_sum_r (A : Option Addr) (n c : Nat) (xs : List Int) (r : Int) (hr : isum xs = r) (w : World) (hmax : n ≤ 1000) (hb : ∀ x ∈ xs, 0 ≤ x ∧ x ≤ 1000000000) (h : Sl w w.heap.size 1 icell A n xs) :
    Calls Try.prog 68 #[.slice A n c] w fun e w' => e = .returned (.int .i64 r) ∧ w = w' := by
  subst hr; exact impl_sum A n c xs w hmax hb h
theorem incs_bd : ∀ (L out : List Int) (B : Int), 0 ≤ B → (∀ x ∈ out, 0 ≤ x ∧ x ≤ B) → ∀ x ∈ incs out L, 0 ≤ x ∧ x ≤ B + L.length
  | [], out, B, _, h, x, hx => by
    have := h x hx
    simp; omega
  | i :: L, out, B, hB, h, x, hx => by
    have h1 : ∀ y ∈ out.set i.toNat ((out[i.toNat]?).getD 0 + 1), 0 ≤ y ∧ y ≤ B + 1 := fun y hy => by
      rcases List.mem_or_eq_of_mem_set hy with h2 | h2
      · have := h y h2; omega
      · cases h3 : out[i.toNat]? with
        | none => rw [h3] at h2; simp at h2; omega
        | some z =>
          rw [h3] at h2; simp at h2
          have := h z (List.mem_of_getElem? h3); omega
    have := incs_bd L _ (B + 1) (by omega) h1 x hx
    rw [List.length_cons]
    omega

end Go.Proofs.Ytgbblcbpmpokdaa

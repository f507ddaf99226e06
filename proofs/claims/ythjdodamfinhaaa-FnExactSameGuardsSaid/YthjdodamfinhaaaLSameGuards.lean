/- Proves: the law SameGuards returns true for every input and leaves its arguments as they were (the given statement). Conditions: none beyond the statement itself. -/
import Derived.Test.YthjdodamfinhaaaGa
import Derived.Test.YthjdodamfinhaaaG3
namespace Go.Proofs.Ythjdodamfinhaaa
open Go.RowKit Go.Sort

set_option maxHeartbeats 4000000 in
theorem law_SameGuards (A0 : Option Addr) (n0 c0 : Nat) (es0 : List G3) (A1 : Option Addr) (n1 c1 : Nat) (es1 : List G3) (w : World) (hr0 : n0 ≤ 9223372036854775807) (h0 : Sl w w.heap.size 3 G3.cells A0 n0 es0) (hz0 : ∀ e ∈ es0, e.s.size ≤ 9223372036854775807) (hr1 : n1 ≤ 9223372036854775807) (h1 : Sl w w.heap.size 3 G3.cells A1 n1 es1) (hz1 : ∀ e ∈ es1, e.s.size ≤ 9223372036854775807) :
    Calls Try.prog 3 #[.slice A0 n0 c0, .slice A1 n1 c1] w fun e w' => e = .returned (.bool true) ∧ Below w.heap.size w w' := by
  have Hl0 := Lib.hid h0.len
  have Hl1 := Lib.hid h1.len
  go_enter Try.func3, Try.ntmps3
  go_wp2_with fail
  refine (laws_szGuardS _ _ _ es0 1048576 _ (by omega) (by omega) hr0 hz0 h0).mono ?_
  rintro e w1 ⟨r0, rfl, hs0, b1⟩
  have B1 := below_then (Below.refl _ _) b1
  rcases hs0 with rfl | ⟨hs0a, hs0b, hs0c⟩
  · go_wp2_with fail
    go_ret
    exact ⟨rfl, B1⟩
  go_wp2_with fail
  refine (laws_szGuardS _ _ _ es1 r0 _ (by omega) (by omega) hr1 hz1 (h1.on B1)).mono ?_
  rintro e w2 ⟨r1, rfl, hs1, b2⟩
  have B2 := below_then B1 b2
  rcases hs1 with rfl | ⟨hs1a, hs1b, hs1c⟩
  · go_wp2_with fail
    go_ret
    exact ⟨rfl, B2⟩
  have m0 : n0 ≤ 1048576 := by omega
  have m1 : n1 ≤ 1048576 := by omega
  go_wp2_with fail
  refine (laws_toGuardS _ _ _ es0 _ m0 (h0.on B2)).mono ?_
  rintro e w3 ⟨v, rfl, o3, b3⟩
  have B3 := below_then B2 b3
  obtain ⟨A3_, n3_, c3_, rfl, l3, _⟩ := own_shape o3
  have m3_ : n3_ ≤ 1048576 := by have := Hl0.out; omega
  have L3 := Lib.hid l3
  clear l3
  have O3 := Lib.hid o3
  clear o3
  go_wp2_with fail
  refine (laws_toGuardS _ _ _ es1 _ m1 (h1.on B3)).mono ?_
  rintro e w4 ⟨v, rfl, o4, b4⟩
  have B4 := below_then B3 b4
  obtain ⟨A4_, n4_, c4_, rfl, l4, _⟩ := own_shape o4
  have m4_ : n4_ ≤ 1048576 := by have := Hl1.out; omega
  have L4 := Lib.hid l4
  clear l4
  have O4 := Lib.hid o4
  clear o4
  go_wp2_with fail
  refine (spec_SameGuards _ _ _ _ _ _ es0 es1 _ m3_ m4_ (own_sl (Own.below O3.out b4 (Nat.le_refl _)) G3.cells_len) (own_sl O4.out G3.cells_len)).mono ?_
  rintro e w5 ⟨rfl, b5⟩
  have B5 := below_then B4 b5
  go_wp2_with fail
  refine (laws_toGuardS _ _ _ es0 _ m0 (h0.on B5)).mono ?_
  rintro e w6 ⟨v, rfl, o6, b6⟩
  have B6 := below_then B5 b6
  obtain ⟨A6_, n6_, c6_, rfl, l6, _⟩ := own_shape o6
  have m6_ : n6_ ≤ 1048576 := by have := Hl0.out; omega
  have L6 := Lib.hid l6
  clear l6
  have O6 := Lib.hid o6
  clear o6
  go_wp2_with fail
  refine (laws_toGuardS _ _ _ es1 _ m1 (h1.on B6)).mono ?_
  rintro e w7 ⟨v, rfl, o7, b7⟩
  have B7 := below_then B6 b7
  obtain ⟨A7_, n7_, c7_, rfl, l7, _⟩ := own_shape o7
  have m7_ : n7_ ≤ 1048576 := by have := Hl1.out; omega
  have L7 := Lib.hid l7
  clear l7
  have O7 := Lib.hid o7
  clear o7
  go_wp2_with fail
  refine (impl_SameGuards _ _ _ _ _ _ es0 es1 _ m6_ m7_ (own_sl (Own.below O6.out b7 (Nat.le_refl _)) G3.cells_len) (own_sl O7.out G3.cells_len)).mono ?_
  rintro e w8 ⟨rfl, b8⟩
  have B8 := below_then B7 b8
  go_wp2_with fail
  refine (laws_toGuardS _ _ _ es0 _ m0 (h0.on B8)).mono ?_
  rintro e w9 ⟨v, rfl, o9, b9⟩
  have B9 := below_then B8 b9
  obtain ⟨A9_, n9_, c9_, rfl, l9, _⟩ := own_shape o9
  have m9_ : n9_ ≤ 1048576 := by have := Hl0.out; omega
  have L9 := Lib.hid l9
  clear l9
  have O9 := Lib.hid o9
  clear o9
  go_wp2_with fail
  refine (laws_eqGuardS_self _ _ _ _ _ _ es0 _ m6_ m9_ (own_sl (Own.below (Own.below (Own.below O6.out b7 (Nat.le_refl _)) b8 (Nat.le_refl _)) b9 (Nat.le_refl _)) G3.cells_len) (own_sl O9.out G3.cells_len)).mono ?_
  rintro e w10 ⟨rfl, b10⟩
  have B10 := below_then B9 b10
  go_wp2_with fail
  refine (laws_toGuardS _ _ _ es1 _ m1 (h1.on B10)).mono ?_
  rintro e w11 ⟨v, rfl, o11, b11⟩
  have B11 := below_then B10 b11
  obtain ⟨A11_, n11_, c11_, rfl, l11, _⟩ := own_shape o11
  have m11_ : n11_ ≤ 1048576 := by have := Hl1.out; omega
  have L11 := Lib.hid l11
  clear l11
  have O11 := Lib.hid o11
  clear o11
  go_wp2_with fail
  refine (laws_eqGuardS_self _ _ _ _ _ _ es1 _ m7_ m11_ (own_sl (Own.below (Own.below (Own.below (Own.below O7.out b8 (Nat.le_refl _)) b9 (Nat.le_refl _)) b10 (Nat.le_refl _)) b11 (Nat.le_refl _)) G3.cells_len) (own_sl O11.out G3.cells_len)).mono ?_
  rintro e w12 ⟨rfl, b12⟩
  have B12 := below_then B11 b12
  go_wp2_with fail
  go_ret
  exact ⟨rfl, B12⟩
open Go.ChangeShapes Go.WideShapes Go.ChangeAt Go.Deep Go.Joins
set_option maxRecDepth 100000 in
theorem lifted_SameGuards (os : Os) (started : os.Started) (H : Type) (enc : TypeId × Value → H) :
    ReturnsInHanded {} Try.checked os 3 .any (Rows.fnExactSameGuardsSpec.pre6 enc Try.prog Try.f3 [] false) (Rows.fnExactSameGuardsSpec.post enc Try.prog Try.f3 false true false false) := by
  refine lift_law (C := Try.checked) (by kernel_rfl) (by kernel_rfl) (s := Rows.fnExactSameGuardsSpec) (T := 4) Try.underlying4 rfl rfl ?_ (by kernel_rfl) (by kernel_rfl) Try.func3 started
    (ChangeSpec.witness6 (enc := enc) (C := Try.checked) false ⟨#[], #[.slice none 0 0, .slice none 0 0], []⟩ 8 (by kernel_rfl) (by kernel_rfl) (by kernel_rfl) (by kernel_rfl)) ?_
  · intro H ds hl
    match ds, hl with
    | [d0, d1], _ => rfl
  · intro W base args ds ps hval hlt hA
    have hval' : ∀ (j : Nat) t v, (#[22, 22] : Array TypeId)[j]? = some t → args[j]? = some v → Value.okWide Try.prog W .any base t v := hval
    have hA' : DataW.TrodAll enc Try.prog W 0 (fun _ => true) true [22, 22] args.toList ds ps := hA
    obtain ⟨v0, v1, d0, d1, p0, p1, rfl, rfl, rfl, z0, z1⟩ := trodAll_two hA'
    obtain ⟨A0, n0, c0, es0, rfl, hm0, hs0, hz0⟩ := open_g3s Try.underlying22 Try.underlying31 (by kernel_rfl) (by kernel_rfl) Try.underlying9 Try.underlying2 Try.underlying2 (hval' 0 22 v0 rfl rfl) z0
    obtain ⟨A1, n1, c1, es1, rfl, hm1, hs1, hz1⟩ := open_g3s Try.underlying22 Try.underlying31 (by kernel_rfl) (by kernel_rfl) Try.underlying9 Try.underlying2 Try.underlying2 (hval' 1 22 v1 rfl rfl) z1
    exact law_SameGuards A0 n0 c0 es0 A1 n1 c1 es1 W (by unfold maxLen at hm0; omega) hs0 (fun e he => by have := hz0 e he; unfold maxLen at this; exact this) (by unfold maxLen at hm1; omega) hs1 (fun e he => by have := hz1 e he; unfold maxLen at this; exact this)
theorem row_SameGuards : Rows.FnExactSameGuardsSaid :=
  OpenClaim.holds_of_wide 3 Try.f3 rfl rfl rfl rfl rfl rfl rfl ⟨rfl, rfl, rfl, rfl, rfl⟩ rfl rfl rfl rfl rfl (by kernel_rfl) Try.func3 (by kernel_rfl)
    (of_decide_eq_true (by kernel_rfl)) (by unfold Func.isWrapper; first | (rw [if_pos (by decide +kernel)]; kernel_rfl) | (rw [if_neg (by decide +kernel)]; exact ⟨rfl, rfl⟩))
    (fun os started H enc _ => lifted_SameGuards os started H enc)

end Go.Proofs.Ythjdodamfinhaaa

/- Proves: the law ShiftFault returns true for every input and leaves its arguments as they were (the given statement). Conditions: none beyond the statement itself. -/
import Derived.Test.YthjdodamfinhaaaGe
import Derived.Test.YthjdodamfinhaaaG3
import Derived.Test.YthjdodamfinhaaaTi
namespace Go.Proofs.Ythjdodamfinhaaa
open Go.RowKit Go.Sort

set_option maxHeartbeats 4000000 in
theorem law_ShiftFault (A0 : Option Addr) (n0 c0 : Nat) (es0 : List G3) (A1 : Option Addr) (n1 c1 : Nat) (es1 : List Q3) (x2 : Int) (w : World) (hr0 : n0 ≤ 9223372036854775807) (h0 : Sl w w.heap.size 3 G3.cells A0 n0 es0) (hz0 : ∀ e ∈ es0, e.s.size ≤ 9223372036854775807) (hr1 : n1 ≤ 9223372036854775807) (h1 : Sl w w.heap.size 3 Q3.cells A1 n1 es1) :
    Calls Try.prog 8 #[.slice A0 n0 c0, .slice A1 n1 c1, .int .i64 x2] w fun e w' => e = .returned (.bool true) ∧ Below w.heap.size w w' := by
  have Hl0 := Lib.hid h0.len
  have Hl1 := Lib.hid h1.len
  go_enter Try.func8, Try.ntmps8
  go_wp2_with fail
  refine (laws_szGuardS _ _ _ es0 1048576 _ (by omega) (by omega) hr0 hz0 h0).mono ?_
  rintro e w1 ⟨r0, rfl, hs0, b1⟩
  have B1 := below_then (Below.refl _ _) b1
  rcases hs0 with rfl | ⟨hs0a, hs0b, hs0c⟩
  · go_wp2_with fail
    go_ret
    exact ⟨rfl, B1⟩
  by_cases hm1 : (n1 : Int) ≤ r0
  rotate_left
  · go_wp2_with fail
    refine (laws_szShiftS _ _ _ _ (by omega) (by omega) hr1 _).mono ?_
    rintro e w' ⟨rfl, rfl⟩
    rw [if_pos (by omega)]
    go_wp2_with fail
    go_ret
    exact ⟨rfl, B1⟩
  go_wp2_with fail
  refine (laws_szShiftS _ _ _ _ (by omega) (by omega) hr1 _).mono ?_
  rintro e w' ⟨rfl, rfl⟩
  rw [if_neg (by omega)]
  have m0 : n0 ≤ 1048576 := by omega
  have m1 : n1 ≤ 1048576 := by omega
  go_wp2_with fail
  refine (laws_toGuardS _ _ _ es0 _ m0 (h0.on B1)).mono ?_
  rintro e w2 ⟨v, rfl, o2, b2⟩
  have B2 := below_then B1 b2
  obtain ⟨A2_, n2_, c2_, rfl, l2, k2_⟩ := own_shape o2
  have m2_ : n2_ ≤ 1048576 := by have := Hl0.out; omega
  have L2 := Lib.hid l2
  clear l2
  have O2 := Lib.hid o2
  clear o2
  go_wp2_with fail
  refine (laws_toShiftS _ _ _ es1 _ m1 (h1.on B2)).mono ?_
  rintro e w3 ⟨v, rfl, o3, b3⟩
  have B3 := below_then B2 b3
  obtain ⟨A3_, n3_, c3_, rfl, l3, k3_⟩ := own_shape o3
  have m3_ : n3_ ≤ 1048576 := by have := Hl1.out; omega
  have L3 := Lib.hid l3
  clear l3
  have O3 := Lib.hid o3
  clear o3
  go_wp2_with fail
  refine (spec_ShiftFault _ _ _ es0 _ _ _ es1 x2 _ m2_ m3_ hs0c (own_sl (Own.below O2.out b3 (Nat.le_refl _)) G3.cells_len) (own_sl O3.out Q3.cells_len)).mono ?_
  rintro e w4 ⟨rfl, b4⟩
  have B4 := below_then B3 b4
  go_wp2_with fail
  refine (laws_toGuardS _ _ _ es0 _ m0 (h0.on B4)).mono ?_
  rintro e w5 ⟨v, rfl, o5, b5⟩
  have B5 := below_then B4 b5
  obtain ⟨A5_, n5_, c5_, rfl, l5, k5_⟩ := own_shape o5
  have m5_ : n5_ ≤ 1048576 := by have := Hl0.out; omega
  have L5 := Lib.hid l5
  clear l5
  have O5 := Lib.hid o5
  clear o5
  go_wp2_with fail
  refine (laws_toShiftS _ _ _ es1 _ m1 (h1.on B5)).mono ?_
  rintro e w6 ⟨v, rfl, o6, b6⟩
  have B6 := below_then B5 b6
  obtain ⟨A6_, n6_, c6_, rfl, l6, k6_⟩ := own_shape o6
  have m6_ : n6_ ≤ 1048576 := by have := Hl1.out; omega
  have L6 := Lib.hid l6
  clear l6
  have O6 := Lib.hid o6
  clear o6
  go_wp2_with fail
  refine (impl_ShiftFault _ _ _ es0 _ _ _ es1 x2 _ m5_ m6_ k6_ hs0c (own_sl (Own.below O5.out b6 (Nat.le_refl _)) G3.cells_len) (own_sl O6.out Q3.cells_len)).mono ?_
  rintro e w7 ⟨rfl, b7⟩
  have B7 := below_then B6 b7
  go_wp2_with fail
  refine (laws_toGuardS _ _ _ es0 _ m0 (h0.on B7)).mono ?_
  rintro e w8 ⟨v, rfl, o8, b8⟩
  have B8 := below_then B7 b8
  obtain ⟨A8_, n8_, c8_, rfl, l8, k8_⟩ := own_shape o8
  have m8_ : n8_ ≤ 1048576 := by have := Hl0.out; omega
  have L8 := Lib.hid l8
  clear l8
  have O8 := Lib.hid o8
  clear o8
  go_wp2_with fail
  refine (laws_eqGuardS_self _ _ _ _ _ _ es0 _ m5_ m8_ (own_sl (Own.below (Own.below (Own.below O5.out b6 (Nat.le_refl _)) b7 (Nat.le_refl _)) b8 (Nat.le_refl _)) G3.cells_len) (own_sl O8.out G3.cells_len)).mono ?_
  rintro e w9 ⟨rfl, b9⟩
  have B9 := below_then B8 b9
  go_wp2_with fail
  refine (laws_toShiftS _ _ _ es1 _ m1 (h1.on B9)).mono ?_
  rintro e w10 ⟨v, rfl, o10, b10⟩
  have B10 := below_then B9 b10
  obtain ⟨A10_, n10_, c10_, rfl, l10, k10_⟩ := own_shape o10
  have m10_ : n10_ ≤ 1048576 := by have := Hl1.out; omega
  have L10 := Lib.hid l10
  clear l10
  have O10 := Lib.hid o10
  clear o10
  go_wp2_with fail
  refine (laws_eqShiftS_self _ _ _ _ _ _ es1 _ m6_ m10_ (own_sl (Own.below (Own.below (Own.below (Own.below O6.out b7 (Nat.le_refl _)) b8 (Nat.le_refl _)) b9 (Nat.le_refl _)) b10 (Nat.le_refl _)) Q3.cells_len) (own_sl O10.out Q3.cells_len)).mono ?_
  rintro e w11 ⟨rfl, b11⟩
  have B11 := below_then B10 b11
  go_wp2_with fail
  go_ret
  exact ⟨rfl, B11⟩
open Go.ChangeShapes Go.WideShapes Go.ChangeAt Go.Deep Go.Joins
set_option maxRecDepth 100000 in
theorem lifted_ShiftFault (os : Os) (started : os.Started) (H : Type) (enc : TypeId × Value → H) :
    ReturnsInHanded {} Try.checked os 8 .any (Rows.fnExactShiftFaultSpec.pre6 enc Try.prog Try.f8 [] false) (Rows.fnExactShiftFaultSpec.post enc Try.prog Try.f8 false true false false) := by
  refine lift_law (C := Try.checked) (by kernel_rfl) (by kernel_rfl) (s := Rows.fnExactShiftFaultSpec) (T := 4) Try.underlying4 rfl rfl ?_ (by kernel_rfl) (by kernel_rfl) Try.func8 started
    (ChangeSpec.witness6 (enc := enc) (C := Try.checked) false ⟨#[], #[.slice none 0 0, .slice none 0 0, .int .i64 0], []⟩ 8 (by kernel_rfl) (by kernel_rfl) (by kernel_rfl) (by kernel_rfl)) ?_
  · intro H ds hl
    match ds, hl with
    | [d0, d1, d2], _ => rfl
  · intro W base args ds ps hval hlt hA
    have hval' : ∀ (j : Nat) t v, (#[22, 45, 2] : Array TypeId)[j]? = some t → args[j]? = some v → Value.okWide Try.prog W .any base t v := hval
    have hA' : DataW.TrodAll enc Try.prog W 0 (fun _ => true) true [22, 45, 2] args.toList ds ps := hA
    obtain ⟨v0, v1, v2, d0, d1, d2, p0, p1, p2, rfl, rfl, rfl, z0, z1, z2⟩ := trodAll_three hA'
    obtain ⟨A0, n0, c0, es0, rfl, hm0, hs0, hz0⟩ := open_g3s Try.underlying22 Try.underlying31 (by kernel_rfl) (by kernel_rfl) Try.underlying9 Try.underlying2 Try.underlying2 (hval' 0 22 v0 rfl rfl) z0
    obtain ⟨A1, n1, c1, es1, rfl, hm1, hs1, hz1⟩ := open_q3s Try.underlying45 Try.underlying84 (by kernel_rfl) (by kernel_rfl) Try.underlying2 Try.underlying2 Try.underlying2 (hval' 1 45 v1 rfl rfl) z1
    obtain ⟨x2, rfl, rfl, rfl, _⟩ := open_int Try.underlying2 (hval' 2 2 v2 rfl rfl) z2
    exact law_ShiftFault A0 n0 c0 es0 A1 n1 c1 es1 x2 W (by unfold maxLen at hm0; omega) hs0 (fun e he => by have := hz0 e he; unfold maxLen at this; exact this) (by unfold maxLen at hm1; omega) hs1
theorem row_ShiftFault : Rows.FnExactShiftFaultSaid :=
  OpenClaim.holds_of_wide 8 Try.f8 rfl rfl rfl rfl rfl rfl rfl ⟨rfl, rfl, rfl, rfl, rfl⟩ rfl rfl rfl rfl rfl (by kernel_rfl) Try.func8 (by kernel_rfl)
    (of_decide_eq_true (by kernel_rfl)) (by unfold Func.isWrapper; first | (rw [if_pos (by decide +kernel)]; kernel_rfl) | (rw [if_neg (by decide +kernel)]; exact ⟨rfl, rfl⟩))
    (fun os started H enc _ => lifted_ShiftFault os started H enc)

end Go.Proofs.Ythjdodamfinhaaa

/- Proves: the law UnwatchedHours returns true for every input and leaves its arguments as they were (the given statement). Conditions: none beyond the statement itself. -/
import Derived.Test.YthjdodamfinhaaaGi
import Derived.Test.YthjdodamfinhaaaG3
import Derived.Test.YthjdodamfinhaaaTi
namespace Go.Proofs.Ythjdodamfinhaaa
open Go.RowKit Go.Sort

set_option maxHeartbeats 4000000 in
theorem law_UnwatchedHours (A0 : Option Addr) (n0 c0 : Nat) (es0 : List G3) (A1 : Option Addr) (n1 c1 : Nat) (es1 : List Q3) (x2 : Int) (x3 : Int) (x4 : Int) (w : World) (hr0 : n0 ≤ 9223372036854775807) (h0 : Sl w w.heap.size 3 G3.cells A0 n0 es0) (hz0 : ∀ e ∈ es0, e.s.size ≤ 9223372036854775807) (hr1 : n1 ≤ 9223372036854775807) (h1 : Sl w w.heap.size 3 Q3.cells A1 n1 es1) :
    Calls Try.prog 13 #[.slice A0 n0 c0, .slice A1 n1 c1, .int .i64 x2, .int .i64 x3, .int .i64 x4] w fun e w' => e = .returned (.bool true) ∧ Below w.heap.size w w' := by
  have Hl0 := Lib.hid h0.len
  have Hl1 := Lib.hid h1.len
  go_enter Try.func13, Try.ntmps13
  go_wp2_with fail
  refine (laws_szGuardS _ _ _ es0 1048576 _ (by omega) (by omega) hr0 hz0 h0).mono ?_
  rintro e w1 ⟨r0, rfl, hs0, b1⟩
  have B1 := below_then (Below.refl _ _) b1
  rcases hs0 with rfl | ⟨hs0a, hs0b, hs0c⟩
  · go_wp2_with fail
    go_ret
    exact ⟨rfl, B1⟩
  by_cases hm1 : (n1 : Int) ≤ r0
  rotate_left
  · go_wp2_with fail
    refine (laws_szShiftS _ _ _ _ (by omega) (by omega) hr1 _).mono ?_
    rintro e w' ⟨rfl, rfl⟩
    rw [if_pos (by omega)]
    go_wp2_with fail
    go_ret
    exact ⟨rfl, B1⟩
  go_wp2_with fail
  refine (laws_szShiftS _ _ _ _ (by omega) (by omega) hr1 _).mono ?_
  rintro e w' ⟨rfl, rfl⟩
  rw [if_neg (by omega)]
  have m0 : n0 ≤ 1048576 := by omega
  have m1 : n1 ≤ 1048576 := by omega
  have RB : (uwRes es0 es1 x2 x3 x4).length ≤ 1048576 := by have := uwRes_len es0 es1 x2 x3 x4; omega
  go_wp2_with fail
  refine (laws_toGuardS _ _ _ es0 _ m0 (h0.on B1)).mono ?_
  rintro e w2 ⟨v, rfl, o2, b2⟩
  have B2 := below_then B1 b2
  obtain ⟨A2_, n2_, c2_, rfl, l2, k2_⟩ := own_shape o2
  have m2_ : n2_ ≤ 1048576 := by have := Hl0.out; omega
  have L2 := Lib.hid l2
  clear l2
  have O2 := Lib.hid o2
  clear o2
  go_wp2_with fail
  refine (laws_toShiftS _ _ _ es1 _ m1 (h1.on B2)).mono ?_
  rintro e w3 ⟨v, rfl, o3, b3⟩
  have B3 := below_then B2 b3
  obtain ⟨A3_, n3_, c3_, rfl, l3, k3_⟩ := own_shape o3
  have m3_ : n3_ ≤ 1048576 := by have := Hl1.out; omega
  have L3 := Lib.hid l3
  clear l3
  have O3 := Lib.hid o3
  clear o3
  go_wp2_with fail
  refine (spec_UnwatchedHours _ _ _ es0 _ _ _ es1 x2 x3 x4 _ m2_ m3_ hs0c (own_sl (Own.below O2.out b3 (Nat.le_refl _)) G3.cells_len) (own_sl O3.out Q3.cells_len)).mono ?_
  rintro e w4 ⟨v, rfl, o4, b4⟩
  have B4 := below_then B3 b4
  obtain ⟨A4_, n4_, c4_, rfl, l4, _⟩ := own_shape o4
  have L4 := Lib.hid l4
  clear l4
  have O4 := Lib.hid o4
  clear o4
  go_wp2_with fail
  refine (laws_toGuardS _ _ _ es0 _ m0 (h0.on B4)).mono ?_
  rintro e w5 ⟨v, rfl, o5, b5⟩
  have B5 := below_then B4 b5
  obtain ⟨A5_, n5_, c5_, rfl, l5, k5_⟩ := own_shape o5
  have m5_ : n5_ ≤ 1048576 := by have := Hl0.out; omega
  have L5 := Lib.hid l5
  clear l5
  have O5 := Lib.hid o5
  clear o5
  go_wp2_with fail
  refine (laws_toShiftS _ _ _ es1 _ m1 (h1.on B5)).mono ?_
  rintro e w6 ⟨v, rfl, o6, b6⟩
  have B6 := below_then B5 b6
  obtain ⟨A6_, n6_, c6_, rfl, l6, k6_⟩ := own_shape o6
  have m6_ : n6_ ≤ 1048576 := by have := Hl1.out; omega
  have L6 := Lib.hid l6
  clear l6
  have O6 := Lib.hid o6
  clear o6
  go_wp2_with fail
  refine (impl_UnwatchedHours _ _ _ es0 _ _ _ es1 x2 x3 x4 _ m5_ m6_ k6_ hs0c (own_sl (Own.below O5.out b6 (Nat.le_refl _)) G3.cells_len) (own_sl O6.out Q3.cells_len)).mono ?_
  rintro e w7 ⟨v, rfl, o7, b7⟩
  have B7 := below_then B6 b7
  obtain ⟨A7_, n7_, c7_, rfl, l7, _⟩ := own_shape o7
  have L7 := Lib.hid l7
  clear l7
  have O7 := Lib.hid o7
  clear o7
  go_wp2_with fail
  refine (laws_eqInt64S_self _ _ _ _ _ _ _ _ (by have := L7.out; have := RB; omega) (by have := L4.out; have := RB; omega) (own_sl O7.out icell_len) (own_sl (Own.below (Own.below (Own.below O4.out b5 (Nat.le_refl _)) b6 (Nat.le_refl _)) b7 (Nat.le_refl _)) icell_len)).mono ?_
  rintro e w8 ⟨rfl, b8⟩
  have B8 := below_then B7 b8
  go_wp2_with fail
  refine (laws_toGuardS _ _ _ es0 _ m0 (h0.on B8)).mono ?_
  rintro e w9 ⟨v, rfl, o9, b9⟩
  have B9 := below_then B8 b9
  obtain ⟨A9_, n9_, c9_, rfl, l9, k9_⟩ := own_shape o9
  have m9_ : n9_ ≤ 1048576 := by have := Hl0.out; omega
  have L9 := Lib.hid l9
  clear l9
  have O9 := Lib.hid o9
  clear o9
  go_wp2_with fail
  refine (laws_eqGuardS_self _ _ _ _ _ _ es0 _ m5_ m9_ (own_sl (Own.below (Own.below (Own.below (Own.below O5.out b6 (Nat.le_refl _)) b7 (Nat.le_refl _)) b8 (Nat.le_refl _)) b9 (Nat.le_refl _)) G3.cells_len) (own_sl O9.out G3.cells_len)).mono ?_
  rintro e w10 ⟨rfl, b10⟩
  have B10 := below_then B9 b10
  go_wp2_with fail
  refine (laws_toShiftS _ _ _ es1 _ m1 (h1.on B10)).mono ?_
  rintro e w11 ⟨v, rfl, o11, b11⟩
  have B11 := below_then B10 b11
  obtain ⟨A11_, n11_, c11_, rfl, l11, k11_⟩ := own_shape o11
  have m11_ : n11_ ≤ 1048576 := by have := Hl1.out; omega
  have L11 := Lib.hid l11
  clear l11
  have O11 := Lib.hid o11
  clear o11
  go_wp2_with fail
  refine (laws_eqShiftS_self _ _ _ _ _ _ es1 _ m6_ m11_ (own_sl (Own.below (Own.below (Own.below (Own.below (Own.below O6.out b7 (Nat.le_refl _)) b8 (Nat.le_refl _)) b9 (Nat.le_refl _)) b10 (Nat.le_refl _)) b11 (Nat.le_refl _)) Q3.cells_len) (own_sl O11.out Q3.cells_len)).mono ?_
  rintro e w12 ⟨rfl, b12⟩
  have B12 := below_then B11 b12
  go_wp2_with fail
  refine (laws_markGuardS _ _ _ _ _ _ (by have := m5_; have := L5.out; omega) (by have := Hl0.out; have := Hl1.out; omega) (by have := Hl0.out; have := Hl1.out; omega) (Own.below (Own.below (Own.below (Own.below (Own.below (Own.below (Own.below O5.out b6 (Nat.le_refl _)) b7 (Nat.le_refl _)) b8 (Nat.le_refl _)) b9 (Nat.le_refl _)) b10 (Nat.le_refl _)) b11 (Nat.le_refl _)) b12 (Nat.le_refl _))).mono ?_
  rintro e w13 ⟨rfl, p13, g13⟩
  have B13 := own_grown B12 (Own.below (Own.below (Own.below (Own.below (Own.below (Own.below (Own.below O5.out b6 (Nat.le_refl _)) b7 (Nat.le_refl _)) b8 (Nat.le_refl _)) b9 (Nat.le_refl _)) b10 (Nat.le_refl _)) b11 (Nat.le_refl _)) b12 (Nat.le_refl _)) B4.size (Nat.le_trans (Nat.le_refl _) B12.size) g13
  clear p13
  go_wp2_with fail
  refine (laws_markShiftS _ _ _ _ _ _ (by have := m6_; have := L6.out; omega) (by have := Hl0.out; have := Hl1.out; omega) (by have := Hl0.out; have := Hl1.out; omega) (own_other (Own.below (Own.below (Own.below (Own.below (Own.below (Own.below O6.out b7 (Nat.le_refl _)) b8 (Nat.le_refl _)) b9 (Nat.le_refl _)) b10 (Nat.le_refl _)) b11 (Nat.le_refl _)) b12 (Nat.le_refl _)) (own_ne_hi O5.out O6.out (Nat.le_refl _)) g13)).mono ?_
  rintro e w14 ⟨rfl, p14, g14⟩
  have B14 := own_grown B13 (own_other (Own.below (Own.below (Own.below (Own.below (Own.below (Own.below O6.out b7 (Nat.le_refl _)) b8 (Nat.le_refl _)) b9 (Nat.le_refl _)) b10 (Nat.le_refl _)) b11 (Nat.le_refl _)) b12 (Nat.le_refl _)) (own_ne_hi O5.out O6.out (Nat.le_refl _)) g13) B5.size (Nat.le_trans (Nat.le_refl _) B13.size) g14
  clear p14
  go_wp2_with fail
  refine (laws_eqInt64S_self _ _ _ _ _ _ _ _ (by have := L7.out; have := RB; omega) (by have := L4.out; have := RB; omega) (own_sl (own_other (own_other (Own.below (Own.below (Own.below (Own.below (Own.below O7.out b8 (Nat.le_refl _)) b9 (Nat.le_refl _)) b10 (Nat.le_refl _)) b11 (Nat.le_refl _)) b12 (Nat.le_refl _)) (own_ne_hi O5.out O7.out b6.size) g13) (own_ne_hi O6.out O7.out (Nat.le_refl _)) g14) icell_len) (own_sl (own_other (own_other (Own.below (Own.below (Own.below (Own.below (Own.below (Own.below (Own.below (Own.below O4.out b5 (Nat.le_refl _)) b6 (Nat.le_refl _)) b7 (Nat.le_refl _)) b8 (Nat.le_refl _)) b9 (Nat.le_refl _)) b10 (Nat.le_refl _)) b11 (Nat.le_refl _)) b12 (Nat.le_refl _)) (own_ne_lo O4.out O5.out (Nat.le_refl _)) g13) (own_ne_lo O4.out O6.out b5.size) g14) icell_len)).mono ?_
  rintro e w15 ⟨rfl, b15⟩
  have B15 := below_then B14 b15
  go_wp2_with fail
  refine (laws_markInt64S _ _ _ _ _ _ (by have := L7.out; have := RB; omega) (by have := Hl0.out; have := Hl1.out; omega) (by have := Hl0.out; have := Hl1.out; omega) (Own.below (own_other (own_other (Own.below (Own.below (Own.below (Own.below (Own.below O7.out b8 (Nat.le_refl _)) b9 (Nat.le_refl _)) b10 (Nat.le_refl _)) b11 (Nat.le_refl _)) b12 (Nat.le_refl _)) (own_ne_hi O5.out O7.out b6.size) g13) (own_ne_hi O6.out O7.out (Nat.le_refl _)) g14) b15 (Nat.le_refl _))).mono ?_
  rintro e w16 ⟨rfl, p16, g16⟩
  have B16 := own_grown B15 (Own.below (own_other (own_other (Own.below (Own.below (Own.below (Own.below (Own.below O7.out b8 (Nat.le_refl _)) b9 (Nat.le_refl _)) b10 (Nat.le_refl _)) b11 (Nat.le_refl _)) b12 (Nat.le_refl _)) (own_ne_hi O5.out O7.out b6.size) g13) (own_ne_hi O6.out O7.out (Nat.le_refl _)) g14) b15 (Nat.le_refl _)) B6.size (Nat.le_trans (Nat.le_refl _) B15.size) g16
  have P16 := Lib.hid p16
  clear p16
  go_wp2_with fail
  refine (laws_heldInt64S _ _ _ _ _ (by have := L7.out; have := RB; omega) (by have := Hl0.out; have := Hl1.out; omega) (by have := Hl0.out; have := Hl1.out; omega) P16.out).mono ?_
  rintro e w' ⟨rfl, rfl⟩
  go_wp2_with fail
  refine (laws_toGuardS _ _ _ es0 _ m0 (h0.on B16)).mono ?_
  rintro e w17 ⟨v, rfl, o17, b17⟩
  have B17 := below_then B16 b17
  obtain ⟨A17_, n17_, c17_, rfl, l17, k17_⟩ := own_shape o17
  have m17_ : n17_ ≤ 1048576 := by have := Hl0.out; omega
  have L17 := Lib.hid l17
  clear l17
  have O17 := Lib.hid o17
  clear o17
  go_wp2_with fail
  refine (laws_toShiftS _ _ _ es1 _ m1 (h1.on B17)).mono ?_
  rintro e w18 ⟨v, rfl, o18, b18⟩
  have B18 := below_then B17 b18
  obtain ⟨A18_, n18_, c18_, rfl, l18, k18_⟩ := own_shape o18
  have m18_ : n18_ ≤ 1048576 := by have := Hl1.out; omega
  have L18 := Lib.hid l18
  clear l18
  have O18 := Lib.hid o18
  clear o18
  go_wp2_with fail
  refine (impl_UnwatchedHours _ _ _ es0 _ _ _ es1 x2 x3 x4 _ m17_ m18_ k18_ hs0c (own_sl (Own.below O17.out b18 (Nat.le_refl _)) G3.cells_len) (own_sl O18.out Q3.cells_len)).mono ?_
  rintro e w19 ⟨v, rfl, o19, b19⟩
  have B19 := below_then B18 b19
  obtain ⟨A19_, n19_, c19_, rfl, l19, _⟩ := own_shape o19
  have L19 := Lib.hid l19
  clear l19
  have O19 := Lib.hid o19
  clear o19
  go_wp2_with fail
  refine (laws_eqInt64S_self _ _ _ _ _ _ _ _ (by have := L19.out; have := RB; omega) (by have := L4.out; have := RB; omega) (own_sl O19.out icell_len) (own_sl (Own.below (Own.below (Own.below (own_other (Own.below (own_other (own_other (Own.below (Own.below (Own.below (Own.below (Own.below (Own.below (Own.below (Own.below O4.out b5 (Nat.le_refl _)) b6 (Nat.le_refl _)) b7 (Nat.le_refl _)) b8 (Nat.le_refl _)) b9 (Nat.le_refl _)) b10 (Nat.le_refl _)) b11 (Nat.le_refl _)) b12 (Nat.le_refl _)) (own_ne_lo O4.out O5.out (Nat.le_refl _)) g13) (own_ne_lo O4.out O6.out b5.size) g14) b15 (Nat.le_refl _)) (own_ne_lo O4.out O7.out (below_then b5 b6).size) g16) b17 (Nat.le_refl _)) b18 (Nat.le_refl _)) b19 (Nat.le_refl _)) icell_len)).mono ?_
  rintro e w20 ⟨rfl, b20⟩
  have B20 := below_then B19 b20
  go_wp2_with fail
  refine (laws_heldInt64S _ _ _ _ _ (by have := L7.out; have := RB; omega) (by have := Hl0.out; have := Hl1.out; omega) (by have := Hl0.out; have := Hl1.out; omega) (owns_below (owns_below (owns_below (owns_below P16.out b17 (Nat.le_refl _)) b18 (Nat.le_refl _)) b19 (Nat.le_refl _)) b20 (Nat.le_refl _))).mono ?_
  rintro e w' ⟨rfl, rfl⟩
  go_wp2_with fail
  go_ret
  exact ⟨rfl, B20⟩
open Go.ChangeShapes Go.WideShapes Go.ChangeAt Go.Deep Go.Joins
set_option maxRecDepth 100000 in
theorem lifted_UnwatchedHours (os : Os) (started : os.Started) (H : Type) (enc : TypeId × Value → H) :
    ReturnsInHanded {} Try.checked os 13 .any (Rows.fnExactUnwatchedHoursSpec.pre6 enc Try.prog Try.f13 [] false) (Rows.fnExactUnwatchedHoursSpec.post enc Try.prog Try.f13 false true false false) := by
  refine lift_law (C := Try.checked) (by kernel_rfl) (by kernel_rfl) (s := Rows.fnExactUnwatchedHoursSpec) (T := 4) Try.underlying4 rfl rfl ?_ (by kernel_rfl) (by kernel_rfl) Try.func13 started
    (ChangeSpec.witness6 (enc := enc) (C := Try.checked) false ⟨#[], #[.slice none 0 0, .slice none 0 0, .int .i64 0, .int .i64 0, .int .i64 0], []⟩ 8 (by kernel_rfl) (by kernel_rfl) (by kernel_rfl) (by kernel_rfl)) ?_
  · intro H ds hl
    match ds, hl with
    | [d0, d1, d2, d3, d4], _ => rfl
  · intro W base args ds ps hval hlt hA
    have hval' : ∀ (j : Nat) t v, (#[22, 45, 2, 2, 2] : Array TypeId)[j]? = some t → args[j]? = some v → Value.okWide Try.prog W .any base t v := hval
    have hA' : DataW.TrodAll enc Try.prog W 0 (fun _ => true) true [22, 45, 2, 2, 2] args.toList ds ps := hA
    obtain ⟨v0, vs0, d0, ds0, p0, q0_, hargs, rfl, rfl, z0, r0⟩ := trodAll_cons hA'
    obtain ⟨v1, vs1, d1, ds1, p1, q1_, rfl, rfl, rfl, z1, r1⟩ := trodAll_cons r0
    obtain ⟨v2, vs2, d2, ds2, p2, q2_, rfl, rfl, rfl, z2, r2⟩ := trodAll_cons r1
    obtain ⟨v3, vs3, d3, ds3, p3, q3_, rfl, rfl, rfl, z3, r3⟩ := trodAll_cons r2
    obtain ⟨v4, vs4, d4, ds4, p4, q4_, rfl, rfl, rfl, z4, r4⟩ := trodAll_cons r3
    obtain ⟨rfl, rfl, rfl⟩ := trodAll_nil r4
    obtain rfl : args = #[v0, v1, v2, v3, v4] := by cases args; simp_all
    obtain ⟨A0, n0, c0, es0, rfl, hm0, hs0, hz0⟩ := open_g3s Try.underlying22 Try.underlying31 (by kernel_rfl) (by kernel_rfl) Try.underlying9 Try.underlying2 Try.underlying2 (hval' 0 22 v0 rfl rfl) z0
    obtain ⟨A1, n1, c1, es1, rfl, hm1, hs1, hz1⟩ := open_q3s Try.underlying45 Try.underlying84 (by kernel_rfl) (by kernel_rfl) Try.underlying2 Try.underlying2 Try.underlying2 (hval' 1 45 v1 rfl rfl) z1
    obtain ⟨x2, rfl, rfl, rfl, _⟩ := open_int Try.underlying2 (hval' 2 2 v2 rfl rfl) z2
    obtain ⟨x3, rfl, rfl, rfl, _⟩ := open_int Try.underlying2 (hval' 3 2 v3 rfl rfl) z3
    obtain ⟨x4, rfl, rfl, rfl, _⟩ := open_int Try.underlying2 (hval' 4 2 v4 rfl rfl) z4
    exact law_UnwatchedHours A0 n0 c0 es0 A1 n1 c1 es1 x2 x3 x4 W (by unfold maxLen at hm0; omega) hs0 (fun e he => by have := hz0 e he; unfold maxLen at this; exact this) (by unfold maxLen at hm1; omega) hs1
theorem row_UnwatchedHours : Rows.FnExactUnwatchedHoursSaid :=
  OpenClaim.holds_of_wide 13 Try.f13 rfl rfl rfl rfl rfl rfl rfl ⟨rfl, rfl, rfl, rfl, rfl⟩ rfl rfl rfl rfl rfl (by kernel_rfl) Try.func13 (by kernel_rfl)
    (of_decide_eq_true (by kernel_rfl)) (by unfold Func.isWrapper; first | (rw [if_pos (by decide +kernel)]; kernel_rfl) | (rw [if_neg (by decide +kernel)]; exact ⟨rfl, rfl⟩))
    (fun os started H enc _ => lifted_UnwatchedHours os started H enc)

end Go.Proofs.Ythjdodamfinhaaa

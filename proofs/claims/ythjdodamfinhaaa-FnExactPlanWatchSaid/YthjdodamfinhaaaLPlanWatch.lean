/- Proves: the law PlanWatch returns true for every input and leaves its arguments as they were (the given statement). Conditions: none beyond the statement itself. -/
import Derived.Test.YthjdodamfinhaaaGk
import Derived.Test.YthjdodamfinhaaaG3
import Derived.Test.YthjdodamfinhaaaTi
namespace Go.Proofs.Ythjdodamfinhaaa
open Go.RowKit Go.Sort

set_option maxHeartbeats 4000000 in
theorem law_PlanWatch (A0 : Option Addr) (n0 c0 : Nat) (es0 : List G3) (x1 : Int) (x2 : Int) (x3 : Int) (x4 : Int) (w : World) (hr0 : n0 ≤ 9223372036854775807) (h0 : Sl w w.heap.size 3 G3.cells A0 n0 es0) (hz0 : ∀ e ∈ es0, e.s.size ≤ 9223372036854775807) :
    Calls Try.prog 9 #[.slice A0 n0 c0, .int .i64 x1, .int .i64 x2, .int .i64 x3, .int .i64 x4] w fun e w' => e = .returned (.bool true) ∧ Below w.heap.size w w' := by
  have Hl0 := Lib.hid h0.len
  go_enter Try.func9, Try.ntmps9
  go_wp2_with fail
  refine (laws_szGuardS _ _ _ es0 1048576 _ (by omega) (by omega) hr0 hz0 h0).mono ?_
  rintro e w1 ⟨r0, rfl, hs0, b1⟩
  have B1 := below_then (Below.refl _ _) b1
  rcases hs0 with rfl | ⟨hs0a, hs0b, hs0c⟩
  · go_wp2_with fail
    go_ret
    exact ⟨rfl, B1⟩
  have m0 : n0 ≤ 1048576 := by omega
  have RB : (planOut es0 x1 x2 x3 x4).length ≤ 1048576 := by have := planOut_len es0 x1 x2 x3 x4; omega
  go_wp2_with fail
  refine (laws_toGuardS _ _ _ es0 _ m0 (h0.on B1)).mono ?_
  rintro e w2 ⟨v, rfl, o2, b2⟩
  have B2 := below_then B1 b2
  obtain ⟨A2_, n2_, c2_, rfl, l2, k2_⟩ := own_shape o2
  have m2_ : n2_ ≤ 1048576 := by have := Hl0.out; omega
  have L2 := Lib.hid l2
  clear l2
  have O2 := Lib.hid o2
  clear o2
  go_wp2_with fail
  refine (spec_PlanWatch _ _ _ es0 x1 x2 x3 x4 _ m2_ hs0c (own_sl O2.out G3.cells_len)).mono ?_
  rintro e w3 ⟨v, rfl, o3, b3⟩
  have B3 := below_then B2 b3
  obtain ⟨A3_, n3_, c3_, rfl, l3, _⟩ := own_shape o3
  have L3 := Lib.hid l3
  clear l3
  have O3 := Lib.hid o3
  clear o3
  go_wp2_with fail
  refine (laws_toGuardS _ _ _ es0 _ m0 (h0.on B3)).mono ?_
  rintro e w4 ⟨v, rfl, o4, b4⟩
  have B4 := below_then B3 b4
  obtain ⟨A4_, n4_, c4_, rfl, l4, k4_⟩ := own_shape o4
  have m4_ : n4_ ≤ 1048576 := by have := Hl0.out; omega
  have L4 := Lib.hid l4
  clear l4
  have O4 := Lib.hid o4
  clear o4
  go_wp2_with fail
  refine (impl_PlanWatch _ _ _ es0 x1 x2 x3 x4 _ m4_ hs0c (own_sl O4.out G3.cells_len)).mono ?_
  rintro e w5 ⟨v, rfl, o5, b5⟩
  have B5 := below_then B4 b5
  obtain ⟨A5_, n5_, c5_, rfl, l5, _⟩ := own_shape o5
  have L5 := Lib.hid l5
  clear l5
  have O5 := Lib.hid o5
  clear o5
  go_wp2_with fail
  refine (laws_eqShiftS_self _ _ _ _ _ _ _ _ (by have := L5.out; have := RB; omega) (by have := L3.out; have := RB; omega) (own_sl O5.out Q3.cells_len) (own_sl (Own.below (Own.below O3.out b4 (Nat.le_refl _)) b5 (Nat.le_refl _)) Q3.cells_len)).mono ?_
  rintro e w6 ⟨rfl, b6⟩
  have B6 := below_then B5 b6
  go_wp2_with fail
  refine (laws_toGuardS _ _ _ es0 _ m0 (h0.on B6)).mono ?_
  rintro e w7 ⟨v, rfl, o7, b7⟩
  have B7 := below_then B6 b7
  obtain ⟨A7_, n7_, c7_, rfl, l7, k7_⟩ := own_shape o7
  have m7_ : n7_ ≤ 1048576 := by have := Hl0.out; omega
  have L7 := Lib.hid l7
  clear l7
  have O7 := Lib.hid o7
  clear o7
  go_wp2_with fail
  refine (laws_eqGuardS_self _ _ _ _ _ _ es0 _ m4_ m7_ (own_sl (Own.below (Own.below (Own.below O4.out b5 (Nat.le_refl _)) b6 (Nat.le_refl _)) b7 (Nat.le_refl _)) G3.cells_len) (own_sl O7.out G3.cells_len)).mono ?_
  rintro e w8 ⟨rfl, b8⟩
  have B8 := below_then B7 b8
  go_wp2_with fail
  refine (laws_markGuardS _ _ _ _ _ _ (by have := m4_; have := L4.out; omega) (by have := Hl0.out; omega) (by have := Hl0.out; omega) (Own.below (Own.below (Own.below (Own.below O4.out b5 (Nat.le_refl _)) b6 (Nat.le_refl _)) b7 (Nat.le_refl _)) b8 (Nat.le_refl _))).mono ?_
  rintro e w9 ⟨rfl, p9, g9⟩
  have B9 := own_grown B8 (Own.below (Own.below (Own.below (Own.below O4.out b5 (Nat.le_refl _)) b6 (Nat.le_refl _)) b7 (Nat.le_refl _)) b8 (Nat.le_refl _)) B3.size (Nat.le_trans (Nat.le_refl _) B8.size) g9
  clear p9
  go_wp2_with fail
  refine (laws_eqShiftS_self _ _ _ _ _ _ _ _ (by have := L5.out; have := RB; omega) (by have := L3.out; have := RB; omega) (own_sl (own_other (Own.below (Own.below (Own.below O5.out b6 (Nat.le_refl _)) b7 (Nat.le_refl _)) b8 (Nat.le_refl _)) (own_ne_hi O4.out O5.out (Nat.le_refl _)) g9) Q3.cells_len) (own_sl (own_other (Own.below (Own.below (Own.below (Own.below (Own.below O3.out b4 (Nat.le_refl _)) b5 (Nat.le_refl _)) b6 (Nat.le_refl _)) b7 (Nat.le_refl _)) b8 (Nat.le_refl _)) (own_ne_lo O3.out O4.out (Nat.le_refl _)) g9) Q3.cells_len)).mono ?_
  rintro e w10 ⟨rfl, b10⟩
  have B10 := below_then B9 b10
  go_wp2_with fail
  refine (laws_markShiftS _ _ _ _ _ _ (by have := L5.out; have := RB; omega) (by have := Hl0.out; omega) (by have := Hl0.out; omega) (Own.below (own_other (Own.below (Own.below (Own.below O5.out b6 (Nat.le_refl _)) b7 (Nat.le_refl _)) b8 (Nat.le_refl _)) (own_ne_hi O4.out O5.out (Nat.le_refl _)) g9) b10 (Nat.le_refl _))).mono ?_
  rintro e w11 ⟨rfl, p11, g11⟩
  have B11 := own_grown B10 (Own.below (own_other (Own.below (Own.below (Own.below O5.out b6 (Nat.le_refl _)) b7 (Nat.le_refl _)) b8 (Nat.le_refl _)) (own_ne_hi O4.out O5.out (Nat.le_refl _)) g9) b10 (Nat.le_refl _)) B4.size (Nat.le_trans (Nat.le_refl _) B10.size) g11
  have P11 := Lib.hid p11
  clear p11
  go_wp2_with fail
  refine (laws_heldShiftS _ _ _ _ _ (by have := L5.out; have := RB; omega) (by have := Hl0.out; omega) (by have := Hl0.out; omega) P11.out).mono ?_
  rintro e w' ⟨rfl, rfl⟩
  go_wp2_with fail
  refine (laws_toGuardS _ _ _ es0 _ m0 (h0.on B11)).mono ?_
  rintro e w12 ⟨v, rfl, o12, b12⟩
  have B12 := below_then B11 b12
  obtain ⟨A12_, n12_, c12_, rfl, l12, k12_⟩ := own_shape o12
  have m12_ : n12_ ≤ 1048576 := by have := Hl0.out; omega
  have L12 := Lib.hid l12
  clear l12
  have O12 := Lib.hid o12
  clear o12
  go_wp2_with fail
  refine (impl_PlanWatch _ _ _ es0 x1 x2 x3 x4 _ m12_ hs0c (own_sl O12.out G3.cells_len)).mono ?_
  rintro e w13 ⟨v, rfl, o13, b13⟩
  have B13 := below_then B12 b13
  obtain ⟨A13_, n13_, c13_, rfl, l13, _⟩ := own_shape o13
  have L13 := Lib.hid l13
  clear l13
  have O13 := Lib.hid o13
  clear o13
  go_wp2_with fail
  refine (laws_eqShiftS_self _ _ _ _ _ _ _ _ (by have := L13.out; have := RB; omega) (by have := L3.out; have := RB; omega) (own_sl O13.out Q3.cells_len) (own_sl (Own.below (Own.below (own_other (Own.below (own_other (Own.below (Own.below (Own.below (Own.below (Own.below O3.out b4 (Nat.le_refl _)) b5 (Nat.le_refl _)) b6 (Nat.le_refl _)) b7 (Nat.le_refl _)) b8 (Nat.le_refl _)) (own_ne_lo O3.out O4.out (Nat.le_refl _)) g9) b10 (Nat.le_refl _)) (own_ne_lo O3.out O5.out b4.size) g11) b12 (Nat.le_refl _)) b13 (Nat.le_refl _)) Q3.cells_len)).mono ?_
  rintro e w14 ⟨rfl, b14⟩
  have B14 := below_then B13 b14
  go_wp2_with fail
  refine (laws_heldShiftS _ _ _ _ _ (by have := L5.out; have := RB; omega) (by have := Hl0.out; omega) (by have := Hl0.out; omega) (owns_below (owns_below (owns_below P11.out b12 (Nat.le_refl _)) b13 (Nat.le_refl _)) b14 (Nat.le_refl _))).mono ?_
  rintro e w' ⟨rfl, rfl⟩
  go_wp2_with fail
  go_ret
  exact ⟨rfl, B14⟩
open Go.ChangeShapes Go.WideShapes Go.ChangeAt Go.Deep Go.Joins
set_option maxRecDepth 100000 in
theorem lifted_PlanWatch (os : Os) (started : os.Started) (H : Type) (enc : TypeId × Value → H) :
    ReturnsInHanded {} Try.checked os 9 .any (Rows.fnExactPlanWatchSpec.pre6 enc Try.prog Try.f9 [] false) (Rows.fnExactPlanWatchSpec.post enc Try.prog Try.f9 false true false false) := by
  refine lift_law (C := Try.checked) (by kernel_rfl) (by kernel_rfl) (s := Rows.fnExactPlanWatchSpec) (T := 4) Try.underlying4 rfl rfl ?_ (by kernel_rfl) (by kernel_rfl) Try.func9 started
    (ChangeSpec.witness6 (enc := enc) (C := Try.checked) false ⟨#[], #[.slice none 0 0, .int .i64 0, .int .i64 0, .int .i64 0, .int .i64 0], []⟩ 8 (by kernel_rfl) (by kernel_rfl) (by kernel_rfl) (by kernel_rfl)) ?_
  · intro H ds hl
    match ds, hl with
    | [d0, d1, d2, d3, d4], _ => rfl
  · intro W base args ds ps hval hlt hA
    have hval' : ∀ (j : Nat) t v, (#[22, 2, 2, 2, 2] : Array TypeId)[j]? = some t → args[j]? = some v → Value.okWide Try.prog W .any base t v := hval
    have hA' : DataW.TrodAll enc Try.prog W 0 (fun _ => true) true [22, 2, 2, 2, 2] args.toList ds ps := hA
    obtain ⟨v0, vs0, d0, ds0, p0, q0_, hargs, rfl, rfl, z0, r0⟩ := trodAll_cons hA'
    obtain ⟨v1, vs1, d1, ds1, p1, q1_, rfl, rfl, rfl, z1, r1⟩ := trodAll_cons r0
    obtain ⟨v2, vs2, d2, ds2, p2, q2_, rfl, rfl, rfl, z2, r2⟩ := trodAll_cons r1
    obtain ⟨v3, vs3, d3, ds3, p3, q3_, rfl, rfl, rfl, z3, r3⟩ := trodAll_cons r2
    obtain ⟨v4, vs4, d4, ds4, p4, q4_, rfl, rfl, rfl, z4, r4⟩ := trodAll_cons r3
    obtain ⟨rfl, rfl, rfl⟩ := trodAll_nil r4
    obtain rfl : args = #[v0, v1, v2, v3, v4] := by cases args; simp_all
    obtain ⟨A0, n0, c0, es0, rfl, hm0, hs0, hz0⟩ := open_g3s Try.underlying22 Try.underlying31 (by kernel_rfl) (by kernel_rfl) Try.underlying9 Try.underlying2 Try.underlying2 (hval' 0 22 v0 rfl rfl) z0
    obtain ⟨x1, rfl, rfl, rfl, _⟩ := open_int Try.underlying2 (hval' 1 2 v1 rfl rfl) z1
    obtain ⟨x2, rfl, rfl, rfl, _⟩ := open_int Try.underlying2 (hval' 2 2 v2 rfl rfl) z2
    obtain ⟨x3, rfl, rfl, rfl, _⟩ := open_int Try.underlying2 (hval' 3 2 v3 rfl rfl) z3
    obtain ⟨x4, rfl, rfl, rfl, _⟩ := open_int Try.underlying2 (hval' 4 2 v4 rfl rfl) z4
    exact law_PlanWatch A0 n0 c0 es0 x1 x2 x3 x4 W (by unfold maxLen at hm0; omega) hs0 (fun e he => by have := hz0 e he; unfold maxLen at this; exact this)
theorem row_PlanWatch : Rows.FnExactPlanWatchSaid :=
  OpenClaim.holds_of_wide 9 Try.f9 rfl rfl rfl rfl rfl rfl rfl ⟨rfl, rfl, rfl, rfl, rfl⟩ rfl rfl rfl rfl rfl (by kernel_rfl) Try.func9 (by kernel_rfl)
    (of_decide_eq_true (by kernel_rfl)) (by unfold Func.isWrapper; first | (rw [if_pos (by decide +kernel)]; kernel_rfl) | (rw [if_neg (by decide +kernel)]; exact ⟨rfl, rfl⟩))
    (fun os started H enc _ => lifted_PlanWatch os started H enc)

end Go.Proofs.Ythjdodamfinhaaa

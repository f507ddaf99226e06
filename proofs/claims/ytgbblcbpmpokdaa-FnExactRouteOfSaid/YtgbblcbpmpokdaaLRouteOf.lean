/- Proves: the law RouteOf returns true for every input and leaves its arguments as they were (the given statement). Conditions: none beyond the statement itself. -/
import Derived.Test.YtgbblcbpmpokdaaR7
import Derived.Test.YtgbblcbpmpokdaaTq
import Derived.Test.YtgbblcbpmpokdaaTi
import Derived.Test.YtgbblcbpmpokdaaRow
namespace Go.Proofs.Ytgbblcbpmpokdaa
open Go.RowKit Go.Sort

set_option maxHeartbeats 4000000 in
theorem law_RouteOf (A0 : Option Addr) (n0 c0 : Nat) (es0 : List Q4) (x1 : Int) (x2 : Int) (w : World) (hr0 : n0 ≤ 9223372036854775807) (h0 : Sl w w.heap.size 4 Q4.cells A0 n0 es0) :
    Calls Try.prog 4 #[.slice A0 n0 c0, .int .i64 x1, .int .i64 x2] w fun e w' => e = .returned (.bool true) ∧ Below w.heap.size w w' := by
  by_cases hm0 : n0 ≤ 1048576
  rotate_left
  · go_enter Try.func4, Try.ntmps4
    go_wp2_with fail
    refine (laws_szDefectS _ _ _ _ (by omega) (by omega) hr0 _).mono ?_
    rintro e w' ⟨rfl, rfl⟩
    rw [if_pos (by omega)]
    go_wp2_with fail
    go_ret
    first | exact ⟨rfl, Below.refl _ _⟩ | exact ⟨rfl, below_al (Below.refl _ _) _⟩
  have m0 : n0 ≤ 1048576 := by omega
  have Hl0 := Lib.hid h0.len
  go_enter Try.func4, Try.ntmps4
  go_wp2_with fail
  refine (laws_szDefectS _ _ _ _ (by omega) (by omega) hr0 _).mono ?_
  rintro e w' ⟨rfl, rfl⟩
  rw [if_neg (by omega)]
  have RB : (roOut es0 x1 x2).length ≤ 1048576 := by have := roOut_len es0 x1 x2; omega
  go_wp2_with fail
  refine (laws_toDefectS _ _ _ es0 _ m0 h0).mono ?_
  rintro e w1 ⟨v, rfl, o1, b1⟩
  have B1 := below_then (Below.refl _ _) b1
  obtain ⟨A1_, n1_, c1_, rfl, l1, k1_⟩ := own_shape o1
  have m1_ : n1_ ≤ 1048576 := by have := Hl0.out; omega
  have L1 := Lib.hid l1
  clear l1
  have O1 := Lib.hid o1
  clear o1
  go_wp2_with fail
  refine (spec_RouteOf _ _ _ es0 x1 x2 _ m1_ (own_sl O1.out Q4.cells_len)).mono ?_
  rintro e w2 ⟨v, rfl, o2, b2⟩
  have B2 := below_then B1 b2
  obtain ⟨A2_, n2_, c2_, rfl, l2, _⟩ := own_shape o2
  have L2 := Lib.hid l2
  clear l2
  have O2 := Lib.hid o2
  clear o2
  go_wp2_with fail
  refine (laws_toDefectS _ _ _ es0 _ m0 (h0.on B2)).mono ?_
  rintro e w3 ⟨v, rfl, o3, b3⟩
  have B3 := below_then B2 b3
  obtain ⟨A3_, n3_, c3_, rfl, l3, k3_⟩ := own_shape o3
  have m3_ : n3_ ≤ 1048576 := by have := Hl0.out; omega
  have L3 := Lib.hid l3
  clear l3
  have O3 := Lib.hid o3
  clear o3
  go_wp2_with fail
  refine (impl_RouteOf _ _ _ es0 x1 x2 _ m3_ (own_sl O3.out Q4.cells_len)).mono ?_
  rintro e w4 ⟨v, rfl, o4, b4⟩
  have B4 := below_then B3 b4
  obtain ⟨A4_, n4_, c4_, rfl, l4, _⟩ := own_shape o4
  have L4 := Lib.hid l4
  clear l4
  have O4 := Lib.hid o4
  clear o4
  go_wp2_with fail
  refine (laws_eqInt64S_self _ _ _ _ _ _ _ _ (by have := L4.out; have := RB; omega) (by have := L2.out; have := RB; omega) (own_sl O4.out icell_len) (own_sl (Own.below (Own.below O2.out b3 (Nat.le_refl _)) b4 (Nat.le_refl _)) icell_len)).mono ?_
  rintro e w5 ⟨rfl, b5⟩
  have B5 := below_then B4 b5
  go_wp2_with fail
  refine (laws_toDefectS _ _ _ es0 _ m0 (h0.on B5)).mono ?_
  rintro e w6 ⟨v, rfl, o6, b6⟩
  have B6 := below_then B5 b6
  obtain ⟨A6_, n6_, c6_, rfl, l6, k6_⟩ := own_shape o6
  have m6_ : n6_ ≤ 1048576 := by have := Hl0.out; omega
  have L6 := Lib.hid l6
  clear l6
  have O6 := Lib.hid o6
  clear o6
  go_wp2_with fail
  refine (laws_eqDefectS_self _ _ _ _ _ _ es0 _ m3_ m6_ (own_sl (Own.below (Own.below (Own.below O3.out b4 (Nat.le_refl _)) b5 (Nat.le_refl _)) b6 (Nat.le_refl _)) Q4.cells_len) (own_sl O6.out Q4.cells_len)).mono ?_
  rintro e w7 ⟨rfl, b7⟩
  have B7 := below_then B6 b7
  go_wp2_with fail
  refine (laws_markDefectS _ _ _ _ _ _ (by have := m3_; have := L3.out; omega) (by have := Hl0.out; omega) (by have := Hl0.out; omega) (Own.below (Own.below (Own.below (Own.below O3.out b4 (Nat.le_refl _)) b5 (Nat.le_refl _)) b6 (Nat.le_refl _)) b7 (Nat.le_refl _))).mono ?_
  rintro e w8 ⟨rfl, p8, g8⟩
  have B8 := own_grown B7 (Own.below (Own.below (Own.below (Own.below O3.out b4 (Nat.le_refl _)) b5 (Nat.le_refl _)) b6 (Nat.le_refl _)) b7 (Nat.le_refl _)) B2.size (Nat.le_trans (Nat.le_refl _) B7.size) g8
  clear p8
  go_wp2_with fail
  refine (laws_eqInt64S_self _ _ _ _ _ _ _ _ (by have := L4.out; have := RB; omega) (by have := L2.out; have := RB; omega) (own_sl (own_other (Own.below (Own.below (Own.below O4.out b5 (Nat.le_refl _)) b6 (Nat.le_refl _)) b7 (Nat.le_refl _)) (own_ne_hi O3.out O4.out (Nat.le_refl _)) g8) icell_len) (own_sl (own_other (Own.below (Own.below (Own.below (Own.below (Own.below O2.out b3 (Nat.le_refl _)) b4 (Nat.le_refl _)) b5 (Nat.le_refl _)) b6 (Nat.le_refl _)) b7 (Nat.le_refl _)) (own_ne_lo O2.out O3.out (Nat.le_refl _)) g8) icell_len)).mono ?_
  rintro e w9 ⟨rfl, b9⟩
  have B9 := below_then B8 b9
  go_wp2_with fail
  refine (laws_markInt64S _ _ _ _ _ _ (by have := L4.out; have := RB; omega) (by have := Hl0.out; omega) (by have := Hl0.out; omega) (Own.below (own_other (Own.below (Own.below (Own.below O4.out b5 (Nat.le_refl _)) b6 (Nat.le_refl _)) b7 (Nat.le_refl _)) (own_ne_hi O3.out O4.out (Nat.le_refl _)) g8) b9 (Nat.le_refl _))).mono ?_
  rintro e w10 ⟨rfl, p10, g10⟩
  have B10 := own_grown B9 (Own.below (own_other (Own.below (Own.below (Own.below O4.out b5 (Nat.le_refl _)) b6 (Nat.le_refl _)) b7 (Nat.le_refl _)) (own_ne_hi O3.out O4.out (Nat.le_refl _)) g8) b9 (Nat.le_refl _)) B3.size (Nat.le_trans (Nat.le_refl _) B9.size) g10
  have P10 := Lib.hid p10
  clear p10
  go_wp2_with fail
  refine (laws_heldInt64S _ _ _ _ _ (by have := L4.out; have := RB; omega) (by have := Hl0.out; omega) (by have := Hl0.out; omega) P10.out).mono ?_
  rintro e w' ⟨rfl, rfl⟩
  go_wp2_with fail
  refine (laws_toDefectS _ _ _ es0 _ m0 (h0.on B10)).mono ?_
  rintro e w11 ⟨v, rfl, o11, b11⟩
  have B11 := below_then B10 b11
  obtain ⟨A11_, n11_, c11_, rfl, l11, k11_⟩ := own_shape o11
  have m11_ : n11_ ≤ 1048576 := by have := Hl0.out; omega
  have L11 := Lib.hid l11
  clear l11
  have O11 := Lib.hid o11
  clear o11
  go_wp2_with fail
  refine (impl_RouteOf _ _ _ es0 x1 x2 _ m11_ (own_sl O11.out Q4.cells_len)).mono ?_
  rintro e w12 ⟨v, rfl, o12, b12⟩
  have B12 := below_then B11 b12
  obtain ⟨A12_, n12_, c12_, rfl, l12, _⟩ := own_shape o12
  have L12 := Lib.hid l12
  clear l12
  have O12 := Lib.hid o12
  clear o12
  go_wp2_with fail
  refine (laws_eqInt64S_self _ _ _ _ _ _ _ _ (by have := L12.out; have := RB; omega) (by have := L2.out; have := RB; omega) (own_sl O12.out icell_len) (own_sl (Own.below (Own.below (own_other (Own.below (own_other (Own.below (Own.below (Own.below (Own.below (Own.below O2.out b3 (Nat.le_refl _)) b4 (Nat.le_refl _)) b5 (Nat.le_refl _)) b6 (Nat.le_refl _)) b7 (Nat.le_refl _)) (own_ne_lo O2.out O3.out (Nat.le_refl _)) g8) b9 (Nat.le_refl _)) (own_ne_lo O2.out O4.out b3.size) g10) b11 (Nat.le_refl _)) b12 (Nat.le_refl _)) icell_len)).mono ?_
  rintro e w13 ⟨rfl, b13⟩
  have B13 := below_then B12 b13
  go_wp2_with fail
  refine (laws_heldInt64S _ _ _ _ _ (by have := L4.out; have := RB; omega) (by have := Hl0.out; omega) (by have := Hl0.out; omega) (owns_below (owns_below (owns_below P10.out b11 (Nat.le_refl _)) b12 (Nat.le_refl _)) b13 (Nat.le_refl _))).mono ?_
  rintro e w' ⟨rfl, rfl⟩
  go_wp2_with fail
  go_ret
  exact ⟨rfl, B13⟩
open Go.ChangeShapes Go.WideShapes Go.ChangeAt Go.Deep Go.Joins
set_option maxRecDepth 100000 in
theorem lifted_RouteOf (os : Os) (started : os.Started) (H : Type) (enc : TypeId × Value → H) :
    ReturnsInHanded {} Try.checked os 4 .any (Rows.fnExactRouteOfSpec.pre6 enc Try.prog Try.f4 [] false) (Rows.fnExactRouteOfSpec.post enc Try.prog Try.f4 false true false false) := by
  refine lift_law (C := Try.checked) (by kernel_rfl) (by kernel_rfl) (s := Rows.fnExactRouteOfSpec) (T := 4) Try.underlying4 rfl rfl ?_ (by kernel_rfl) (by kernel_rfl) Try.func4 started
    (ChangeSpec.witness6 (enc := enc) (C := Try.checked) false ⟨#[], #[.slice none 0 0, .int .i64 0, .int .i64 0], []⟩ 8 (by kernel_rfl) (by kernel_rfl) (by kernel_rfl) (by kernel_rfl)) ?_
  · intro H ds hl
    match ds, hl with
    | [d0, d1, d2], _ => rfl
  · intro W base args ds ps hval hlt hA
    have hval' : ∀ (j : Nat) t v, (#[35, 2, 2] : Array TypeId)[j]? = some t → args[j]? = some v → Value.okWide Try.prog W .any base t v := hval
    have hA' : DataW.TrodAll enc Try.prog W 0 (fun _ => true) true [35, 2, 2] args.toList ds ps := hA
    obtain ⟨v0, v1, v2, d0, d1, d2, p0, p1, p2, rfl, rfl, rfl, z0, z1, z2⟩ := trodAll_three hA'
    obtain ⟨A0, n0, c0, es0, rfl, hm0, hs0, _⟩ := open_q4s Try.underlying35 Try.underlying69 (by kernel_rfl) (by kernel_rfl) Try.underlying2 Try.underlying2 Try.underlying2 Try.underlying2 (hval' 0 35 v0 rfl rfl) z0
    obtain ⟨x1, rfl, rfl, rfl, _⟩ := open_int Try.underlying2 (hval' 1 2 v1 rfl rfl) z1
    obtain ⟨x2, rfl, rfl, rfl, _⟩ := open_int Try.underlying2 (hval' 2 2 v2 rfl rfl) z2
    exact law_RouteOf A0 n0 c0 es0 x1 x2 W (by unfold maxLen at hm0; omega) hs0
theorem row_RouteOf : Rows.FnExactRouteOfSaid :=
  OpenClaim.holds_of_wide 4 Try.f4 rfl rfl rfl rfl rfl rfl rfl ⟨rfl, rfl, rfl, rfl, rfl⟩ rfl rfl rfl rfl rfl (by kernel_rfl) Try.func4 (by kernel_rfl)
    (of_decide_eq_true (by kernel_rfl)) (by unfold Func.isWrapper; first | (rw [if_pos (by decide +kernel)]; kernel_rfl) | (rw [if_neg (by decide +kernel)]; exact ⟨rfl, rfl⟩))
    (fun os started H enc _ => lifted_RouteOf os started H enc)

end Go.Proofs.Ytgbblcbpmpokdaa

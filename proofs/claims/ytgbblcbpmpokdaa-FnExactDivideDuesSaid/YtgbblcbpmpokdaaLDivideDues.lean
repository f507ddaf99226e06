/- Proves: the law DivideDues returns true for every input and leaves its arguments as they were (the given statement). Conditions: none beyond the statement itself. -/
import Derived.Test.YtgbblcbpmpokdaaV7
import Derived.Test.YtgbblcbpmpokdaaV8
import Derived.Test.YtgbblcbpmpokdaaTq
import Derived.Test.YtgbblcbpmpokdaaTi
import Derived.Test.YtgbblcbpmpokdaaRow
namespace Go.Proofs.Ytgbblcbpmpokdaa
open Go.RowKit Go.Sort

set_option maxHeartbeats 4000000 in
theorem law_DivideDues (A0 : Option Addr) (n0 c0 : Nat) (es0 : List Q4) (A1 : Option Addr) (n1 c1 : Nat) (es1 : List Int) (x2 : Int) (w : World) (hr0 : n0 ≤ 9223372036854775807) (h0 : Sl w w.heap.size 4 Q4.cells A0 n0 es0) (hr1 : n1 ≤ 9223372036854775807) (h1 : Sl w w.heap.size 1 icell A1 n1 es1) :
    Calls Try.prog 3 #[.slice A0 n0 c0, .slice A1 n1 c1, .int .i64 x2] w fun e w' => e = .returned (.bool true) ∧ Below w.heap.size w w' := by
  by_cases hm1 : n1 ≤ 1048576
  rotate_left
  · go_enter Try.func3, Try.ntmps3
    go_wp2_with fail
    go_ret
    first | exact ⟨rfl, Below.refl _ _⟩ | exact ⟨rfl, below_al (Below.refl _ _) _⟩
  by_cases hm0 : n0 ≤ 1048576
  rotate_left
  · go_enter Try.func3, Try.ntmps3
    go_wp2_with fail
    refine (laws_szParcelS _ _ _ _ (by omega) (by omega) hr0 _).mono ?_
    rintro e w' ⟨rfl, rfl⟩
    rw [if_pos (by omega)]
    go_wp2_with fail
    go_ret
    first | exact ⟨rfl, Below.refl _ _⟩ | exact ⟨rfl, below_al (Below.refl _ _) _⟩
  have m0 : n0 ≤ 1048576 := by omega
  have Hl0 := Lib.hid h0.len
  have m1 : n1 ≤ 1048576 := by omega
  have Hl1 := Lib.hid h1.len
  go_enter Try.func3, Try.ntmps3
  go_wp2_with fail
  refine (laws_szParcelS _ _ _ _ (by omega) (by omega) hr0 _).mono ?_
  rintro e w' ⟨rfl, rfl⟩
  rw [if_neg (by omega)]
  have RB : (duOut es0 es1 x2).length ≤ 1048576 := by have := duOut_len es0 es1 x2; omega
  go_wp2_with fail
  refine (laws_toParcelS _ _ _ es0 _ m0 h0).mono ?_
  rintro e w1 ⟨v, rfl, o1, b1⟩
  have B1 := below_then (Below.refl _ _) b1
  obtain ⟨A1_, n1_, c1_, rfl, l1, k1_⟩ := own_shape o1
  have m1_ : n1_ ≤ 1048576 := by have := Hl0.out; omega
  have L1 := Lib.hid l1
  clear l1
  have O1 := Lib.hid o1
  clear o1
  go_wp2_with fail
  refine (laws_toInt64S _ _ _ es1 _ m1 (h1.on B1)).mono ?_
  rintro e w2 ⟨v, rfl, o2, b2⟩
  have B2 := below_then B1 b2
  obtain ⟨A2_, n2_, c2_, rfl, l2, k2_⟩ := own_shape o2
  have m2_ : n2_ ≤ 1048576 := by have := Hl1.out; omega
  have L2 := Lib.hid l2
  clear l2
  have O2 := Lib.hid o2
  clear o2
  go_wp2_with fail
  refine (spec_DivideDues _ _ _ es0 _ _ _ es1 x2 _ m1_ m2_ (own_sl (Own.below O1.out b2 (Nat.le_refl _)) Q4.cells_len) (own_sl O2.out icell_len)).mono ?_
  rintro e w3 ⟨v, rfl, o3, b3⟩
  have B3 := below_then B2 b3
  obtain ⟨A3_, n3_, c3_, rfl, l3, _⟩ := own_shape o3
  have L3 := Lib.hid l3
  clear l3
  have O3 := Lib.hid o3
  clear o3
  go_wp2_with fail
  refine (laws_toParcelS _ _ _ es0 _ m0 (h0.on B3)).mono ?_
  rintro e w4 ⟨v, rfl, o4, b4⟩
  have B4 := below_then B3 b4
  obtain ⟨A4_, n4_, c4_, rfl, l4, k4_⟩ := own_shape o4
  have m4_ : n4_ ≤ 1048576 := by have := Hl0.out; omega
  have L4 := Lib.hid l4
  clear l4
  have O4 := Lib.hid o4
  clear o4
  go_wp2_with fail
  refine (laws_toInt64S _ _ _ es1 _ m1 (h1.on B4)).mono ?_
  rintro e w5 ⟨v, rfl, o5, b5⟩
  have B5 := below_then B4 b5
  obtain ⟨A5_, n5_, c5_, rfl, l5, k5_⟩ := own_shape o5
  have m5_ : n5_ ≤ 1048576 := by have := Hl1.out; omega
  have L5 := Lib.hid l5
  clear l5
  have O5 := Lib.hid o5
  clear o5
  go_wp2_with fail
  refine (impl_DivideDues _ _ _ es0 _ _ _ es1 x2 _ m4_ m5_ (own_sl (Own.below O4.out b5 (Nat.le_refl _)) Q4.cells_len) (own_sl O5.out icell_len)).mono ?_
  rintro e w6 ⟨v, rfl, o6, b6⟩
  have B6 := below_then B5 b6
  obtain ⟨A6_, n6_, c6_, rfl, l6, _⟩ := own_shape o6
  have L6 := Lib.hid l6
  clear l6
  have O6 := Lib.hid o6
  clear o6
  go_wp2_with fail
  refine (laws_eqInt64S_self _ _ _ _ _ _ _ _ (by have := L6.out; have := RB; omega) (by have := L3.out; have := RB; omega) (own_sl O6.out icell_len) (own_sl (Own.below (Own.below (Own.below O3.out b4 (Nat.le_refl _)) b5 (Nat.le_refl _)) b6 (Nat.le_refl _)) icell_len)).mono ?_
  rintro e w7 ⟨rfl, b7⟩
  have B7 := below_then B6 b7
  go_wp2_with fail
  refine (laws_toParcelS _ _ _ es0 _ m0 (h0.on B7)).mono ?_
  rintro e w8 ⟨v, rfl, o8, b8⟩
  have B8 := below_then B7 b8
  obtain ⟨A8_, n8_, c8_, rfl, l8, k8_⟩ := own_shape o8
  have m8_ : n8_ ≤ 1048576 := by have := Hl0.out; omega
  have L8 := Lib.hid l8
  clear l8
  have O8 := Lib.hid o8
  clear o8
  go_wp2_with fail
  refine (laws_eqParcelS_self _ _ _ _ _ _ es0 _ m4_ m8_ (own_sl (Own.below (Own.below (Own.below (Own.below O4.out b5 (Nat.le_refl _)) b6 (Nat.le_refl _)) b7 (Nat.le_refl _)) b8 (Nat.le_refl _)) Q4.cells_len) (own_sl O8.out Q4.cells_len)).mono ?_
  rintro e w9 ⟨rfl, b9⟩
  have B9 := below_then B8 b9
  go_wp2_with fail
  refine (laws_toInt64S _ _ _ es1 _ m1 (h1.on B9)).mono ?_
  rintro e w10 ⟨v, rfl, o10, b10⟩
  have B10 := below_then B9 b10
  obtain ⟨A10_, n10_, c10_, rfl, l10, k10_⟩ := own_shape o10
  have m10_ : n10_ ≤ 1048576 := by have := Hl1.out; omega
  have L10 := Lib.hid l10
  clear l10
  have O10 := Lib.hid o10
  clear o10
  go_wp2_with fail
  refine (laws_eqInt64S_self _ _ _ _ _ _ es1 _ m5_ m10_ (own_sl (Own.below (Own.below (Own.below (Own.below (Own.below O5.out b6 (Nat.le_refl _)) b7 (Nat.le_refl _)) b8 (Nat.le_refl _)) b9 (Nat.le_refl _)) b10 (Nat.le_refl _)) icell_len) (own_sl O10.out icell_len)).mono ?_
  rintro e w11 ⟨rfl, b11⟩
  have B11 := below_then B10 b11
  go_wp2_with fail
  refine (laws_markParcelS _ _ _ _ _ _ (by have := m4_; have := L4.out; omega) (by have := Hl0.out; have := Hl1.out; omega) (by have := Hl0.out; have := Hl1.out; omega) (Own.below (Own.below (Own.below (Own.below (Own.below (Own.below (Own.below O4.out b5 (Nat.le_refl _)) b6 (Nat.le_refl _)) b7 (Nat.le_refl _)) b8 (Nat.le_refl _)) b9 (Nat.le_refl _)) b10 (Nat.le_refl _)) b11 (Nat.le_refl _))).mono ?_
  rintro e w12 ⟨rfl, p12, g12⟩
  have B12 := own_grown B11 (Own.below (Own.below (Own.below (Own.below (Own.below (Own.below (Own.below O4.out b5 (Nat.le_refl _)) b6 (Nat.le_refl _)) b7 (Nat.le_refl _)) b8 (Nat.le_refl _)) b9 (Nat.le_refl _)) b10 (Nat.le_refl _)) b11 (Nat.le_refl _)) B3.size (Nat.le_trans (Nat.le_refl _) B11.size) g12
  clear p12
  go_wp2_with fail
  refine (laws_markInt64S _ _ _ _ _ _ (by have := m5_; have := L5.out; omega) (by have := Hl0.out; have := Hl1.out; omega) (by have := Hl0.out; have := Hl1.out; omega) (own_other (Own.below (Own.below (Own.below (Own.below (Own.below (Own.below O5.out b6 (Nat.le_refl _)) b7 (Nat.le_refl _)) b8 (Nat.le_refl _)) b9 (Nat.le_refl _)) b10 (Nat.le_refl _)) b11 (Nat.le_refl _)) (own_ne_hi O4.out O5.out (Nat.le_refl _)) g12)).mono ?_
  rintro e w13 ⟨rfl, p13, g13⟩
  have B13 := own_grown B12 (own_other (Own.below (Own.below (Own.below (Own.below (Own.below (Own.below O5.out b6 (Nat.le_refl _)) b7 (Nat.le_refl _)) b8 (Nat.le_refl _)) b9 (Nat.le_refl _)) b10 (Nat.le_refl _)) b11 (Nat.le_refl _)) (own_ne_hi O4.out O5.out (Nat.le_refl _)) g12) B4.size (Nat.le_trans (Nat.le_refl _) B12.size) g13
  clear p13
  go_wp2_with fail
  refine (laws_eqInt64S_self _ _ _ _ _ _ _ _ (by have := L6.out; have := RB; omega) (by have := L3.out; have := RB; omega) (own_sl (own_other (own_other (Own.below (Own.below (Own.below (Own.below (Own.below O6.out b7 (Nat.le_refl _)) b8 (Nat.le_refl _)) b9 (Nat.le_refl _)) b10 (Nat.le_refl _)) b11 (Nat.le_refl _)) (own_ne_hi O4.out O6.out b5.size) g12) (own_ne_hi O5.out O6.out (Nat.le_refl _)) g13) icell_len) (own_sl (own_other (own_other (Own.below (Own.below (Own.below (Own.below (Own.below (Own.below (Own.below (Own.below O3.out b4 (Nat.le_refl _)) b5 (Nat.le_refl _)) b6 (Nat.le_refl _)) b7 (Nat.le_refl _)) b8 (Nat.le_refl _)) b9 (Nat.le_refl _)) b10 (Nat.le_refl _)) b11 (Nat.le_refl _)) (own_ne_lo O3.out O4.out (Nat.le_refl _)) g12) (own_ne_lo O3.out O5.out b4.size) g13) icell_len)).mono ?_
  rintro e w14 ⟨rfl, b14⟩
  have B14 := below_then B13 b14
  go_wp2_with fail
  refine (laws_markInt64S _ _ _ _ _ _ (by have := L6.out; have := RB; omega) (by have := Hl0.out; have := Hl1.out; omega) (by have := Hl0.out; have := Hl1.out; omega) (Own.below (own_other (own_other (Own.below (Own.below (Own.below (Own.below (Own.below O6.out b7 (Nat.le_refl _)) b8 (Nat.le_refl _)) b9 (Nat.le_refl _)) b10 (Nat.le_refl _)) b11 (Nat.le_refl _)) (own_ne_hi O4.out O6.out b5.size) g12) (own_ne_hi O5.out O6.out (Nat.le_refl _)) g13) b14 (Nat.le_refl _))).mono ?_
  rintro e w15 ⟨rfl, p15, g15⟩
  have B15 := own_grown B14 (Own.below (own_other (own_other (Own.below (Own.below (Own.below (Own.below (Own.below O6.out b7 (Nat.le_refl _)) b8 (Nat.le_refl _)) b9 (Nat.le_refl _)) b10 (Nat.le_refl _)) b11 (Nat.le_refl _)) (own_ne_hi O4.out O6.out b5.size) g12) (own_ne_hi O5.out O6.out (Nat.le_refl _)) g13) b14 (Nat.le_refl _)) B5.size (Nat.le_trans (Nat.le_refl _) B14.size) g15
  have P15 := Lib.hid p15
  clear p15
  go_wp2_with fail
  refine (laws_heldInt64S _ _ _ _ _ (by have := L6.out; have := RB; omega) (by have := Hl0.out; have := Hl1.out; omega) (by have := Hl0.out; have := Hl1.out; omega) P15.out).mono ?_
  rintro e w' ⟨rfl, rfl⟩
  go_wp2_with fail
  refine (laws_toParcelS _ _ _ es0 _ m0 (h0.on B15)).mono ?_
  rintro e w16 ⟨v, rfl, o16, b16⟩
  have B16 := below_then B15 b16
  obtain ⟨A16_, n16_, c16_, rfl, l16, k16_⟩ := own_shape o16
  have m16_ : n16_ ≤ 1048576 := by have := Hl0.out; omega
  have L16 := Lib.hid l16
  clear l16
  have O16 := Lib.hid o16
  clear o16
  go_wp2_with fail
  refine (laws_toInt64S _ _ _ es1 _ m1 (h1.on B16)).mono ?_
  rintro e w17 ⟨v, rfl, o17, b17⟩
  have B17 := below_then B16 b17
  obtain ⟨A17_, n17_, c17_, rfl, l17, k17_⟩ := own_shape o17
  have m17_ : n17_ ≤ 1048576 := by have := Hl1.out; omega
  have L17 := Lib.hid l17
  clear l17
  have O17 := Lib.hid o17
  clear o17
  go_wp2_with fail
  refine (impl_DivideDues _ _ _ es0 _ _ _ es1 x2 _ m16_ m17_ (own_sl (Own.below O16.out b17 (Nat.le_refl _)) Q4.cells_len) (own_sl O17.out icell_len)).mono ?_
  rintro e w18 ⟨v, rfl, o18, b18⟩
  have B18 := below_then B17 b18
  obtain ⟨A18_, n18_, c18_, rfl, l18, _⟩ := own_shape o18
  have L18 := Lib.hid l18
  clear l18
  have O18 := Lib.hid o18
  clear o18
  go_wp2_with fail
  refine (laws_eqInt64S_self _ _ _ _ _ _ _ _ (by have := L18.out; have := RB; omega) (by have := L3.out; have := RB; omega) (own_sl O18.out icell_len) (own_sl (Own.below (Own.below (Own.below (own_other (Own.below (own_other (own_other (Own.below (Own.below (Own.below (Own.below (Own.below (Own.below (Own.below (Own.below O3.out b4 (Nat.le_refl _)) b5 (Nat.le_refl _)) b6 (Nat.le_refl _)) b7 (Nat.le_refl _)) b8 (Nat.le_refl _)) b9 (Nat.le_refl _)) b10 (Nat.le_refl _)) b11 (Nat.le_refl _)) (own_ne_lo O3.out O4.out (Nat.le_refl _)) g12) (own_ne_lo O3.out O5.out b4.size) g13) b14 (Nat.le_refl _)) (own_ne_lo O3.out O6.out (below_then b4 b5).size) g15) b16 (Nat.le_refl _)) b17 (Nat.le_refl _)) b18 (Nat.le_refl _)) icell_len)).mono ?_
  rintro e w19 ⟨rfl, b19⟩
  have B19 := below_then B18 b19
  go_wp2_with fail
  refine (laws_heldInt64S _ _ _ _ _ (by have := L6.out; have := RB; omega) (by have := Hl0.out; have := Hl1.out; omega) (by have := Hl0.out; have := Hl1.out; omega) (owns_below (owns_below (owns_below (owns_below P15.out b16 (Nat.le_refl _)) b17 (Nat.le_refl _)) b18 (Nat.le_refl _)) b19 (Nat.le_refl _))).mono ?_
  rintro e w' ⟨rfl, rfl⟩
  go_wp2_with fail
  go_ret
  exact ⟨rfl, B19⟩
open Go.ChangeShapes Go.WideShapes Go.ChangeAt Go.Deep Go.Joins
set_option maxRecDepth 100000 in
theorem lifted_DivideDues (os : Os) (started : os.Started) (H : Type) (enc : TypeId × Value → H) :
    ReturnsInHanded {} Try.checked os 3 .any (Rows.fnExactDivideDuesSpec.pre6 enc Try.prog Try.f3 [] false) (Rows.fnExactDivideDuesSpec.post enc Try.prog Try.f3 false true false false) := by
  refine lift_law (C := Try.checked) (by kernel_rfl) (by kernel_rfl) (s := Rows.fnExactDivideDuesSpec) (T := 4) Try.underlying4 rfl rfl ?_ (by kernel_rfl) (by kernel_rfl) Try.func3 started
    (ChangeSpec.witness6 (enc := enc) (C := Try.checked) false ⟨#[], #[.slice none 0 0, .slice none 0 0, .int .i64 0], []⟩ 8 (by kernel_rfl) (by kernel_rfl) (by kernel_rfl) (by kernel_rfl)) ?_
  · intro H ds hl
    match ds, hl with
    | [d0, d1, d2], _ => rfl
  · intro W base args ds ps hval hlt hA
    have hval' : ∀ (j : Nat) t v, (#[22, 23, 2] : Array TypeId)[j]? = some t → args[j]? = some v → Value.okWide Try.prog W .any base t v := hval
    have hA' : DataW.TrodAll enc Try.prog W 0 (fun _ => true) true [22, 23, 2] args.toList ds ps := hA
    obtain ⟨v0, v1, v2, d0, d1, d2, p0, p1, p2, rfl, rfl, rfl, z0, z1, z2⟩ := trodAll_three hA'
    obtain ⟨A0, n0, c0, es0, rfl, hm0, hs0, _⟩ := open_q4s Try.underlying22 Try.underlying56 (by kernel_rfl) (by kernel_rfl) Try.underlying2 Try.underlying2 Try.underlying2 Try.underlying2 (hval' 0 22 v0 rfl rfl) z0
    obtain ⟨A1, n1, c1, es1, rfl, hm1, hs1, _⟩ := open_int64s Try.underlying23 Try.underlying2 (by kernel_rfl) (hval' 1 23 v1 rfl rfl) z1
    obtain ⟨x2, rfl, rfl, rfl, _⟩ := open_int Try.underlying2 (hval' 2 2 v2 rfl rfl) z2
    exact law_DivideDues A0 n0 c0 es0 A1 n1 c1 es1 x2 W (by unfold maxLen at hm0; omega) hs0 (by unfold maxLen at hm1; omega) hs1
theorem row_DivideDues : Rows.FnExactDivideDuesSaid :=
  OpenClaim.holds_of_wide 3 Try.f3 rfl rfl rfl rfl rfl rfl rfl ⟨rfl, rfl, rfl, rfl, rfl⟩ rfl rfl rfl rfl rfl (by kernel_rfl) Try.func3 (by kernel_rfl)
    (of_decide_eq_true (by kernel_rfl)) (by unfold Func.isWrapper; first | (rw [if_pos (by decide +kernel)]; kernel_rfl) | (rw [if_neg (by decide +kernel)]; exact ⟨rfl, rfl⟩))
    (fun os started H enc _ => lifted_DivideDues os started H enc)

end Go.Proofs.Ytgbblcbpmpokdaa

/- Proves: the law RouteMetres returns true for every input and leaves its arguments as they were (the given statement). Conditions: none beyond the statement itself. -/
import Derived.Test.YtccajbnklegniaaD7
import Derived.Test.YtccajbnklegniaaRow
namespace Go.Proofs.Ytccajbnklegniaa
open Go.RowKit Go.Sort

set_option maxHeartbeats 4000000 in
theorem law_RouteMetres (A0 : Option Addr) (n0 c0 : Nat) (es0 : List Q4) (x1 : Int) (A2 : Option Addr) (n2 c2 : Nat) (es2 : List Int) (w : World) (hr0 : n0 ≤ 9223372036854775807) (h0 : Sl w w.heap.size 4 Q4.cells A0 n0 es0) (hr2 : n2 ≤ 9223372036854775807) (h2 : Sl w w.heap.size 1 icell A2 n2 es2) :
    Calls Try.prog 9 #[.slice A0 n0 c0, .int .i64 x1, .slice A2 n2 c2] w fun e w' => e = .returned (.bool true) ∧ Below w.heap.size w w' := by
  by_cases hm2 : n2 ≤ 1048576
  rotate_left
  · go_enter Try.func9, Try.ntmps9
    go_wp2_with fail
    go_ret
    first | exact ⟨rfl, Below.refl _ _⟩ | exact ⟨rfl, below_al (Below.refl _ _) _⟩
  by_cases hm0 : n0 ≤ 1048576
  rotate_left
  · go_enter Try.func9, Try.ntmps9
    go_wp2_with fail
    refine (laws_szDefectS _ _ _ _ (by omega) (by omega) hr0 _).mono ?_
    rintro e w' ⟨rfl, rfl⟩
    rw [if_pos (by omega)]
    go_wp2_with fail
    go_ret
    first | exact ⟨rfl, Below.refl _ _⟩ | exact ⟨rfl, below_al (Below.refl _ _) _⟩
  have m0 : n0 ≤ 1048576 := by omega
  have Hl0 := Lib.hid h0.len
  have m2 : n2 ≤ 1048576 := by omega
  have Hl2 := Lib.hid h2.len
  go_enter Try.func9, Try.ntmps9
  go_wp2_with fail
  refine (laws_szDefectS _ _ _ _ (by omega) (by omega) hr0 _).mono ?_
  rintro e w' ⟨rfl, rfl⟩
  rw [if_neg (by omega)]
  go_wp2_with fail
  refine (laws_toDefectS _ _ _ es0 _ m0 h0).mono ?_
  rintro e w1 ⟨v, rfl, o1, b1⟩
  have B1 := below_then (Below.refl _ _) b1
  obtain ⟨A1_, n1_, c1_, rfl, l1, _⟩ := own_shape o1
  have m1_ : n1_ ≤ 1048576 := by have := Hl0.out; omega
  have L1 := Lib.hid l1
  clear l1
  have O1 := Lib.hid o1
  clear o1
  go_wp2_with fail
  refine (laws_toInt64S _ _ _ es2 _ m2 (h2.on B1)).mono ?_
  rintro e w2 ⟨v, rfl, o2, b2⟩
  have B2 := below_then B1 b2
  obtain ⟨A2_, n2_, c2_, rfl, l2, _⟩ := own_shape o2
  have m2_ : n2_ ≤ 1048576 := by have := Hl2.out; omega
  have L2 := Lib.hid l2
  clear l2
  have O2 := Lib.hid o2
  clear o2
  go_wp2_with fail
  refine (spec_RouteMetres _ _ _ es0 x1 _ _ _ es2 _ m1_ m2_ (by assumption) (own_sl (Own.below O1.out b2 (Nat.le_refl _)) Q4.cells_len) (own_sl O2.out icell_len)).mono ?_
  rintro e w3 ⟨rfl, b3⟩
  have B3 := below_then B2 b3
  go_wp2_with fail
  refine (laws_toDefectS _ _ _ es0 _ m0 (h0.on B3)).mono ?_
  rintro e w4 ⟨v, rfl, o4, b4⟩
  have B4 := below_then B3 b4
  obtain ⟨A4_, n4_, c4_, rfl, l4, _⟩ := own_shape o4
  have m4_ : n4_ ≤ 1048576 := by have := Hl0.out; omega
  have L4 := Lib.hid l4
  clear l4
  have O4 := Lib.hid o4
  clear o4
  go_wp2_with fail
  refine (laws_toInt64S _ _ _ es2 _ m2 (h2.on B4)).mono ?_
  rintro e w5 ⟨v, rfl, o5, b5⟩
  have B5 := below_then B4 b5
  obtain ⟨A5_, n5_, c5_, rfl, l5, _⟩ := own_shape o5
  have m5_ : n5_ ≤ 1048576 := by have := Hl2.out; omega
  have L5 := Lib.hid l5
  clear l5
  have O5 := Lib.hid o5
  clear o5
  go_wp2_with fail
  refine (impl_RouteMetres _ _ _ es0 x1 _ _ _ es2 _ m4_ m5_ (by assumption) (own_sl (Own.below O4.out b5 (Nat.le_refl _)) Q4.cells_len) (own_sl O5.out icell_len)).mono ?_
  rintro e w6 ⟨rfl, b6⟩
  have B6 := below_then B5 b6
  go_wp2_with fail
  refine (laws_toDefectS _ _ _ es0 _ m0 (h0.on B6)).mono ?_
  rintro e w7 ⟨v, rfl, o7, b7⟩
  have B7 := below_then B6 b7
  obtain ⟨A7_, n7_, c7_, rfl, l7, _⟩ := own_shape o7
  have m7_ : n7_ ≤ 1048576 := by have := Hl0.out; omega
  have L7 := Lib.hid l7
  clear l7
  have O7 := Lib.hid o7
  clear o7
  go_wp2_with fail
  refine (laws_eqDefectS_self _ _ _ _ _ _ es0 _ m4_ m7_ (own_sl (Own.below (Own.below (Own.below O4.out b5 (Nat.le_refl _)) b6 (Nat.le_refl _)) b7 (Nat.le_refl _)) Q4.cells_len) (own_sl O7.out Q4.cells_len)).mono ?_
  rintro e w8 ⟨rfl, b8⟩
  have B8 := below_then B7 b8
  go_wp2_with fail
  refine (laws_toInt64S _ _ _ es2 _ m2 (h2.on B8)).mono ?_
  rintro e w9 ⟨v, rfl, o9, b9⟩
  have B9 := below_then B8 b9
  obtain ⟨A9_, n9_, c9_, rfl, l9, _⟩ := own_shape o9
  have m9_ : n9_ ≤ 1048576 := by have := Hl2.out; omega
  have L9 := Lib.hid l9
  clear l9
  have O9 := Lib.hid o9
  clear o9
  go_wp2_with fail
  refine (laws_eqInt64S_self _ _ _ _ _ _ es2 _ m5_ m9_ (own_sl (Own.below (Own.below (Own.below (Own.below O5.out b6 (Nat.le_refl _)) b7 (Nat.le_refl _)) b8 (Nat.le_refl _)) b9 (Nat.le_refl _)) icell_len) (own_sl O9.out icell_len)).mono ?_
  rintro e w10 ⟨rfl, b10⟩
  have B10 := below_then B9 b10
  go_wp2_with fail
  go_ret
  exact ⟨rfl, B10⟩
open Go.ChangeShapes Go.WideShapes Go.ChangeAt Go.Deep Go.Joins
set_option maxRecDepth 100000 in
theorem lifted_RouteMetres (os : Os) (started : os.Started) (H : Type) (enc : TypeId × Value → H) :
    ReturnsInHanded {} Try.checked os 9 .any (Rows.fnExactRouteMetresSpec.pre6 enc Try.prog Try.f9 [] false) (Rows.fnExactRouteMetresSpec.post enc Try.prog Try.f9 false true false false) := by
  refine lift_law (C := Try.checked) (by kernel_rfl) (by kernel_rfl) (s := Rows.fnExactRouteMetresSpec) (T := 4) Try.underlying4 rfl rfl ?_ (by kernel_rfl) (by kernel_rfl) Try.func9 started
    (ChangeSpec.witness6 (enc := enc) (C := Try.checked) false ⟨#[], #[.slice none 0 0, .int .i64 0, .slice none 0 0], []⟩ 8 (by kernel_rfl) (by kernel_rfl) (by kernel_rfl) (by kernel_rfl)) ?_
  · intro H ds hl
    match ds, hl with
    | [d0, d1, d2], _ => rfl
  · intro W base args ds ps hval hlt hA
    have hval' : ∀ (j : Nat) t v, (#[25, 2, 33] : Array TypeId)[j]? = some t → args[j]? = some v → Value.okWide Try.prog W .any base t v := hval
    have hA' : DataW.TrodAll enc Try.prog W 0 (fun _ => true) true [25, 2, 33] args.toList ds ps := hA
    obtain ⟨v0, v1, v2, d0, d1, d2, p0, p1, p2, rfl, rfl, rfl, z0, z1, z2⟩ := trodAll_three hA'
    obtain ⟨A0, n0, c0, es0, rfl, hm0, hs0, _⟩ := open_q4s Try.underlying25 Try.underlying43 (by kernel_rfl) (by kernel_rfl) Try.underlying2 Try.underlying2 Try.underlying2 Try.underlying2 (hval' 0 25 v0 rfl rfl) z0
    obtain ⟨x1, rfl, rfl, rfl, _⟩ := open_int Try.underlying2 (hval' 1 2 v1 rfl rfl) z1
    obtain ⟨A2, n2, c2, es2, rfl, hm2, hs2, _⟩ := open_int64s Try.underlying33 Try.underlying2 (by kernel_rfl) (hval' 2 33 v2 rfl rfl) z2
    exact law_RouteMetres A0 n0 c0 es0 x1 A2 n2 c2 es2 W (by unfold maxLen at hm0; omega) hs0 (by unfold maxLen at hm2; omega) hs2
theorem row_RouteMetres : Rows.FnExactRouteMetresSaid :=
  OpenClaim.holds_of_wide 9 Try.f9 rfl rfl rfl rfl rfl rfl rfl ⟨rfl, rfl, rfl, rfl, rfl⟩ rfl rfl rfl rfl rfl (by kernel_rfl) Try.func9 (by kernel_rfl)
    (of_decide_eq_true (by kernel_rfl)) (by unfold Func.isWrapper; first | (rw [if_pos (by decide +kernel)]; kernel_rfl) | (rw [if_neg (by decide +kernel)]; exact ⟨rfl, rfl⟩))
    (fun os started H enc _ => lifted_RouteMetres os started H enc)

end Go.Proofs.Ytccajbnklegniaa

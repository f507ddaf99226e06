/- Proves: the law WorstStretch returns true for every input and leaves its arguments as they were (the given statement). Conditions: none beyond the statement itself. -/
import Derived.Test.YtccajbnklegniaaD8
import Derived.Test.YtccajbnklegniaaRow
namespace Go.Proofs.Ytccajbnklegniaa
open Go.RowKit Go.Sort

set_option maxHeartbeats 4000000 in
theorem law_WorstStretch (A0 : Option Addr) (n0 c0 : Nat) (es0 : List Q4) (x1 : Int) (x2 : Int) (w : World) (hr0 : n0 ≤ 9223372036854775807) (h0 : Sl w w.heap.size 4 Q4.cells A0 n0 es0) :
    Calls Try.prog 10 #[.slice A0 n0 c0, .int .i64 x1, .int .i64 x2] w fun e w' => e = .returned (.bool true) ∧ Below w.heap.size w w' := by
  by_cases hm0 : n0 ≤ 1048576
  rotate_left
  · go_enter Try.func10, Try.ntmps10
    go_wp2_with fail
    refine (laws_szDefectS _ _ _ _ (by omega) (by omega) hr0 _).mono ?_
    rintro e w' ⟨rfl, rfl⟩
    rw [if_pos (by omega)]
    go_wp2_with fail
    go_ret
    first | exact ⟨rfl, Below.refl _ _⟩ | exact ⟨rfl, below_al (Below.refl _ _) _⟩
  have m0 : n0 ≤ 1048576 := by omega
  have Hl0 := Lib.hid h0.len
  go_enter Try.func10, Try.ntmps10
  go_wp2_with fail
  refine (laws_szDefectS _ _ _ _ (by omega) (by omega) hr0 _).mono ?_
  rintro e w' ⟨rfl, rfl⟩
  rw [if_neg (by omega)]
  go_wp2_with fail
  refine (laws_toDefectS _ _ _ es0 _ m0 h0).mono ?_
  rintro e w1 ⟨v, rfl, o1, b1⟩
  have B1 := below_then (Below.refl _ _) b1
  obtain ⟨A1_, n1_, c1_, rfl, l1, _⟩ := own_shape o1
  have m1_ : n1_ ≤ 1048576 := by have := Hl0.out; omega
  have L1 := Lib.hid l1
  clear l1
  have O1 := Lib.hid o1
  clear o1
  go_wp2_with fail
  refine (spec_WorstStretch _ _ _ es0 x1 x2 _ m1_ (own_sl O1.out Q4.cells_len)).mono ?_
  rintro e w2 ⟨rfl, b2⟩
  have B2 := below_then B1 b2
  go_wp2_with fail
  refine (laws_toDefectS _ _ _ es0 _ m0 (h0.on B2)).mono ?_
  rintro e w3 ⟨v, rfl, o3, b3⟩
  have B3 := below_then B2 b3
  obtain ⟨A3_, n3_, c3_, rfl, l3, _⟩ := own_shape o3
  have m3_ : n3_ ≤ 1048576 := by have := Hl0.out; omega
  have L3 := Lib.hid l3
  clear l3
  have O3 := Lib.hid o3
  clear o3
  go_wp2_with fail
  refine (impl_WorstStretch _ _ _ es0 x1 x2 _ m3_ (own_sl O3.out Q4.cells_len)).mono ?_
  rintro e w4 ⟨rfl, b4⟩
  have B4 := below_then B3 b4
  go_wp2_with fail
  refine (laws_toDefectS _ _ _ es0 _ m0 (h0.on B4)).mono ?_
  rintro e w5 ⟨v, rfl, o5, b5⟩
  have B5 := below_then B4 b5
  obtain ⟨A5_, n5_, c5_, rfl, l5, _⟩ := own_shape o5
  have m5_ : n5_ ≤ 1048576 := by have := Hl0.out; omega
  have L5 := Lib.hid l5
  clear l5
  have O5 := Lib.hid o5
  clear o5
  go_wp2_with fail
  refine (laws_eqDefectS_self _ _ _ _ _ _ es0 _ m3_ m5_ (own_sl (Own.below (Own.below O3.out b4 (Nat.le_refl _)) b5 (Nat.le_refl _)) Q4.cells_len) (own_sl O5.out Q4.cells_len)).mono ?_
  rintro e w6 ⟨rfl, b6⟩
  have B6 := below_then B5 b6
  go_wp2_with fail
  go_ret
  exact ⟨rfl, B6⟩
open Go.ChangeShapes Go.WideShapes Go.ChangeAt Go.Deep Go.Joins
set_option maxRecDepth 100000 in
theorem lifted_WorstStretch (os : Os) (started : os.Started) (H : Type) (enc : TypeId × Value → H) :
    ReturnsInHanded {} Try.checked os 10 .any (Rows.fnExactWorstStretchSpec.pre6 enc Try.prog Try.f10 [] false) (Rows.fnExactWorstStretchSpec.post enc Try.prog Try.f10 false true false false) := by
  refine lift_law (C := Try.checked) (by kernel_rfl) (by kernel_rfl) (s := Rows.fnExactWorstStretchSpec) (T := 4) Try.underlying4 rfl rfl ?_ (by kernel_rfl) (by kernel_rfl) Try.func10 started
    (ChangeSpec.witness6 (enc := enc) (C := Try.checked) false ⟨#[], #[.slice none 0 0, .int .i64 0, .int .i64 0], []⟩ 8 (by kernel_rfl) (by kernel_rfl) (by kernel_rfl) (by kernel_rfl)) ?_
  · intro H ds hl
    match ds, hl with
    | [d0, d1, d2], _ => rfl
  · intro W base args ds ps hval hlt hA
    have hval' : ∀ (j : Nat) t v, (#[25, 2, 2] : Array TypeId)[j]? = some t → args[j]? = some v → Value.okWide Try.prog W .any base t v := hval
    have hA' : DataW.TrodAll enc Try.prog W 0 (fun _ => true) true [25, 2, 2] args.toList ds ps := hA
    obtain ⟨v0, v1, v2, d0, d1, d2, p0, p1, p2, rfl, rfl, rfl, z0, z1, z2⟩ := trodAll_three hA'
    obtain ⟨A0, n0, c0, es0, rfl, hm0, hs0, _⟩ := open_q4s Try.underlying25 Try.underlying43 (by kernel_rfl) (by kernel_rfl) Try.underlying2 Try.underlying2 Try.underlying2 Try.underlying2 (hval' 0 25 v0 rfl rfl) z0
    obtain ⟨x1, rfl, rfl, rfl, _⟩ := open_int Try.underlying2 (hval' 1 2 v1 rfl rfl) z1
    obtain ⟨x2, rfl, rfl, rfl, _⟩ := open_int Try.underlying2 (hval' 2 2 v2 rfl rfl) z2
    exact law_WorstStretch A0 n0 c0 es0 x1 x2 W (by unfold maxLen at hm0; omega) hs0
theorem row_WorstStretch : Rows.FnExactWorstStretchSaid :=
  OpenClaim.holds_of_wide 10 Try.f10 rfl rfl rfl rfl rfl rfl rfl ⟨rfl, rfl, rfl, rfl, rfl⟩ rfl rfl rfl rfl rfl (by kernel_rfl) Try.func10 (by kernel_rfl)
    (of_decide_eq_true (by kernel_rfl)) (by unfold Func.isWrapper; first | (rw [if_pos (by decide +kernel)]; kernel_rfl) | (rw [if_neg (by decide +kernel)]; exact ⟨rfl, rfl⟩))
    (fun os started H enc _ => lifted_WorstStretch os started H enc)

end Go.Proofs.Ytccajbnklegniaa

/- Proves: the law AddDefect returns true for every input and leaves its arguments as they were (the given statement). Conditions: none beyond the statement itself. -/
import Derived.Test.YtccajbnklegniaaD6
import Derived.Test.YtccajbnklegniaaRow
import Derived.Test.YtccajbnklegniaaStp
namespace Go.Proofs.Ytccajbnklegniaa
open Go.RowKit Go.Sort

set_option maxHeartbeats 4000000 in
theorem law_AddDefect (A0 : Option Addr) (n0 c0 : Nat) (es0 : List Q4) (q1 : Q4) (w : World) (hr0 : n0 ≤ 9223372036854775807) (h0 : Sl w w.heap.size 4 Q4.cells A0 n0 es0) :
    Calls Try.prog 8 #[.slice A0 n0 c0, .agg #[.int .i64 q1.a, .int .i64 q1.b, .int .i64 q1.c, .int .i64 q1.d]] w fun e w' => e = .returned (.bool true) ∧ Below w.heap.size w w' := by
  by_cases hm0 : n0 ≤ 1048576
  rotate_left
  · go_enter Try.func8, Try.ntmps8
    go_wp2_with fail
    refine (laws_szDefectS _ _ _ _ (by omega) (by omega) hr0 _).mono ?_
    rintro e w' ⟨rfl, rfl⟩
    rw [if_pos (by omega)]
    go_wp2_with fail
    go_ret
    first | exact ⟨rfl, Below.refl _ _⟩ | exact ⟨rfl, below_al (Below.refl _ _) _⟩
  have m0 : n0 ≤ 1048576 := by omega
  have Hl0 := Lib.hid h0.len
  go_enter Try.func8, Try.ntmps8
  go_wp2_with fail
  refine (laws_szDefectS _ _ _ _ (by omega) (by omega) hr0 _).mono ?_
  rintro e w' ⟨rfl, rfl⟩
  rw [if_neg (by omega)]
  have B0 := below_al (Below.refl _ w) (.cells #[.int .i64 q1.a, .int .i64 q1.b, .int .i64 q1.c, .int .i64 q1.d] 43)
  have RB : (addDOut es0 q1).length ≤ 1048576 := by have := addDOut_len es0 q1; omega
  have B1 := below_dr B0
  have X1 := below_dr (Below.refl (w.alloc (.cells #[.int .i64 q1.a, .int .i64 q1.b, .int .i64 q1.c, .int .i64 q1.d] 43)).heap.size (w.alloc (.cells #[.int .i64 q1.a, .int .i64 q1.b, .int .i64 q1.c, .int .i64 q1.d] 43)))
  go_wp2_with fail
  go_region_held3 (fun w' => w'.cell? ⟨w.heap.size, 0, none⟩ = some (.int .i64 q1.a) ∧ w'.cell? ⟨w.heap.size, 1, none⟩ = some (.int .i64 q1.b) ∧ w'.cell? ⟨w.heap.size, 2, none⟩ = some (.int .i64 q1.c) ∧ w'.cell? ⟨w.heap.size, 3, none⟩ = some (.int .i64 q1.d)) (go_keep)
    (first
      | (go_at_call 17; refine (laws_toDefectS _ _ _ es0 _ m0 (h0.on B1)).mono ?_; rintro e w2 ⟨v, rfl, o2, b2⟩; have B2 := below_then B1 b2; have X2 := below_then X1 b2; obtain ⟨y20, y21, y22, y23⟩ := box4k X2; obtain ⟨A2_, n2_, c2_, rfl, l2, _⟩ := own_shape o2; have m2_ : n2_ ≤ 1048576 := (by have := Hl0.out; omega); have L2 := Lib.hid l2; clear l2; have O2 := Lib.hid o2; clear o2)
      | (go_at_call 32; refine (laws_toDefect q1 _).mono ?_; rintro e w3 ⟨rfl, b3⟩; have B3 := below_then B2 b3; have X3 := below_then X2 b3; obtain ⟨y30, y31, y32, y33⟩ := box4k X3)
      | (go_at_call 31; refine (spec_AddDefect _ _ _ es0 q1 _ m2_ (by assumption) (own_sl (Own.below O2.out b3 (Nat.le_refl _)) Q4.cells_len)).mono ?_; rintro e w4 ⟨v, rfl, o4, b4⟩; have B4 := below_then B3 b4; have X4 := below_then X3 b4; obtain ⟨y40, y41, y42, y43⟩ := box4k X4; obtain ⟨A4_, n4_, c4_, rfl, l4, _⟩ := own_shape o4; have L4 := Lib.hid l4; clear l4; have O4 := Lib.hid o4; clear o4))
  go_wp2_with fail
  refine (laws_toDefectS _ _ _ es0 _ m0 (h0.on B4)).mono ?_
  rintro e w5 ⟨v, rfl, o5, b5⟩
  have B5 := below_then B4 b5
  have X5 := below_then X4 b5
  obtain ⟨y50, y51, y52, y53⟩ := box4k X5
  obtain ⟨A5_, n5_, c5_, rfl, l5, _⟩ := own_shape o5
  have m5_ : n5_ ≤ 1048576 := by have := Hl0.out; omega
  have L5 := Lib.hid l5
  clear l5
  have O5 := Lib.hid o5
  clear o5
  go_wp2_with fail
  refine (laws_toDefect q1 _).mono ?_
  rintro e w6 ⟨rfl, b6⟩
  have B6 := below_then B5 b6
  have X6 := below_then X5 b6
  obtain ⟨y60, y61, y62, y63⟩ := box4k X6
  go_wp2_with fail
  refine (impl_AddDefect _ _ _ es0 q1 _ m5_ (by assumption) (own_sl (Own.below O5.out b6 (Nat.le_refl _)) Q4.cells_len)).mono ?_
  rintro e w7 ⟨v, rfl, o7, b7⟩
  have B7 := below_then B6 b7
  have X7 := below_then X6 b7
  obtain ⟨y70, y71, y72, y73⟩ := box4k X7
  obtain ⟨A7_, n7_, c7_, rfl, l7, _⟩ := own_shape o7
  have L7 := Lib.hid l7
  clear l7
  have O7 := Lib.hid o7
  clear o7
  go_wp2_with fail
  refine (laws_eqDefectS_self _ _ _ _ _ _ _ _ (by have := L7.out; have := RB; omega) (by have := L4.out; have := RB; omega) (own_sl O7.out Q4.cells_len) (own_sl (Own.below (Own.below (Own.below O4.out b5 (Nat.le_refl _)) b6 (Nat.le_refl _)) b7 (Nat.le_refl _)) Q4.cells_len)).mono ?_
  rintro e w8 ⟨rfl, b8⟩
  have B8 := below_then B7 b8
  have X8 := below_then X7 b8
  obtain ⟨y80, y81, y82, y83⟩ := box4k X8
  go_wp2_with fail
  refine (laws_toDefectS _ _ _ es0 _ m0 (h0.on B8)).mono ?_
  rintro e w9 ⟨v, rfl, o9, b9⟩
  have B9 := below_then B8 b9
  have X9 := below_then X8 b9
  obtain ⟨y90, y91, y92, y93⟩ := box4k X9
  obtain ⟨A9_, n9_, c9_, rfl, l9, _⟩ := own_shape o9
  have m9_ : n9_ ≤ 1048576 := by have := Hl0.out; omega
  have L9 := Lib.hid l9
  clear l9
  have O9 := Lib.hid o9
  clear o9
  go_wp2_with fail
  refine (laws_eqDefectS_self _ _ _ _ _ _ es0 _ m5_ m9_ (own_sl (Own.below (Own.below (Own.below (Own.below O5.out b6 (Nat.le_refl _)) b7 (Nat.le_refl _)) b8 (Nat.le_refl _)) b9 (Nat.le_refl _)) Q4.cells_len) (own_sl O9.out Q4.cells_len)).mono ?_
  rintro e w10 ⟨rfl, b10⟩
  have B10 := below_then B9 b10
  have X10 := below_then X9 b10
  obtain ⟨y100, y101, y102, y103⟩ := box4k X10
  go_wp2_with fail
  refine (laws_markDefectS _ _ _ _ _ _ (by have := m5_; have := L5.out; omega) (by omega) (by omega) (Own.below (Own.below (Own.below (Own.below (Own.below O5.out b6 (Nat.le_refl _)) b7 (Nat.le_refl _)) b8 (Nat.le_refl _)) b9 (Nat.le_refl _)) b10 (Nat.le_refl _))).mono ?_
  rintro e w11 ⟨rfl, p11, g11⟩
  have B11 := own_grown B10 (Own.below (Own.below (Own.below (Own.below (Own.below O5.out b6 (Nat.le_refl _)) b7 (Nat.le_refl _)) b8 (Nat.le_refl _)) b9 (Nat.le_refl _)) b10 (Nat.le_refl _)) B4.size (Nat.le_trans (Nat.le_refl _) B10.size) g11
  clear p11
  have X11 := own_grown X10 (Own.below (Own.below (Own.below (Own.below (Own.below O5.out b6 (Nat.le_refl _)) b7 (Nat.le_refl _)) b8 (Nat.le_refl _)) b9 (Nat.le_refl _)) b10 (Nat.le_refl _)) X4.size X10.size g11
  obtain ⟨y110, y111, y112, y113⟩ := box4k X11
  go_wp2_with fail
  refine (laws_eqDefectS_self _ _ _ _ _ _ _ _ (by have := L7.out; have := RB; omega) (by have := L4.out; have := RB; omega) (own_sl (own_other (Own.below (Own.below (Own.below O7.out b8 (Nat.le_refl _)) b9 (Nat.le_refl _)) b10 (Nat.le_refl _)) (own_ne_hi O5.out O7.out b6.size) g11) Q4.cells_len) (own_sl (own_other (Own.below (Own.below (Own.below (Own.below (Own.below (Own.below O4.out b5 (Nat.le_refl _)) b6 (Nat.le_refl _)) b7 (Nat.le_refl _)) b8 (Nat.le_refl _)) b9 (Nat.le_refl _)) b10 (Nat.le_refl _)) (own_ne_lo O4.out O5.out (Nat.le_refl _)) g11) Q4.cells_len)).mono ?_
  rintro e w12 ⟨rfl, b12⟩
  have B12 := below_then B11 b12
  have X12 := below_then X11 b12
  obtain ⟨y120, y121, y122, y123⟩ := box4k X12
  go_wp2_with fail
  refine (laws_markDefectS _ _ _ _ _ _ (by have := L7.out; have := RB; omega) (by omega) (by omega) (Own.below (own_other (Own.below (Own.below (Own.below O7.out b8 (Nat.le_refl _)) b9 (Nat.le_refl _)) b10 (Nat.le_refl _)) (own_ne_hi O5.out O7.out b6.size) g11) b12 (Nat.le_refl _))).mono ?_
  rintro e w13 ⟨rfl, p13, g13⟩
  have B13 := own_grown B12 (Own.below (own_other (Own.below (Own.below (Own.below O7.out b8 (Nat.le_refl _)) b9 (Nat.le_refl _)) b10 (Nat.le_refl _)) (own_ne_hi O5.out O7.out b6.size) g11) b12 (Nat.le_refl _)) B6.size (Nat.le_trans (Nat.le_refl _) B12.size) g13
  have X13 := own_grown X12 (Own.below (own_other (Own.below (Own.below (Own.below O7.out b8 (Nat.le_refl _)) b9 (Nat.le_refl _)) b10 (Nat.le_refl _)) (own_ne_hi O5.out O7.out b6.size) g11) b12 (Nat.le_refl _)) X6.size X12.size g13
  obtain ⟨y130, y131, y132, y133⟩ := box4k X13
  have P13 := Lib.hid p13
  clear p13
  go_wp2_with fail
  refine (laws_heldDefectS _ _ _ _ _ (by have := L7.out; have := RB; omega) (by omega) (by omega) P13.out).mono ?_
  rintro e w' ⟨rfl, rfl⟩
  have B14 := below_dr B13
  have X14 := below_dr X13
  go_wp2_with fail
  go_region_held3 (fun w' => w'.cell? ⟨w.heap.size, 0, none⟩ = some (.int .i64 q1.a) ∧ w'.cell? ⟨w.heap.size, 1, none⟩ = some (.int .i64 q1.b) ∧ w'.cell? ⟨w.heap.size, 2, none⟩ = some (.int .i64 q1.c) ∧ w'.cell? ⟨w.heap.size, 3, none⟩ = some (.int .i64 q1.d)) (go_keep)
    (first
      | (go_at_call 17; refine (laws_toDefectS _ _ _ es0 _ m0 (h0.on B14)).mono ?_; rintro e w15 ⟨v, rfl, o15, b15⟩; have B15 := below_then B14 b15; have X15 := below_then X14 b15; obtain ⟨y150, y151, y152, y153⟩ := box4k X15; obtain ⟨A15_, n15_, c15_, rfl, l15, _⟩ := own_shape o15; have m15_ : n15_ ≤ 1048576 := (by have := Hl0.out; omega); have L15 := Lib.hid l15; clear l15; have O15 := Lib.hid o15; clear o15)
      | (go_at_call 32; refine (laws_toDefect q1 _).mono ?_; rintro e w16 ⟨rfl, b16⟩; have B16 := below_then B15 b16; have X16 := below_then X15 b16; obtain ⟨y160, y161, y162, y163⟩ := box4k X16)
      | (go_at_call 33; refine (impl_AddDefect _ _ _ es0 q1 _ m15_ (by assumption) (own_sl (Own.below O15.out b16 (Nat.le_refl _)) Q4.cells_len)).mono ?_; rintro e w17 ⟨v, rfl, o17, b17⟩; have B17 := below_then B16 b17; have X17 := below_then X16 b17; obtain ⟨y170, y171, y172, y173⟩ := box4k X17; obtain ⟨A17_, n17_, c17_, rfl, l17, _⟩ := own_shape o17; have L17 := Lib.hid l17; clear l17; have O17 := Lib.hid o17; clear o17))
  go_wp2_with fail
  refine (laws_eqDefectS_self _ _ _ _ _ _ _ _ (by have := L17.out; have := RB; omega) (by have := L4.out; have := RB; omega) (own_sl O17.out Q4.cells_len) (own_sl (Own.below (Own.below (Own.below (Own.below (own_other (Own.below (own_other (Own.below (Own.below (Own.below (Own.below (Own.below (Own.below O4.out b5 (Nat.le_refl _)) b6 (Nat.le_refl _)) b7 (Nat.le_refl _)) b8 (Nat.le_refl _)) b9 (Nat.le_refl _)) b10 (Nat.le_refl _)) (own_ne_lo O4.out O5.out (Nat.le_refl _)) g11) b12 (Nat.le_refl _)) (own_ne_lo O4.out O7.out (below_then b5 b6).size) g13) (below_dr (Below.refl _ _)) (Nat.le_refl _)) b15 (Nat.le_refl _)) b16 (Nat.le_refl _)) b17 (Nat.le_refl _)) Q4.cells_len)).mono ?_
  rintro e w18 ⟨rfl, b18⟩
  have B18 := below_then B17 b18
  have X18 := below_then X17 b18
  obtain ⟨y180, y181, y182, y183⟩ := box4k X18
  go_wp2_with fail
  refine (laws_heldDefectS _ _ _ _ _ (by have := L7.out; have := RB; omega) (by omega) (by omega) (owns_below (owns_below (owns_below (owns_below (owns_below P13.out (below_dr (Below.refl _ _)) (Nat.le_refl _)) b15 (Nat.le_refl _)) b16 (Nat.le_refl _)) b17 (Nat.le_refl _)) b18 (Nat.le_refl _))).mono ?_
  rintro e w' ⟨rfl, rfl⟩
  go_wp2_with fail
  go_ret
  exact ⟨rfl, B18⟩
open Go.ChangeShapes Go.WideShapes Go.ChangeAt Go.Deep Go.Joins
set_option maxRecDepth 100000 in
theorem lifted_AddDefect (os : Os) (started : os.Started) (H : Type) (enc : TypeId × Value → H) :
    ReturnsInHanded {} Try.checked os 8 .any (Rows.fnExactAddDefectSpec.pre6 enc Try.prog Try.f8 [] false) (Rows.fnExactAddDefectSpec.post enc Try.prog Try.f8 false true false false) := by
  refine lift_law (C := Try.checked) (by kernel_rfl) (by kernel_rfl) (s := Rows.fnExactAddDefectSpec) (T := 4) Try.underlying4 rfl rfl ?_ (by kernel_rfl) (by kernel_rfl) Try.func8 started
    (ChangeSpec.witness6 (enc := enc) (C := Try.checked) false ⟨#[], #[.slice none 0 0, .agg #[.int .i64 0, .int .i64 0, .int .i64 0, .int .i64 0]], []⟩ 8 (by kernel_rfl) (by kernel_rfl) (by kernel_rfl) (by kernel_rfl)) ?_
  · intro H ds hl
    match ds, hl with
    | [d0, d1], _ => rfl
  · intro W base args ds ps hval hlt hA
    have hval' : ∀ (j : Nat) t v, (#[25, 43] : Array TypeId)[j]? = some t → args[j]? = some v → Value.okWide Try.prog W .any base t v := hval
    have hA' : DataW.TrodAll enc Try.prog W 0 (fun _ => true) true [25, 43] args.toList ds ps := hA
    obtain ⟨v0, v1, d0, d1, p0, p1, rfl, rfl, rfl, z0, z1⟩ := trodAll_two hA'
    obtain ⟨A0, n0, c0, es0, rfl, hm0, hs0, _⟩ := open_q4s Try.underlying25 Try.underlying43 (by kernel_rfl) (by kernel_rfl) Try.underlying2 Try.underlying2 Try.underlying2 Try.underlying2 (hval' 0 25 v0 rfl rfl) z0
    obtain ⟨q1, rfl⟩ := open_q4 Try.underlying43 (by kernel_rfl) (by kernel_rfl) Try.underlying2 Try.underlying2 Try.underlying2 Try.underlying2 (hval' 1 43 v1 rfl rfl) z1
    exact law_AddDefect A0 n0 c0 es0 q1 W (by unfold maxLen at hm0; omega) hs0
theorem row_AddDefect : Rows.FnExactAddDefectSaid :=
  OpenClaim.holds_of_wide 8 Try.f8 rfl rfl rfl rfl rfl rfl rfl ⟨rfl, rfl, rfl, rfl, rfl⟩ rfl rfl rfl rfl rfl (by kernel_rfl) Try.func8 (by kernel_rfl)
    (of_decide_eq_true (by kernel_rfl)) (by unfold Func.isWrapper; first | (rw [if_pos (by decide +kernel)]; kernel_rfl) | (rw [if_neg (by decide +kernel)]; exact ⟨rfl, rfl⟩))
    (fun os started H enc _ => lifted_AddDefect os started H enc)

end Go.Proofs.Ytccajbnklegniaa

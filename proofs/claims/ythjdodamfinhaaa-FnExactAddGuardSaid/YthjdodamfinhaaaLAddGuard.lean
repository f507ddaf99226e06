/- Proves: the law AddGuard returns true for every input and leaves its arguments as they were (the given statement). Conditions: none beyond the statement itself. -/
import Derived.Test.YthjdodamfinhaaaGp
import Derived.Test.YthjdodamfinhaaaG3
import Derived.Test.YthjdodamfinhaaaTi
namespace Go.Proofs.Ythjdodamfinhaaa
open Go.RowKit Go.Sort

set_option maxHeartbeats 4000000 in
theorem law_AddGuard (A0 : Option Addr) (n0 c0 : Nat) (es0 : List G3) (q1 : G3) (w : World) (hr0 : n0 ≤ 9223372036854775807) (h0 : Sl w w.heap.size 3 G3.cells A0 n0 es0) (hz0 : ∀ e ∈ es0, e.s.size ≤ 9223372036854775807) (hz1 : q1.s.size ≤ 9223372036854775807) :
    Calls Try.prog 5 #[.slice A0 n0 c0, .agg #[.string q1.s, .int .i64 q1.a, .int .i64 q1.b]] w fun e w' => e = .returned (.bool true) ∧ Below w.heap.size w w' := by
  have Hl0 := Lib.hid h0.len
  go_enter Try.func5, Try.ntmps5
  have B0 := below_al (Below.refl _ w) (.cells #[.string q1.s, .int .i64 q1.a, .int .i64 q1.b] 31)
  go_wp2_with fail
  refine (laws_szGuardS _ _ _ es0 1048576 _ (by omega) (by omega) hr0 hz0 (h0.on B0)).mono ?_
  rintro e w1 ⟨r0, rfl, hs0, b1⟩
  have B1 := below_then B0 b1
  have X1 := below_then (Below.refl (w.alloc (.cells #[.string q1.s, .int .i64 q1.a, .int .i64 q1.b] 31)).heap.size (w.alloc (.cells #[.string q1.s, .int .i64 q1.a, .int .i64 q1.b] 31))) b1
  obtain ⟨y10, y11, y12⟩ := box3k X1
  rcases hs0 with rfl | ⟨hs0a, hs0b, hs0c⟩
  · go_wp2_with fail
    go_ret
    exact ⟨rfl, B1⟩
  go_wp2_with fail
  refine (laws_szGuard_r q1 r0 _ (by omega) (by omega) hz1).mono ?_
  rintro e w2 ⟨r1, rfl, hs1, b2⟩
  have B2 := below_then B1 b2
  have X2 := below_then X1 b2
  obtain ⟨y20, y21, y22⟩ := box3k X2
  rcases hs1 with rfl | ⟨hs1a, hs1⟩
  · go_wp2_with fail
    go_ret
    exact ⟨rfl, B2⟩
  have m0 : n0 ≤ 1048576 := by omega
  have RB : (addGOut es0 q1).length ≤ 1048576 := by have := addGOut_le es0 q1; omega
  have B3 := below_dr B2
  have X3 := below_dr X2
  go_wp2_with fail
  go_region_held3 (fun w' => w'.cell? ⟨w.heap.size, 0, none⟩ = some (.string q1.s) ∧ w'.cell? ⟨w.heap.size, 1, none⟩ = some (.int .i64 q1.a) ∧ w'.cell? ⟨w.heap.size, 2, none⟩ = some (.int .i64 q1.b)) (go_keep)
    (first
      | (go_at_call 16; refine (laws_toGuardS _ _ _ es0 _ m0 (h0.on B3)).mono ?_; rintro e w4 ⟨v, rfl, o4, b4⟩; have B4 := below_then B3 b4; have X4 := below_then X3 b4; obtain ⟨y40, y41, y42⟩ := box3k X4; obtain ⟨A4_, n4_, c4_, rfl, l4, k4_⟩ := own_shape o4; have m4_ : n4_ ≤ 1048576 := (by have := Hl0.out; omega); have L4 := Lib.hid l4; clear l4; have O4 := Lib.hid o4; clear o4)
      | (go_at_call 23; refine (laws_toGuard q1 _).mono ?_; rintro e w5 ⟨rfl, b5⟩; have B5 := below_then B4 b5; have X5 := below_then X4 b5; obtain ⟨y50, y51, y52⟩ := box3k X5)
      | (go_at_call 22; refine (spec_AddGuard _ _ _ es0 q1 _ m4_ hs0c hs1 (own_sl (Own.below O4.out b5 (Nat.le_refl _)) G3.cells_len)).mono ?_; rintro e w6 ⟨v, rfl, o6, b6⟩; have B6 := below_then B5 b6; have X6 := below_then X5 b6; obtain ⟨y60, y61, y62⟩ := box3k X6; obtain ⟨A6_, n6_, c6_, rfl, l6, _⟩ := own_shape o6; have L6 := Lib.hid l6; clear l6; have O6 := Lib.hid o6; clear o6))
  go_wp2_with fail
  refine (laws_toGuardS _ _ _ es0 _ m0 (h0.on B6)).mono ?_
  rintro e w7 ⟨v, rfl, o7, b7⟩
  have B7 := below_then B6 b7
  have X7 := below_then X6 b7
  obtain ⟨y70, y71, y72⟩ := box3k X7
  obtain ⟨A7_, n7_, c7_, rfl, l7, k7_⟩ := own_shape o7
  have m7_ : n7_ ≤ 1048576 := by have := Hl0.out; omega
  have L7 := Lib.hid l7
  clear l7
  have O7 := Lib.hid o7
  clear o7
  go_wp2_with fail
  refine (laws_toGuard q1 _).mono ?_
  rintro e w8 ⟨rfl, b8⟩
  have B8 := below_then B7 b8
  have X8 := below_then X7 b8
  obtain ⟨y80, y81, y82⟩ := box3k X8
  go_wp2_with fail
  refine (impl_AddGuard _ _ _ es0 q1 _ m7_ hs0c hs1 (own_sl (Own.below O7.out b8 (Nat.le_refl _)) G3.cells_len)).mono ?_
  rintro e w9 ⟨v, rfl, o9, b9⟩
  have B9 := below_then B8 b9
  have X9 := below_then X8 b9
  obtain ⟨y90, y91, y92⟩ := box3k X9
  obtain ⟨A9_, n9_, c9_, rfl, l9, _⟩ := own_shape o9
  have L9 := Lib.hid l9
  clear l9
  have O9 := Lib.hid o9
  clear o9
  go_wp2_with fail
  refine (laws_eqGuardS_self _ _ _ _ _ _ _ _ (by have := L9.out; have := RB; omega) (by have := L6.out; have := RB; omega) (own_sl O9.out G3.cells_len) (own_sl (Own.below (Own.below (Own.below O6.out b7 (Nat.le_refl _)) b8 (Nat.le_refl _)) b9 (Nat.le_refl _)) G3.cells_len)).mono ?_
  rintro e w10 ⟨rfl, b10⟩
  have B10 := below_then B9 b10
  have X10 := below_then X9 b10
  obtain ⟨y100, y101, y102⟩ := box3k X10
  go_wp2_with fail
  refine (laws_toGuardS _ _ _ es0 _ m0 (h0.on B10)).mono ?_
  rintro e w11 ⟨v, rfl, o11, b11⟩
  have B11 := below_then B10 b11
  have X11 := below_then X10 b11
  obtain ⟨y110, y111, y112⟩ := box3k X11
  obtain ⟨A11_, n11_, c11_, rfl, l11, k11_⟩ := own_shape o11
  have m11_ : n11_ ≤ 1048576 := by have := Hl0.out; omega
  have L11 := Lib.hid l11
  clear l11
  have O11 := Lib.hid o11
  clear o11
  go_wp2_with fail
  refine (laws_eqGuardS_self _ _ _ _ _ _ es0 _ m7_ m11_ (own_sl (Own.below (Own.below (Own.below (Own.below O7.out b8 (Nat.le_refl _)) b9 (Nat.le_refl _)) b10 (Nat.le_refl _)) b11 (Nat.le_refl _)) G3.cells_len) (own_sl O11.out G3.cells_len)).mono ?_
  rintro e w12 ⟨rfl, b12⟩
  have B12 := below_then B11 b12
  have X12 := below_then X11 b12
  obtain ⟨y120, y121, y122⟩ := box3k X12
  go_wp2_with fail
  refine (laws_markGuardS _ _ _ _ _ _ (by have := m7_; have := L7.out; omega) (by have := Hl0.out; omega) (by have := Hl0.out; omega) (Own.below (Own.below (Own.below (Own.below (Own.below O7.out b8 (Nat.le_refl _)) b9 (Nat.le_refl _)) b10 (Nat.le_refl _)) b11 (Nat.le_refl _)) b12 (Nat.le_refl _))).mono ?_
  rintro e w13 ⟨rfl, p13, g13⟩
  have B13 := own_grown B12 (Own.below (Own.below (Own.below (Own.below (Own.below O7.out b8 (Nat.le_refl _)) b9 (Nat.le_refl _)) b10 (Nat.le_refl _)) b11 (Nat.le_refl _)) b12 (Nat.le_refl _)) B6.size (Nat.le_trans (Nat.le_refl _) B12.size) g13
  clear p13
  have X13 := own_grown X12 (Own.below (Own.below (Own.below (Own.below (Own.below O7.out b8 (Nat.le_refl _)) b9 (Nat.le_refl _)) b10 (Nat.le_refl _)) b11 (Nat.le_refl _)) b12 (Nat.le_refl _)) X6.size X12.size g13
  obtain ⟨y130, y131, y132⟩ := box3k X13
  go_wp2_with fail
  refine (laws_eqGuardS_self _ _ _ _ _ _ _ _ (by have := L9.out; have := RB; omega) (by have := L6.out; have := RB; omega) (own_sl (own_other (Own.below (Own.below (Own.below O9.out b10 (Nat.le_refl _)) b11 (Nat.le_refl _)) b12 (Nat.le_refl _)) (own_ne_hi O7.out O9.out b8.size) g13) G3.cells_len) (own_sl (own_other (Own.below (Own.below (Own.below (Own.below (Own.below (Own.below O6.out b7 (Nat.le_refl _)) b8 (Nat.le_refl _)) b9 (Nat.le_refl _)) b10 (Nat.le_refl _)) b11 (Nat.le_refl _)) b12 (Nat.le_refl _)) (own_ne_lo O6.out O7.out (Nat.le_refl _)) g13) G3.cells_len)).mono ?_
  rintro e w14 ⟨rfl, b14⟩
  have B14 := below_then B13 b14
  have X14 := below_then X13 b14
  obtain ⟨y140, y141, y142⟩ := box3k X14
  go_wp2_with fail
  refine (laws_markGuardS _ _ _ _ _ _ (by have := L9.out; have := RB; omega) (by have := Hl0.out; omega) (by have := Hl0.out; omega) (Own.below (own_other (Own.below (Own.below (Own.below O9.out b10 (Nat.le_refl _)) b11 (Nat.le_refl _)) b12 (Nat.le_refl _)) (own_ne_hi O7.out O9.out b8.size) g13) b14 (Nat.le_refl _))).mono ?_
  rintro e w15 ⟨rfl, p15, g15⟩
  have B15 := own_grown B14 (Own.below (own_other (Own.below (Own.below (Own.below O9.out b10 (Nat.le_refl _)) b11 (Nat.le_refl _)) b12 (Nat.le_refl _)) (own_ne_hi O7.out O9.out b8.size) g13) b14 (Nat.le_refl _)) B8.size (Nat.le_trans (Nat.le_refl _) B14.size) g15
  have X15 := own_grown X14 (Own.below (own_other (Own.below (Own.below (Own.below O9.out b10 (Nat.le_refl _)) b11 (Nat.le_refl _)) b12 (Nat.le_refl _)) (own_ne_hi O7.out O9.out b8.size) g13) b14 (Nat.le_refl _)) X8.size X14.size g15
  obtain ⟨y150, y151, y152⟩ := box3k X15
  have P15 := Lib.hid p15
  clear p15
  go_wp2_with fail
  refine (laws_heldGuardS _ _ _ _ _ (by have := L9.out; have := RB; omega) (by have := Hl0.out; omega) (by have := Hl0.out; omega) P15.out).mono ?_
  rintro e w16 ⟨rfl, b16⟩
  have B16 := below_then B15 b16
  have X16 := below_then X15 b16
  obtain ⟨y160, y161, y162⟩ := box3k X16
  have B17 := below_dr B16
  have X17 := below_dr X16
  go_wp2_with fail
  go_region_held3 (fun w' => w'.cell? ⟨w.heap.size, 0, none⟩ = some (.string q1.s) ∧ w'.cell? ⟨w.heap.size, 1, none⟩ = some (.int .i64 q1.a) ∧ w'.cell? ⟨w.heap.size, 2, none⟩ = some (.int .i64 q1.b)) (go_keep)
    (first
      | (go_at_call 16; refine (laws_toGuardS _ _ _ es0 _ m0 (h0.on B17)).mono ?_; rintro e w18 ⟨v, rfl, o18, b18⟩; have B18 := below_then B17 b18; have X18 := below_then X17 b18; obtain ⟨y180, y181, y182⟩ := box3k X18; obtain ⟨A18_, n18_, c18_, rfl, l18, k18_⟩ := own_shape o18; have m18_ : n18_ ≤ 1048576 := (by have := Hl0.out; omega); have L18 := Lib.hid l18; clear l18; have O18 := Lib.hid o18; clear o18)
      | (go_at_call 23; refine (laws_toGuard q1 _).mono ?_; rintro e w19 ⟨rfl, b19⟩; have B19 := below_then B18 b19; have X19 := below_then X18 b19; obtain ⟨y190, y191, y192⟩ := box3k X19)
      | (go_at_call 24; refine (impl_AddGuard _ _ _ es0 q1 _ m18_ hs0c hs1 (own_sl (Own.below O18.out b19 (Nat.le_refl _)) G3.cells_len)).mono ?_; rintro e w20 ⟨v, rfl, o20, b20⟩; have B20 := below_then B19 b20; have X20 := below_then X19 b20; obtain ⟨y200, y201, y202⟩ := box3k X20; obtain ⟨A20_, n20_, c20_, rfl, l20, _⟩ := own_shape o20; have L20 := Lib.hid l20; clear l20; have O20 := Lib.hid o20; clear o20))
  go_wp2_with fail
  refine (laws_eqGuardS_self _ _ _ _ _ _ _ _ (by have := L20.out; have := RB; omega) (by have := L6.out; have := RB; omega) (own_sl O20.out G3.cells_len) (own_sl (Own.below (Own.below (Own.below (Own.below (Own.below (own_other (Own.below (own_other (Own.below (Own.below (Own.below (Own.below (Own.below (Own.below O6.out b7 (Nat.le_refl _)) b8 (Nat.le_refl _)) b9 (Nat.le_refl _)) b10 (Nat.le_refl _)) b11 (Nat.le_refl _)) b12 (Nat.le_refl _)) (own_ne_lo O6.out O7.out (Nat.le_refl _)) g13) b14 (Nat.le_refl _)) (own_ne_lo O6.out O9.out (below_then b7 b8).size) g15) b16 (Nat.le_refl _)) (below_dr (Below.refl _ _)) (Nat.le_refl _)) b18 (Nat.le_refl _)) b19 (Nat.le_refl _)) b20 (Nat.le_refl _)) G3.cells_len)).mono ?_
  rintro e w21 ⟨rfl, b21⟩
  have B21 := below_then B20 b21
  have X21 := below_then X20 b21
  obtain ⟨y210, y211, y212⟩ := box3k X21
  go_wp2_with fail
  refine (laws_heldGuardS _ _ _ _ _ (by have := L9.out; have := RB; omega) (by have := Hl0.out; omega) (by have := Hl0.out; omega) (owns_below (owns_below (owns_below (owns_below (owns_below (owns_below P15.out b16 (Nat.le_refl _)) (below_dr (Below.refl _ _)) (Nat.le_refl _)) b18 (Nat.le_refl _)) b19 (Nat.le_refl _)) b20 (Nat.le_refl _)) b21 (Nat.le_refl _))).mono ?_
  rintro e w22 ⟨rfl, b22⟩
  have B22 := below_then B21 b22
  have X22 := below_then X21 b22
  obtain ⟨y220, y221, y222⟩ := box3k X22
  go_wp2_with fail
  go_ret
  exact ⟨rfl, B22⟩
open Go.ChangeShapes Go.WideShapes Go.ChangeAt Go.Deep Go.Joins
set_option maxRecDepth 100000 in
theorem lifted_AddGuard (os : Os) (started : os.Started) (H : Type) (enc : TypeId × Value → H) :
    ReturnsInHanded {} Try.checked os 5 .any (Rows.fnExactAddGuardSpec.pre6 enc Try.prog Try.f5 [] false) (Rows.fnExactAddGuardSpec.post enc Try.prog Try.f5 false true false false) := by
  refine lift_law (C := Try.checked) (by kernel_rfl) (by kernel_rfl) (s := Rows.fnExactAddGuardSpec) (T := 4) Try.underlying4 rfl rfl ?_ (by kernel_rfl) (by kernel_rfl) Try.func5 started
    (ChangeSpec.witness6 (enc := enc) (C := Try.checked) false ⟨#[], #[.slice none 0 0, .agg #[.string ⟨#[]⟩, .int .i64 0, .int .i64 0]], []⟩ 8 (by kernel_rfl) (by kernel_rfl) (by kernel_rfl) (by kernel_rfl)) ?_
  · intro H ds hl
    match ds, hl with
    | [d0, d1], _ => rfl
  · intro W base args ds ps hval hlt hA
    have hval' : ∀ (j : Nat) t v, (#[22, 31] : Array TypeId)[j]? = some t → args[j]? = some v → Value.okWide Try.prog W .any base t v := hval
    have hA' : DataW.TrodAll enc Try.prog W 0 (fun _ => true) true [22, 31] args.toList ds ps := hA
    obtain ⟨v0, v1, d0, d1, p0, p1, rfl, rfl, rfl, z0, z1⟩ := trodAll_two hA'
    obtain ⟨A0, n0, c0, es0, rfl, hm0, hs0, hz0⟩ := open_g3s Try.underlying22 Try.underlying31 (by kernel_rfl) (by kernel_rfl) Try.underlying9 Try.underlying2 Try.underlying2 (hval' 0 22 v0 rfl rfl) z0
    obtain ⟨q1, rfl, hzq1⟩ := open_g3z Try.underlying31 (by kernel_rfl) (by kernel_rfl) Try.underlying9 Try.underlying2 Try.underlying2 (hval' 1 31 v1 rfl rfl) z1
    exact law_AddGuard A0 n0 c0 es0 q1 W (by unfold maxLen at hm0; omega) hs0 (fun e he => by have := hz0 e he; unfold maxLen at this; exact this) (by unfold maxLen at hzq1; exact hzq1)
theorem row_AddGuard : Rows.FnExactAddGuardSaid :=
  OpenClaim.holds_of_wide 5 Try.f5 rfl rfl rfl rfl rfl rfl rfl ⟨rfl, rfl, rfl, rfl, rfl⟩ rfl rfl rfl rfl rfl (by kernel_rfl) Try.func5 (by kernel_rfl)
    (of_decide_eq_true (by kernel_rfl)) (by unfold Func.isWrapper; first | (rw [if_pos (by decide +kernel)]; kernel_rfl) | (rw [if_neg (by decide +kernel)]; exact ⟨rfl, rfl⟩))
    (fun os started H enc _ => lifted_AddGuard os started H enc)

end Go.Proofs.Ythjdodamfinhaaa

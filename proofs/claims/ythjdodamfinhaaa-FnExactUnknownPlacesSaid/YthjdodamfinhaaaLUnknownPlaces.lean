/- Proves: the law UnknownPlaces returns true for every input and leaves its arguments as they were (the given statement). Conditions: none beyond the statement itself. -/
import Derived.Test.YthjdodamfinhaaaGr
import Derived.Test.YthjdodamfinhaaaRow
namespace Go.Proofs.Ythjdodamfinhaaa
open Go.RowKit Go.Sort

theorem own_below_lt {w w' : World} {base E sz B : Nat} {α : Type} {f : α → List Value} {v : Value} {es : List α} (h : Own w base E sz f v es) (hlt : ∀ k, v.ownBlock = some k → k < B) (hb : Below B w w') : Own w' base E sz f v es := by
  refine ⟨h.1, ?_⟩
  rcases h.2 with h2 | ⟨g, cap, cur, hv, hg, hh, r⟩
  · exact .inl h2
  · exact .inr ⟨g, cap, cur, hv, hg, (hb.block g (hlt g (by rw [hv]; rfl))).trans hh, r⟩
theorem oss_lt {W : World} {b B : Nat} {v : Value} {ts : List (Nat × Int × Int)} (a : OSS W b v ts) (hB : W.heap.size ≤ B) : (∀ k, v.ownBlock = some k → k < B) ∧ ∀ t ∈ ts, t.1 < B :=
  ⟨fun k hk => Nat.lt_of_lt_of_le (World.ownsRow.lt a.own k hk).2 hB, fun t ht => Nat.lt_of_lt_of_le (a.row t ht).lt hB⟩
theorem OSS.below_lt {w w' : World} {base B : Nat} {v : Value} {ts : List (Nat × Int × Int)} (h : OSS w base v ts) (hlt : (∀ k, v.ownBlock = some k → k < B) ∧ ∀ t ∈ ts, t.1 < B) (hb : Below B w w') : OSS w' base v ts :=
  ⟨own_below_lt h.own hlt.1 hb, h.apt, fun t ht => (h.row t ht).below hb (hlt.2 t ht)⟩
theorem OSS.other {W W' : World} {base : Nat} {v : Value} {ts : List (Nat × Int × Int)} {row : Option Nat} (h : OSS W base v ts) (hne : (v.ownBlock = none ∨ v.ownBlock ≠ row) ∧ ∀ t ∈ ts, some t.1 ≠ row) (hg : W.grownBy W' row) : OSS W' base v ts :=
  ⟨own_other h.own hne.1 hg, h.apt, fun t ht => (h.row t ht).keep (hg.block t.1 (h.row t ht).lt (by intro e; exact hne.2 t ht e))⟩
theorem oss_ne_lo {W1 W2 : World} {b1 b2 E s : Nat} {α : Type} {f : α → List Value} {v1 v2 : Value} {ts : List (Nat × Int × Int)} {l : List α} (a : OSS W1 b1 v1 ts) (b : Own W2 b2 E s f v2 l) (h : W1.heap.size ≤ b2) :
    (v1.ownBlock = none ∨ v1.ownBlock ≠ v2.ownBlock) ∧ ∀ t ∈ ts, some t.1 ≠ v2.ownBlock :=
  ⟨own_ne_lo a.own b h, fun t ht e => by have := (a.row t ht).lt; have := (World.ownsRow.lt b t.1 e.symm).1; omega⟩
theorem oss_ne_hi {W1 W2 : World} {b1 b2 E s : Nat} {α : Type} {f : α → List Value} {v1 v2 : Value} {ts : List (Nat × Int × Int)} {l : List α} (a : Own W1 b1 E s f v1 l) (b : OSS W2 b2 v2 ts) (h : W1.heap.size ≤ b2) :
    (v2.ownBlock = none ∨ v2.ownBlock ≠ v1.ownBlock) ∧ ∀ t ∈ ts, some t.1 ≠ v1.ownBlock :=
  ⟨own_ne_hi a b.own h, fun t ht e => by have := b.apt.lo t ht; have := (World.ownsRow.lt a t.1 e.symm).2; omega⟩
set_option maxHeartbeats 4000000 in
theorem law_UnknownPlaces (A0 : Option Addr) (n0 c0 : Nat) (es0 : List G3) (x1 : Int) (w : World) (hr0 : n0 ≤ 9223372036854775807) (h0 : Sl w w.heap.size 3 G3.cells A0 n0 es0) (hz0 : ∀ e ∈ es0, e.s.size ≤ 9223372036854775807) :
    Calls Try.prog 10 #[.slice A0 n0 c0, .int .i64 x1] w fun e w' => e = .returned (.bool true) ∧ Below w.heap.size w w' := by
  have Hl0 := Lib.hid h0.len
  go_enter Try.func10, Try.ntmps10
  go_wp2_with fail
  refine (laws_szGuardS _ _ _ es0 1048576 _ (by omega) (by omega) hr0 hz0 h0).mono ?_
  rintro e w1 ⟨r0, rfl, hs0, b1⟩
  have B1 := below_then (Below.refl _ _) b1
  rcases hs0 with rfl | ⟨hs0a, hs0b, hs0c⟩
  · go_wp2_with fail
    go_ret
    exact ⟨rfl, B1⟩
  have m0 : n0 ≤ 1048576 := by omega
  have RB : (uRes es0 x1).length ≤ 1048576 := by have := uRes_len es0 x1; omega
  go_wp2_with fail
  refine (laws_toGuardS _ _ _ es0 _ m0 (h0.on B1)).mono ?_
  rintro e w2 ⟨v, rfl, o2, b2⟩
  have B2 := below_then B1 b2
  obtain ⟨A2_, n2_, c2_, rfl, l2, k2_⟩ := own_shape o2
  have m2_ : n2_ ≤ 1048576 := by have := Hl0.out; omega
  have L2 := Lib.hid l2
  clear l2
  have O2 := Lib.hid o2
  clear o2
  go_wp2_with fail
  refine (spec_UnknownPlaces _ _ _ es0 x1 _ m2_ hs0c (own_sl O2.out G3.cells_len)).mono ?_
  rintro e w3 ⟨v3_, rfl, ⟨ts3, e3, o3⟩, b3⟩
  have B3 := below_then B2 b3
  have O3 := Lib.hid o3
  have E3 := Lib.hid e3
  have R3 := Lib.hid (show ts3.length ≤ 1048576 by have hx := congrArg List.length e3; rw [List.length_map] at hx; omega)
  clear o3 e3
  go_wp2_with fail
  refine (laws_toGuardS _ _ _ es0 _ m0 (h0.on B3)).mono ?_
  rintro e w4 ⟨v, rfl, o4, b4⟩
  have B4 := below_then B3 b4
  obtain ⟨A4_, n4_, c4_, rfl, l4, k4_⟩ := own_shape o4
  have m4_ : n4_ ≤ 1048576 := by have := Hl0.out; omega
  have L4 := Lib.hid l4
  clear l4
  have O4 := Lib.hid o4
  clear o4
  go_wp2_with fail
  refine (impl_UnknownPlaces _ _ _ es0 x1 _ m4_ hs0c (own_sl O4.out G3.cells_len)).mono ?_
  rintro e w5 ⟨v5_, rfl, ⟨ts5, e5, o5⟩, b5⟩
  have B5 := below_then B4 b5
  have O5 := Lib.hid o5
  have E5 := Lib.hid e5
  have R5 := Lib.hid (show ts5.length ≤ 1048576 by have hx := congrArg List.length e5; rw [List.length_map] at hx; omega)
  clear o5 e5
  go_wp2_with fail
  refine (laws_eqInt64SS_self v5_ v3_ _ _ ts5 ts3 _ R5.out O5.out (OSS.on (OSS.on O3.out b4) b5) (by rw [E5.out, E3.out])).mono ?_
  rintro e w6 ⟨rfl, b6⟩
  have B6 := below_then B5 b6
  go_wp2_with fail
  refine (laws_toGuardS _ _ _ es0 _ m0 (h0.on B6)).mono ?_
  rintro e w7 ⟨v, rfl, o7, b7⟩
  have B7 := below_then B6 b7
  obtain ⟨A7_, n7_, c7_, rfl, l7, k7_⟩ := own_shape o7
  have m7_ : n7_ ≤ 1048576 := by have := Hl0.out; omega
  have L7 := Lib.hid l7
  clear l7
  have O7 := Lib.hid o7
  clear o7
  go_wp2_with fail
  refine (laws_eqGuardS_self _ _ _ _ _ _ es0 _ m4_ m7_ (own_sl (Own.below (Own.below (Own.below O4.out b5 (Nat.le_refl _)) b6 (Nat.le_refl _)) b7 (Nat.le_refl _)) G3.cells_len) (own_sl O7.out G3.cells_len)).mono ?_
  rintro e w8 ⟨rfl, b8⟩
  have B8 := below_then B7 b8
  go_wp2_with fail
  refine (laws_markGuardS _ _ _ _ _ _ (by have := m4_; have := L4.out; omega) (by have := Hl0.out; omega) (by have := Hl0.out; omega) (Own.below (Own.below (Own.below (Own.below O4.out b5 (Nat.le_refl _)) b6 (Nat.le_refl _)) b7 (Nat.le_refl _)) b8 (Nat.le_refl _))).mono ?_
  rintro e w9 ⟨rfl, p9, g9⟩
  have B9 := own_grown B8 (Own.below (Own.below (Own.below (Own.below O4.out b5 (Nat.le_refl _)) b6 (Nat.le_refl _)) b7 (Nat.le_refl _)) b8 (Nat.le_refl _)) B3.size (Nat.le_trans (Nat.le_refl _) B8.size) g9
  clear p9
  go_wp2_with fail
  refine (laws_eqInt64SS_self v5_ v3_ _ _ ts5 ts3 _ R5.out (OSS.other (OSS.on (OSS.on (OSS.on O5.out b6) b7) b8) (oss_ne_hi O4.out O5.out (Nat.le_refl _)) g9) (OSS.other (OSS.on (OSS.on (OSS.on (OSS.on (OSS.on O3.out b4) b5) b6) b7) b8) (oss_ne_lo O3.out O4.out (Nat.le_refl _)) g9) (by rw [E5.out, E3.out])).mono ?_
  rintro e w10 ⟨rfl, b10⟩
  have B10 := below_then B9 b10
  go_wp2_with fail
  refine (laws_markInt64SS w4.heap.size v5_ ts5 1 _ R5.out (by omega) (by omega) (OSS.on (OSS.other (OSS.on (OSS.on (OSS.on O5.out b6) b7) b8) (oss_ne_hi O4.out O5.out (Nat.le_refl _)) g9) b10)).mono ?_
  rintro e w11 ⟨rfl, p11, g11⟩
  have B11 := B10.trans (g11.mono B4.size)
  have P11 := Lib.hid p11
  clear p11
  go_wp2_with fail
  refine (laws_heldInt64SS w4.heap.size v5_ ts5 1 _ R5.out (by omega) (by omega) P11.out).mono ?_
  rintro e w' ⟨rfl, rfl⟩
  have hnn : ¬ (1 : Int) + 2 * (ts5.length : Int) < 0 := by omega
  go_wp2_with fail
  refine (laws_toGuardS _ _ _ es0 _ m0 (h0.on B11)).mono ?_
  rintro e w12 ⟨v, rfl, o12, b12⟩
  have B12 := below_then B11 b12
  obtain ⟨A12_, n12_, c12_, rfl, l12, k12_⟩ := own_shape o12
  have m12_ : n12_ ≤ 1048576 := by have := Hl0.out; omega
  have L12 := Lib.hid l12
  clear l12
  have O12 := Lib.hid o12
  clear o12
  go_wp2_with fail
  refine (impl_UnknownPlaces _ _ _ es0 x1 _ m12_ hs0c (own_sl O12.out G3.cells_len)).mono ?_
  rintro e w13 ⟨v13_, rfl, ⟨ts13, e13, o13⟩, b13⟩
  have B13 := below_then B12 b13
  have O13 := Lib.hid o13
  have E13 := Lib.hid e13
  have R13 := Lib.hid (show ts13.length ≤ 1048576 by have hx := congrArg List.length e13; rw [List.length_map] at hx; omega)
  clear o13 e13
  go_wp2_with fail
  refine (laws_eqInt64SS_self v13_ v3_ _ _ ts13 ts3 _ R13.out O13.out (OSS.on (OSS.on (OSS.below_lt (OSS.on (OSS.other (OSS.on (OSS.on (OSS.on (OSS.on (OSS.on O3.out b4) b5) b6) b7) b8) (oss_ne_lo O3.out O4.out (Nat.le_refl _)) g9) b10) (oss_lt O3.out b4.size) g11) b12) b13) (by rw [E13.out, E3.out])).mono ?_
  rintro e w14 ⟨rfl, b14⟩
  have B14 := below_then B13 b14
  go_wp2_with fail
  refine (laws_heldInt64SS w4.heap.size v5_ ts5 1 _ R5.out (by omega) (by omega) (OSM.below (OSM.below (OSM.below P11.out b12 (Nat.le_refl _)) b13 (Nat.le_refl _)) b14 (Nat.le_refl _))).mono ?_
  rintro e w' ⟨rfl, rfl⟩
  go_wp2_with fail
  go_ret
  exact ⟨rfl, B14⟩
open Go.ChangeShapes Go.WideShapes Go.ChangeAt Go.Deep Go.Joins
set_option maxRecDepth 100000 in
theorem lifted_UnknownPlaces (os : Os) (started : os.Started) (H : Type) (enc : TypeId × Value → H) :
    ReturnsInHanded {} Try.checked os 10 .any (Rows.fnExactUnknownPlacesSpec.pre6 enc Try.prog Try.f10 [] false) (Rows.fnExactUnknownPlacesSpec.post enc Try.prog Try.f10 false true false false) := by
  refine lift_law (C := Try.checked) (by kernel_rfl) (by kernel_rfl) (s := Rows.fnExactUnknownPlacesSpec) (T := 4) Try.underlying4 rfl rfl ?_ (by kernel_rfl) (by kernel_rfl) Try.func10 started
    (ChangeSpec.witness6 (enc := enc) (C := Try.checked) false ⟨#[], #[.slice none 0 0, .int .i64 0], []⟩ 8 (by kernel_rfl) (by kernel_rfl) (by kernel_rfl) (by kernel_rfl)) ?_
  · intro H ds hl
    match ds, hl with
    | [d0, d1], _ => rfl
  · intro W base args ds ps hval hlt hA
    have hval' : ∀ (j : Nat) t v, (#[22, 2] : Array TypeId)[j]? = some t → args[j]? = some v → Value.okWide Try.prog W .any base t v := hval
    have hA' : DataW.TrodAll enc Try.prog W 0 (fun _ => true) true [22, 2] args.toList ds ps := hA
    obtain ⟨v0, v1, d0, d1, p0, p1, rfl, rfl, rfl, z0, z1⟩ := trodAll_two hA'
    obtain ⟨A0, n0, c0, es0, rfl, hm0, hs0, hz0⟩ := open_g3s Try.underlying22 Try.underlying31 (by kernel_rfl) (by kernel_rfl) Try.underlying9 Try.underlying2 Try.underlying2 (hval' 0 22 v0 rfl rfl) z0
    obtain ⟨x1, rfl, rfl, rfl, _⟩ := open_int Try.underlying2 (hval' 1 2 v1 rfl rfl) z1
    exact law_UnknownPlaces A0 n0 c0 es0 x1 W (by unfold maxLen at hm0; omega) hs0 (fun e he => by have := hz0 e he; unfold maxLen at this; exact this)
theorem row_UnknownPlaces : Rows.FnExactUnknownPlacesSaid :=
  OpenClaim.holds_of_wide 10 Try.f10 rfl rfl rfl rfl rfl rfl rfl ⟨rfl, rfl, rfl, rfl, rfl⟩ rfl rfl rfl rfl rfl (by kernel_rfl) Try.func10 (by kernel_rfl)
    (of_decide_eq_true (by kernel_rfl)) (by unfold Func.isWrapper; first | (rw [if_pos (by decide +kernel)]; kernel_rfl) | (rw [if_neg (by decide +kernel)]; exact ⟨rfl, rfl⟩))
    (fun os started H enc _ => lifted_UnknownPlaces os started H enc)

end Go.Proofs.Ythjdodamfinhaaa

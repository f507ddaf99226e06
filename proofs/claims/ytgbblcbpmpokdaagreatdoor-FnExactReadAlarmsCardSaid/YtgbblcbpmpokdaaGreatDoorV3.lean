/- Walks over functions of this seat, by contract. Conditions: those that each theorem states. -/
import Derived.Test.YtgbblcbpmpokdaaGreatDoorV2
namespace Go.Proofs.YtgbblcbpmpokdaaGreatDoor
open Go.RowKit Go.Sort

theorem own_cells {w : World} {base E sz n : Nat} {α : Type} {f : α → List Value} {v : Value} {es : List α} (h : Own w base E sz f v es) (hf : ∀ e, (f e).length = sz) (hl : es.length = n) (hn : 0 < n) :
    ∃ g c, v = .slice (some ⟨g, 0, none⟩) n c ∧ base ≤ g ∧ g < w.heap.size ∧ Has w g 0 sz f es := by
  obtain ⟨g, c, hv, hb, hg, _⟩ := own_block_of h hl hn
  subst hv
  exact ⟨g, c, rfl, hb, hg, own_has h hf⟩
theorem Has.s0 {w : World} {g k : Nat} {xs : List ByteArray} {x : ByteArray} (h : Has w g 0 1 scl xs) (hx : xs[k]? = some x) : w.cell? ⟨g, k, none⟩ = some (.string x) := by
  have := h.sc hx; rwa [Nat.zero_add] at this
theorem spl_long {c : UInt8} : ∀ {l x : List UInt8}, x ∈ spl c l → x.length ≤ l.length
  | [], x, h => by simp [spl] at h; subst h; simp
  | y :: r, x, h => by
    rw [spl] at h
    split at h
    · rcases List.mem_cons.1 h with rfl | h
      · simp
      · have := spl_long h; simp; omega
    · have hne := spl_ne c r
      cases hs : spl c r with
      | nil => exact absurd hs hne
      | cons z t =>
        rw [hs] at h
        rcases List.mem_cons.1 h with rfl | h
        · have := spl_long (c := c) (l := r) (x := z) (by rw [hs]; simp); simp; omega
        · have := spl_long (c := c) (l := r) (x := x) (by rw [hs]; simp [h]); simp; omega
theorem two_of {α : Type} {ws : List α} (h : ws.length = 2) : ∃ a b, ws = [a, b] := by
  match ws, h with
  | [a, b], _ => exact ⟨_, _, rfl⟩
theorem rl_short {l : List UInt8} (h : l.length < 6) : rl l = none := rl_no fun n hn e => by
  obtain ⟨p, x, y, e1, _, _, hp, _⟩ := lvL_parts hn
  rw [e, e1] at h
  simp at h; omega
/-- the level that a text's parts give -/
def lvN (x0 : UInt8) (m : Int) (x y : UInt8) : Int := if x0 = 45 then -(100 * m + 10 * ((x.toNat : Int) - 48) + ((y.toNat : Int) - 48)) else 100 * m + 10 * ((x.toNat : Int) - 48) + ((y.toNat : Int) - 48)
theorem rl_shape {x0 xl : UInt8} {mid : List UInt8} {n : Int} (h : rl (x0 :: (mid ++ [xl])) = some n) : (x0 = 43 ∨ x0 = 45) ∧ xl = 109 ∧ ∃ p x y m, spl 46 mid = [p, [x, y]] ∧ nmF p = some m ∧ inR m 0 20 = true ∧
    inR (x.toNat : Int) 48 57 = true ∧ inR (y.toNat : Int) 48 57 = true ∧ n = lvN x0 m x y ∧ lvl n = true ∧ lvL n = x0 :: (mid ++ [xl]) := by
  obtain ⟨hn, e⟩ := (rl_iff _ n).1 h
  obtain ⟨p, x, y, e1, hs, hm, hp, hx, hy⟩ := lvL_parts hn
  have hb := inR_iff.1 hn
  have e2 := e
  rw [e1, List.cons_append] at e2
  injection e2 with e3 e4
  obtain ⟨e5, e6⟩ := List.append_inj' e4 rfl
  injection e6 with e6
  refine ⟨?_, e6, p, x, y, _, by rw [e5]; exact hs, hm, inR_iff.2 (by omega), inR_iff.2 (by omega), inR_iff.2 (by omega), ?_, hn, e.symm⟩
  · rw [e3, sgn]; split
    · exact .inr rfl
    · exact .inl rfl
  · unfold lvN
    rw [e3, sgn]
    by_cases hneg : n < 0
    · rw [if_pos hneg, if_pos rfl]; omega
    · rw [if_neg hneg, if_neg (by decide)]; omega
theorem rl_none {x0 xl : UInt8} {mid : List UInt8} (h : ∀ n p x y m, (x0 = 43 ∨ x0 = 45) → xl = 109 → spl 46 mid = [p, [x, y]] → nmF p = some m → inR m 0 20 = true → inR (x.toNat : Int) 48 57 = true → inR (y.toNat : Int) 48 57 = true →
    n = lvN x0 m x y → lvl n = true → lvL n = x0 :: (mid ++ [xl]) → False) : rl (x0 :: (mid ++ [xl])) = none := by
  cases hr : rl (x0 :: (mid ++ [xl])) with
  | none => rfl
  | some n =>
    obtain ⟨a, b, p, x, y, m, c, d, e, f, g, i, j, k⟩ := rl_shape hr
    exact (h n p x y m a b c d e f g i j k).elim
structure LF (l mid : List UInt8) (x0 xl : UInt8) (N : Nat) : Prop where
  hsz : (bs l).size = N + 1
  hg0 : ∀ h, (bs l)[0]'h = x0
  hgN : ∀ h, (bs l)[N]'h = xl
  hex : (bs l).extract 1 N = bs mid
  hls : (bs l).toList = l
  hN : N ≤ 1048576
theorem rl_fin {x0 xl : UInt8} {mid : List UInt8} {p : List UInt8} {x y : UInt8} {m : Int} (hs : spl 46 mid = [p, [x, y]]) (hm : nmF p = some m) (h : ¬ (lvl (lvN x0 m x y) = true ∧ lvL (lvN x0 m x y) = x0 :: (mid ++ [xl]))) : rl (x0 :: (mid ++ [xl])) = none :=
  rl_none fun n p' x' y' m' _ _ e1 e2 _ _ _ e3 e4 e5 => by
    rw [hs] at e1
    injection e1 with e6 e7
    injection e7 with e7 _
    injection e7 with e7 e8
    injection e8 with e8 _
    subst e6 e7 e8
    rw [hm] at e2
    injection e2 with e2
    subst e2 e3
    exact h ⟨e4, e5⟩
set_option maxHeartbeats 2000000 in
set_option maxRecDepth 100000 in
set_option linter.unusedSimpArgs false in
theorem spec_rl1 (l : List UInt8) (N : Nat) (w : World) (hsz : (bs l).size = N)
    (HR : Hid (rl l = none)) (h6 : (N : Int) < 6) : Calls Tryz.prog 10 #[.string (bs l)] w fun e w' => e = .returned (.tuple #[.int .i64 ((rl l).getD 0), .bool (rl l).isSome]) ∧ Below w.heap.size w w' := by
  go_enter Tryz.func10, Tryz.ntmps10
  go_wp2_with fail
  go_ret2
  exact ⟨by rw [HR.out]; rfl, Below.refl _ _⟩
set_option maxHeartbeats 2000000 in
set_option maxRecDepth 100000 in
set_option linter.unusedSimpArgs false in
theorem spec_rl2 (l mid : List UInt8) (x0 xl : UInt8) (N : Nat) (w : World) (hF : LF l mid x0 xl N)
    (HR : Hid (rl l = none)) (h6 : ¬ (N : Int) + 1 < 6) (hm : ((xl.toNat : Int) != 109) = true) : Calls Tryz.prog 10 #[.string (bs l)] w fun e w' => e = .returned (.tuple #[.int .i64 ((rl l).getD 0), .bool (rl l).isSome]) ∧ Below w.heap.size w w' := by
  obtain ⟨hsz, hg0, hgN, hex, hls, hN⟩ := hF
  go_enter Tryz.func10, Tryz.ntmps10
  go_wp2_with fail
  go_ret2
  exact ⟨by rw [HR.out]; rfl, Below.refl _ _⟩
set_option maxHeartbeats 2000000 in
set_option maxRecDepth 100000 in
set_option linter.unusedSimpArgs false in
theorem spec_rl3 (l mid : List UInt8) (x0 xl : UInt8) (N : Nat) (w : World) (hF : LF l mid x0 xl N)
    (HR : Hid (rl l = none)) (h6 : ¬ (N : Int) + 1 < 6) (hm : ((xl.toNat : Int) != 109) = false) (h43 : ((x0.toNat : Int) != 43) = true) (h45 : ((x0.toNat : Int) != 45) = true) : Calls Tryz.prog 10 #[.string (bs l)] w fun e w' => e = .returned (.tuple #[.int .i64 ((rl l).getD 0), .bool (rl l).isSome]) ∧ Below w.heap.size w w' := by
  obtain ⟨hsz, hg0, hgN, hex, hls, hN⟩ := hF
  go_enter Tryz.func10, Tryz.ntmps10
  go_wp2_with fail
  go_ret2
  exact ⟨by rw [HR.out]; rfl, Below.refl _ _⟩
set_option maxHeartbeats 2000000 in
set_option maxRecDepth 100000 in
set_option linter.unusedSimpArgs false in
theorem spec_rlp4 (l mid : List UInt8) (x0 xl : UInt8) (N : Nat) (w : World) (hF : LF l mid x0 xl N)
    (HR : Hid (rl l = none)) (h6 : ¬ (N : Int) + 1 < 6) (hm : ((xl.toNat : Int) != 109) = false) (h4 : ((x0.toNat : Int) != 43) = false ∧ ((x0.toNat : Int) == 45) = false) (ws : List (List UInt8)) (hw : ws.length ≠ 2) (HC : Hid (∀ W : World, Calls Tryz.prog 9 #[.string (bs mid), .int .u8 46] W fun e w' => ∃ v, e = .returned v ∧ Own w' W.heap.size 9 1 scl v (ws.map bs) ∧ Below W.heap.size W w'))  : Calls Tryz.prog 10 #[.string (bs l)] w fun e w' => e = .returned (.tuple #[.int .i64 ((rl l).getD 0), .bool (rl l).isSome]) ∧ Below w.heap.size w w' := by
  obtain ⟨hsz, hg0, hgN, hex, hls, hN⟩ := hF
  obtain ⟨h43, h45⟩ := h4
  go_enter Tryz.func10, Tryz.ntmps10
  have hN1 : (1 : Int) ≤ (N : Int) := by omega
  go_wp2_with fail
  refine (HC.out _).mono ?_
  rintro e w1 ⟨v, rfl, ho, hB⟩
  obtain ⟨A, n, c, rfl, hl, _⟩ := own_shape ho
  rw [List.length_map] at hl
  have hn2 : ¬ (n : Int) = 2 := by omega
  clear ho
  go_wp2_with fail
  go_ret2
  exact ⟨by rw [HR.out]; rfl, hB⟩
set_option maxHeartbeats 2000000 in
set_option maxRecDepth 100000 in
set_option linter.unusedSimpArgs false in
theorem spec_rlp5 (l mid : List UInt8) (x0 xl : UInt8) (N : Nat) (w : World) (hF : LF l mid x0 xl N)
    (HR : Hid (rl l = none)) (h6 : ¬ (N : Int) + 1 < 6) (hm : ((xl.toNat : Int) != 109) = false) (h4 : ((x0.toNat : Int) != 43) = false ∧ ((x0.toNat : Int) == 45) = false) (p q : List UInt8) (k : Nat) (hk : (bs q).size = k) (hk2 : ¬ (k : Int) = 2) (HC : Hid (∀ W : World, Calls Tryz.prog 9 #[.string (bs mid), .int .u8 46] W fun e w' => ∃ v, e = .returned v ∧ Own w' W.heap.size 9 1 scl v ([bs p, bs q]) ∧ Below W.heap.size W w'))  : Calls Tryz.prog 10 #[.string (bs l)] w fun e w' => e = .returned (.tuple #[.int .i64 ((rl l).getD 0), .bool (rl l).isSome]) ∧ Below w.heap.size w w' := by
  obtain ⟨hsz, hg0, hgN, hex, hls, hN⟩ := hF
  obtain ⟨h43, h45⟩ := h4
  go_enter Tryz.func10, Tryz.ntmps10
  have hN1 : (1 : Int) ≤ (N : Int) := by omega
  go_wp2_with fail
  refine (HC.out _).mono ?_
  rintro e w1 ⟨v, rfl, ho, hB⟩
  obtain ⟨g, c, rfl, hgb, hg, hh⟩ := own_cells ho scl_len rfl (by decide : 0 < 2)
  clear ho
  have c0 := hh.s0 (k := 0) rfl
  have c1 := hh.s0 (k := 1) rfl
  clear hh
  go_wp2_with fail
  go_ret2
  exact ⟨by rw [HR.out]; rfl, hB⟩
set_option maxHeartbeats 2000000 in
set_option maxRecDepth 100000 in
set_option linter.unusedSimpArgs false in
theorem spec_rlp6 (l mid : List UInt8) (x0 xl : UInt8) (N : Nat) (w : World) (hF : LF l mid x0 xl N)
    (HR : Hid (rl l = none)) (h6 : ¬ (N : Int) + 1 < 6) (hm : ((xl.toNat : Int) != 109) = false) (h4 : ((x0.toNat : Int) != 43) = false ∧ ((x0.toNat : Int) == 45) = false) (p : List UInt8) (x y : UInt8) (gx : inR (x.toNat : Int) 48 57 = false) (HC : Hid (∀ W : World, Calls Tryz.prog 9 #[.string (bs mid), .int .u8 46] W fun e w' => ∃ v, e = .returned v ∧ Own w' W.heap.size 9 1 scl v ([bs p, bs [x, y]]) ∧ Below W.heap.size W w'))  : Calls Tryz.prog 10 #[.string (bs l)] w fun e w' => e = .returned (.tuple #[.int .i64 ((rl l).getD 0), .bool (rl l).isSome]) ∧ Below w.heap.size w w' := by
  obtain ⟨hsz, hg0, hgN, hex, hls, hN⟩ := hF
  have hq2 : (bs [x, y]).size = 2 := rfl
  have hgx : ∀ h, (bs [x, y])[0]'h = x := fun _ => rfl
  have hgy : ∀ h, (bs [x, y])[1]'h = y := fun _ => rfl
  obtain ⟨h43, h45⟩ := h4
  go_enter Tryz.func10, Tryz.ntmps10
  have hN1 : (1 : Int) ≤ (N : Int) := by omega
  go_wp2_with fail
  refine (HC.out _).mono ?_
  rintro e w1 ⟨v, rfl, ho, hB⟩
  obtain ⟨g, c, rfl, hgb, hg, hh⟩ := own_cells ho scl_len rfl (by decide : 0 < 2)
  clear ho
  have c0 := hh.s0 (k := 0) rfl
  have c1 := hh.s0 (k := 1) rfl
  clear hh
  go_wp2_with fail
  refine (spec_l01Digit _ _).mono ?_
  rintro e w2 ⟨rfl, rfl⟩
  rw [gx]
  go_wp2_with fail
  go_ret2
  exact ⟨by rw [HR.out]; rfl, hB⟩
set_option maxHeartbeats 2000000 in
set_option maxRecDepth 100000 in
set_option linter.unusedSimpArgs false in
theorem spec_rlp7 (l mid : List UInt8) (x0 xl : UInt8) (N : Nat) (w : World) (hF : LF l mid x0 xl N)
    (HR : Hid (rl l = none)) (h6 : ¬ (N : Int) + 1 < 6) (hm : ((xl.toNat : Int) != 109) = false) (h4 : ((x0.toNat : Int) != 43) = false ∧ ((x0.toNat : Int) == 45) = false) (p : List UInt8) (x y : UInt8) (gx : inR (x.toNat : Int) 48 57 = true) (gy : inR (y.toNat : Int) 48 57 = false) (HC : Hid (∀ W : World, Calls Tryz.prog 9 #[.string (bs mid), .int .u8 46] W fun e w' => ∃ v, e = .returned v ∧ Own w' W.heap.size 9 1 scl v ([bs p, bs [x, y]]) ∧ Below W.heap.size W w'))  : Calls Tryz.prog 10 #[.string (bs l)] w fun e w' => e = .returned (.tuple #[.int .i64 ((rl l).getD 0), .bool (rl l).isSome]) ∧ Below w.heap.size w w' := by
  obtain ⟨hsz, hg0, hgN, hex, hls, hN⟩ := hF
  have hq2 : (bs [x, y]).size = 2 := rfl
  have hgx : ∀ h, (bs [x, y])[0]'h = x := fun _ => rfl
  have hgy : ∀ h, (bs [x, y])[1]'h = y := fun _ => rfl
  obtain ⟨h43, h45⟩ := h4
  go_enter Tryz.func10, Tryz.ntmps10
  have hN1 : (1 : Int) ≤ (N : Int) := by omega
  go_wp2_with fail
  refine (HC.out _).mono ?_
  rintro e w1 ⟨v, rfl, ho, hB⟩
  obtain ⟨g, c, rfl, hgb, hg, hh⟩ := own_cells ho scl_len rfl (by decide : 0 < 2)
  clear ho
  have c0 := hh.s0 (k := 0) rfl
  have c1 := hh.s0 (k := 1) rfl
  clear hh
  go_wp2_with fail
  refine (spec_l01Digit _ _).mono ?_
  rintro e w2 ⟨rfl, rfl⟩
  rw [gx]
  go_wp2_with fail
  refine (spec_l01Digit _ _).mono ?_
  rintro e w2 ⟨rfl, rfl⟩
  rw [gy]
  go_wp2_with fail
  go_ret2
  exact ⟨by rw [HR.out]; rfl, hB⟩
set_option maxHeartbeats 2000000 in
set_option maxRecDepth 100000 in
set_option linter.unusedSimpArgs false in
theorem spec_rlp8 (l mid : List UInt8) (x0 xl : UInt8) (N : Nat) (w : World) (hF : LF l mid x0 xl N)
    (HR : Hid (rl l = none)) (h6 : ¬ (N : Int) + 1 < 6) (hm : ((xl.toNat : Int) != 109) = false) (h4 : ((x0.toNat : Int) != 43) = false ∧ ((x0.toNat : Int) == 45) = false) (p : List UInt8) (x y : UInt8) (gx : inR (x.toNat : Int) 48 57 = true) (gy : inR (y.toNat : Int) 48 57 = true) (HC : Hid (∀ W : World, Calls Tryz.prog 9 #[.string (bs mid), .int .u8 46] W fun e w' => ∃ v, e = .returned v ∧ Own w' W.heap.size 9 1 scl v ([bs p, bs [x, y]]) ∧ Below W.heap.size W w')) (HM : Hid (∀ W : World, Calls Tryz.prog 16 #[.string (bs p)] W fun e w' => e = .returned (.tuple #[.int .i64 (0), .bool false]) ∧ Below W.heap.size W w'))  : Calls Tryz.prog 10 #[.string (bs l)] w fun e w' => e = .returned (.tuple #[.int .i64 ((rl l).getD 0), .bool (rl l).isSome]) ∧ Below w.heap.size w w' := by
  obtain ⟨hsz, hg0, hgN, hex, hls, hN⟩ := hF
  have hq2 : (bs [x, y]).size = 2 := rfl
  have hgx : ∀ h, (bs [x, y])[0]'h = x := fun _ => rfl
  have hgy : ∀ h, (bs [x, y])[1]'h = y := fun _ => rfl
  obtain ⟨h43, h45⟩ := h4
  go_enter Tryz.func10, Tryz.ntmps10
  have hN1 : (1 : Int) ≤ (N : Int) := by omega
  go_wp2_with fail
  refine (HC.out _).mono ?_
  rintro e w1 ⟨v, rfl, ho, hB⟩
  obtain ⟨g, c, rfl, hgb, hg, hh⟩ := own_cells ho scl_len rfl (by decide : 0 < 2)
  clear ho
  have c0 := hh.s0 (k := 0) rfl
  have c1 := hh.s0 (k := 1) rfl
  clear hh
  go_wp2_with fail
  refine (spec_l01Digit _ _).mono ?_
  rintro e w2 ⟨rfl, rfl⟩
  rw [gx]
  go_wp2_with fail
  refine (spec_l01Digit _ _).mono ?_
  rintro e w2 ⟨rfl, rfl⟩
  rw [gy]
  go_wp2_with fail
  refine (HM.out _).mono ?_
  rintro e w2 ⟨rfl, hb2⟩
  have c1 := cell_on c1 hb2 hg
  have hB := below_then hB hb2
  go_wp2_with fail
  go_ret2
  exact ⟨by rw [HR.out]; rfl, hB⟩
set_option maxHeartbeats 2000000 in
set_option maxRecDepth 100000 in
set_option linter.unusedSimpArgs false in
theorem spec_rlp9 (l mid : List UInt8) (x0 xl : UInt8) (N : Nat) (w : World) (hF : LF l mid x0 xl N)
    (HR : Hid (rl l = none)) (h6 : ¬ (N : Int) + 1 < 6) (hm : ((xl.toNat : Int) != 109) = false) (h4 : ((x0.toNat : Int) != 43) = false ∧ ((x0.toNat : Int) == 45) = false) (p : List UInt8) (x y : UInt8) (m : Int) (hin : inR m 0 20 = false) (gx : inR (x.toNat : Int) 48 57 = true) (gy : inR (y.toNat : Int) 48 57 = true) (HC : Hid (∀ W : World, Calls Tryz.prog 9 #[.string (bs mid), .int .u8 46] W fun e w' => ∃ v, e = .returned v ∧ Own w' W.heap.size 9 1 scl v ([bs p, bs [x, y]]) ∧ Below W.heap.size W w')) (HM : Hid (∀ W : World, Calls Tryz.prog 16 #[.string (bs p)] W fun e w' => e = .returned (.tuple #[.int .i64 (m), .bool true]) ∧ Below W.heap.size W w'))  : Calls Tryz.prog 10 #[.string (bs l)] w fun e w' => e = .returned (.tuple #[.int .i64 ((rl l).getD 0), .bool (rl l).isSome]) ∧ Below w.heap.size w w' := by
  obtain ⟨hsz, hg0, hgN, hex, hls, hN⟩ := hF
  have hq2 : (bs [x, y]).size = 2 := rfl
  have hgx : ∀ h, (bs [x, y])[0]'h = x := fun _ => rfl
  have hgy : ∀ h, (bs [x, y])[1]'h = y := fun _ => rfl
  obtain ⟨h43, h45⟩ := h4
  go_enter Tryz.func10, Tryz.ntmps10
  have hN1 : (1 : Int) ≤ (N : Int) := by omega
  go_wp2_with fail
  refine (HC.out _).mono ?_
  rintro e w1 ⟨v, rfl, ho, hB⟩
  obtain ⟨g, c, rfl, hgb, hg, hh⟩ := own_cells ho scl_len rfl (by decide : 0 < 2)
  clear ho
  have c0 := hh.s0 (k := 0) rfl
  have c1 := hh.s0 (k := 1) rfl
  clear hh
  go_wp2_with fail
  refine (spec_l01Digit _ _).mono ?_
  rintro e w2 ⟨rfl, rfl⟩
  rw [gx]
  go_wp2_with fail
  refine (spec_l01Digit _ _).mono ?_
  rintro e w2 ⟨rfl, rfl⟩
  rw [gy]
  go_wp2_with fail
  refine (HM.out _).mono ?_
  rintro e w2 ⟨rfl, hb2⟩
  have c1 := cell_on c1 hb2 hg
  have hB := below_then hB hb2
  go_wp2_with fail
  refine (l00In_r m 0 20 _ hin _).mono ?_
  rintro e w3 ⟨rfl, rfl⟩
  go_wp2_with fail
  go_ret2
  exact ⟨by rw [HR.out]; rfl, hB⟩
set_option maxHeartbeats 2000000 in
set_option maxRecDepth 100000 in
set_option linter.unusedSimpArgs false in
theorem spec_rlm4 (l mid : List UInt8) (x0 xl : UInt8) (N : Nat) (w : World) (hF : LF l mid x0 xl N)
    (HR : Hid (rl l = none)) (h6 : ¬ (N : Int) + 1 < 6) (hm : ((xl.toNat : Int) != 109) = false) (h4 : ((x0.toNat : Int) != 43) = true ∧ ((x0.toNat : Int) != 45) = false ∧ ((x0.toNat : Int) == 45) = true) (ws : List (List UInt8)) (hw : ws.length ≠ 2) (HC : Hid (∀ W : World, Calls Tryz.prog 9 #[.string (bs mid), .int .u8 46] W fun e w' => ∃ v, e = .returned v ∧ Own w' W.heap.size 9 1 scl v (ws.map bs) ∧ Below W.heap.size W w'))  : Calls Tryz.prog 10 #[.string (bs l)] w fun e w' => e = .returned (.tuple #[.int .i64 ((rl l).getD 0), .bool (rl l).isSome]) ∧ Below w.heap.size w w' := by
  obtain ⟨hsz, hg0, hgN, hex, hls, hN⟩ := hF
  obtain ⟨h43, h45, h45e⟩ := h4
  go_enter Tryz.func10, Tryz.ntmps10
  have hN1 : (1 : Int) ≤ (N : Int) := by omega
  go_wp2_with fail
  refine (HC.out _).mono ?_
  rintro e w1 ⟨v, rfl, ho, hB⟩
  obtain ⟨A, n, c, rfl, hl, _⟩ := own_shape ho
  rw [List.length_map] at hl
  have hn2 : ¬ (n : Int) = 2 := by omega
  clear ho
  go_wp2_with fail
  go_ret2
  exact ⟨by rw [HR.out]; rfl, hB⟩
set_option maxHeartbeats 2000000 in
set_option maxRecDepth 100000 in
set_option linter.unusedSimpArgs false in
theorem spec_rlm5 (l mid : List UInt8) (x0 xl : UInt8) (N : Nat) (w : World) (hF : LF l mid x0 xl N)
    (HR : Hid (rl l = none)) (h6 : ¬ (N : Int) + 1 < 6) (hm : ((xl.toNat : Int) != 109) = false) (h4 : ((x0.toNat : Int) != 43) = true ∧ ((x0.toNat : Int) != 45) = false ∧ ((x0.toNat : Int) == 45) = true) (p q : List UInt8) (k : Nat) (hk : (bs q).size = k) (hk2 : ¬ (k : Int) = 2) (HC : Hid (∀ W : World, Calls Tryz.prog 9 #[.string (bs mid), .int .u8 46] W fun e w' => ∃ v, e = .returned v ∧ Own w' W.heap.size 9 1 scl v ([bs p, bs q]) ∧ Below W.heap.size W w'))  : Calls Tryz.prog 10 #[.string (bs l)] w fun e w' => e = .returned (.tuple #[.int .i64 ((rl l).getD 0), .bool (rl l).isSome]) ∧ Below w.heap.size w w' := by
  obtain ⟨hsz, hg0, hgN, hex, hls, hN⟩ := hF
  obtain ⟨h43, h45, h45e⟩ := h4
  go_enter Tryz.func10, Tryz.ntmps10
  have hN1 : (1 : Int) ≤ (N : Int) := by omega
  go_wp2_with fail
  refine (HC.out _).mono ?_
  rintro e w1 ⟨v, rfl, ho, hB⟩
  obtain ⟨g, c, rfl, hgb, hg, hh⟩ := own_cells ho scl_len rfl (by decide : 0 < 2)
  clear ho
  have c0 := hh.s0 (k := 0) rfl
  have c1 := hh.s0 (k := 1) rfl
  clear hh
  go_wp2_with fail
  go_ret2
  exact ⟨by rw [HR.out]; rfl, hB⟩
set_option maxHeartbeats 2000000 in
set_option maxRecDepth 100000 in
set_option linter.unusedSimpArgs false in
theorem spec_rlm6 (l mid : List UInt8) (x0 xl : UInt8) (N : Nat) (w : World) (hF : LF l mid x0 xl N)
    (HR : Hid (rl l = none)) (h6 : ¬ (N : Int) + 1 < 6) (hm : ((xl.toNat : Int) != 109) = false) (h4 : ((x0.toNat : Int) != 43) = true ∧ ((x0.toNat : Int) != 45) = false ∧ ((x0.toNat : Int) == 45) = true) (p : List UInt8) (x y : UInt8) (gx : inR (x.toNat : Int) 48 57 = false) (HC : Hid (∀ W : World, Calls Tryz.prog 9 #[.string (bs mid), .int .u8 46] W fun e w' => ∃ v, e = .returned v ∧ Own w' W.heap.size 9 1 scl v ([bs p, bs [x, y]]) ∧ Below W.heap.size W w'))  : Calls Tryz.prog 10 #[.string (bs l)] w fun e w' => e = .returned (.tuple #[.int .i64 ((rl l).getD 0), .bool (rl l).isSome]) ∧ Below w.heap.size w w' := by
  obtain ⟨hsz, hg0, hgN, hex, hls, hN⟩ := hF
  have hq2 : (bs [x, y]).size = 2 := rfl
  have hgx : ∀ h, (bs [x, y])[0]'h = x := fun _ => rfl
  have hgy : ∀ h, (bs [x, y])[1]'h = y := fun _ => rfl
  obtain ⟨h43, h45, h45e⟩ := h4
  go_enter Tryz.func10, Tryz.ntmps10
  have hN1 : (1 : Int) ≤ (N : Int) := by omega
  go_wp2_with fail
  refine (HC.out _).mono ?_
  rintro e w1 ⟨v, rfl, ho, hB⟩
  obtain ⟨g, c, rfl, hgb, hg, hh⟩ := own_cells ho scl_len rfl (by decide : 0 < 2)
  clear ho
  have c0 := hh.s0 (k := 0) rfl
  have c1 := hh.s0 (k := 1) rfl
  clear hh
  go_wp2_with fail
  refine (spec_l01Digit _ _).mono ?_
  rintro e w2 ⟨rfl, rfl⟩
  rw [gx]
  go_wp2_with fail
  go_ret2
  exact ⟨by rw [HR.out]; rfl, hB⟩
set_option maxHeartbeats 2000000 in
set_option maxRecDepth 100000 in
set_option linter.unusedSimpArgs false in
theorem spec_rlm7 (l mid : List UInt8) (x0 xl : UInt8) (N : Nat) (w : World) (hF : LF l mid x0 xl N)
    (HR : Hid (rl l = none)) (h6 : ¬ (N : Int) + 1 < 6) (hm : ((xl.toNat : Int) != 109) = false) (h4 : ((x0.toNat : Int) != 43) = true ∧ ((x0.toNat : Int) != 45) = false ∧ ((x0.toNat : Int) == 45) = true) (p : List UInt8) (x y : UInt8) (gx : inR (x.toNat : Int) 48 57 = true) (gy : inR (y.toNat : Int) 48 57 = false) (HC : Hid (∀ W : World, Calls Tryz.prog 9 #[.string (bs mid), .int .u8 46] W fun e w' => ∃ v, e = .returned v ∧ Own w' W.heap.size 9 1 scl v ([bs p, bs [x, y]]) ∧ Below W.heap.size W w'))  : Calls Tryz.prog 10 #[.string (bs l)] w fun e w' => e = .returned (.tuple #[.int .i64 ((rl l).getD 0), .bool (rl l).isSome]) ∧ Below w.heap.size w w' := by
  obtain ⟨hsz, hg0, hgN, hex, hls, hN⟩ := hF
  have hq2 : (bs [x, y]).size = 2 := rfl
  have hgx : ∀ h, (bs [x, y])[0]'h = x := fun _ => rfl
  have hgy : ∀ h, (bs [x, y])[1]'h = y := fun _ => rfl
  obtain ⟨h43, h45, h45e⟩ := h4
  go_enter Tryz.func10, Tryz.ntmps10
  have hN1 : (1 : Int) ≤ (N : Int) := by omega
  go_wp2_with fail
  refine (HC.out _).mono ?_
  rintro e w1 ⟨v, rfl, ho, hB⟩
  obtain ⟨g, c, rfl, hgb, hg, hh⟩ := own_cells ho scl_len rfl (by decide : 0 < 2)
  clear ho
  have c0 := hh.s0 (k := 0) rfl
  have c1 := hh.s0 (k := 1) rfl
  clear hh
  go_wp2_with fail
  refine (spec_l01Digit _ _).mono ?_
  rintro e w2 ⟨rfl, rfl⟩
  rw [gx]
  go_wp2_with fail
  refine (spec_l01Digit _ _).mono ?_
  rintro e w2 ⟨rfl, rfl⟩
  rw [gy]
  go_wp2_with fail
  go_ret2
  exact ⟨by rw [HR.out]; rfl, hB⟩
set_option maxHeartbeats 2000000 in
set_option maxRecDepth 100000 in
set_option linter.unusedSimpArgs false in
theorem spec_rlm8 (l mid : List UInt8) (x0 xl : UInt8) (N : Nat) (w : World) (hF : LF l mid x0 xl N)
    (HR : Hid (rl l = none)) (h6 : ¬ (N : Int) + 1 < 6) (hm : ((xl.toNat : Int) != 109) = false) (h4 : ((x0.toNat : Int) != 43) = true ∧ ((x0.toNat : Int) != 45) = false ∧ ((x0.toNat : Int) == 45) = true) (p : List UInt8) (x y : UInt8) (gx : inR (x.toNat : Int) 48 57 = true) (gy : inR (y.toNat : Int) 48 57 = true) (HC : Hid (∀ W : World, Calls Tryz.prog 9 #[.string (bs mid), .int .u8 46] W fun e w' => ∃ v, e = .returned v ∧ Own w' W.heap.size 9 1 scl v ([bs p, bs [x, y]]) ∧ Below W.heap.size W w')) (HM : Hid (∀ W : World, Calls Tryz.prog 16 #[.string (bs p)] W fun e w' => e = .returned (.tuple #[.int .i64 (0), .bool false]) ∧ Below W.heap.size W w'))  : Calls Tryz.prog 10 #[.string (bs l)] w fun e w' => e = .returned (.tuple #[.int .i64 ((rl l).getD 0), .bool (rl l).isSome]) ∧ Below w.heap.size w w' := by
  obtain ⟨hsz, hg0, hgN, hex, hls, hN⟩ := hF
  have hq2 : (bs [x, y]).size = 2 := rfl
  have hgx : ∀ h, (bs [x, y])[0]'h = x := fun _ => rfl
  have hgy : ∀ h, (bs [x, y])[1]'h = y := fun _ => rfl
  obtain ⟨h43, h45, h45e⟩ := h4
  go_enter Tryz.func10, Tryz.ntmps10
  have hN1 : (1 : Int) ≤ (N : Int) := by omega
  go_wp2_with fail
  refine (HC.out _).mono ?_
  rintro e w1 ⟨v, rfl, ho, hB⟩
  obtain ⟨g, c, rfl, hgb, hg, hh⟩ := own_cells ho scl_len rfl (by decide : 0 < 2)
  clear ho
  have c0 := hh.s0 (k := 0) rfl
  have c1 := hh.s0 (k := 1) rfl
  clear hh
  go_wp2_with fail
  refine (spec_l01Digit _ _).mono ?_
  rintro e w2 ⟨rfl, rfl⟩
  rw [gx]
  go_wp2_with fail
  refine (spec_l01Digit _ _).mono ?_
  rintro e w2 ⟨rfl, rfl⟩
  rw [gy]
  go_wp2_with fail
  refine (HM.out _).mono ?_
  rintro e w2 ⟨rfl, hb2⟩
  have c1 := cell_on c1 hb2 hg
  have hB := below_then hB hb2
  go_wp2_with fail
  go_ret2
  exact ⟨by rw [HR.out]; rfl, hB⟩
set_option maxHeartbeats 2000000 in
set_option maxRecDepth 100000 in
set_option linter.unusedSimpArgs false in
theorem spec_rlm9 (l mid : List UInt8) (x0 xl : UInt8) (N : Nat) (w : World) (hF : LF l mid x0 xl N)
    (HR : Hid (rl l = none)) (h6 : ¬ (N : Int) + 1 < 6) (hm : ((xl.toNat : Int) != 109) = false) (h4 : ((x0.toNat : Int) != 43) = true ∧ ((x0.toNat : Int) != 45) = false ∧ ((x0.toNat : Int) == 45) = true) (p : List UInt8) (x y : UInt8) (m : Int) (hin : inR m 0 20 = false) (gx : inR (x.toNat : Int) 48 57 = true) (gy : inR (y.toNat : Int) 48 57 = true) (HC : Hid (∀ W : World, Calls Tryz.prog 9 #[.string (bs mid), .int .u8 46] W fun e w' => ∃ v, e = .returned v ∧ Own w' W.heap.size 9 1 scl v ([bs p, bs [x, y]]) ∧ Below W.heap.size W w')) (HM : Hid (∀ W : World, Calls Tryz.prog 16 #[.string (bs p)] W fun e w' => e = .returned (.tuple #[.int .i64 (m), .bool true]) ∧ Below W.heap.size W w'))  : Calls Tryz.prog 10 #[.string (bs l)] w fun e w' => e = .returned (.tuple #[.int .i64 ((rl l).getD 0), .bool (rl l).isSome]) ∧ Below w.heap.size w w' := by
  obtain ⟨hsz, hg0, hgN, hex, hls, hN⟩ := hF
  have hq2 : (bs [x, y]).size = 2 := rfl
  have hgx : ∀ h, (bs [x, y])[0]'h = x := fun _ => rfl
  have hgy : ∀ h, (bs [x, y])[1]'h = y := fun _ => rfl
  obtain ⟨h43, h45, h45e⟩ := h4
  go_enter Tryz.func10, Tryz.ntmps10
  have hN1 : (1 : Int) ≤ (N : Int) := by omega
  go_wp2_with fail
  refine (HC.out _).mono ?_
  rintro e w1 ⟨v, rfl, ho, hB⟩
  obtain ⟨g, c, rfl, hgb, hg, hh⟩ := own_cells ho scl_len rfl (by decide : 0 < 2)
  clear ho
  have c0 := hh.s0 (k := 0) rfl
  have c1 := hh.s0 (k := 1) rfl
  clear hh
  go_wp2_with fail
  refine (spec_l01Digit _ _).mono ?_
  rintro e w2 ⟨rfl, rfl⟩
  rw [gx]
  go_wp2_with fail
  refine (spec_l01Digit _ _).mono ?_
  rintro e w2 ⟨rfl, rfl⟩
  rw [gy]
  go_wp2_with fail
  refine (HM.out _).mono ?_
  rintro e w2 ⟨rfl, hb2⟩
  have c1 := cell_on c1 hb2 hg
  have hB := below_then hB hb2
  go_wp2_with fail
  refine (l00In_r m 0 20 _ hin _).mono ?_
  rintro e w3 ⟨rfl, rfl⟩
  go_wp2_with fail
  go_ret2
  exact ⟨by rw [HR.out]; rfl, hB⟩
set_option maxHeartbeats 2000000 in
set_option maxRecDepth 100000 in
set_option linter.unusedSimpArgs false in
theorem spec_rlpa (l mid : List UInt8) (x0 xl : UInt8) (N : Nat) (w : World) (hF : LF l mid x0 xl N)
    (HR : Hid (rl l = none)) (h6 : ¬ (N : Int) + 1 < 6) (hm : ((xl.toNat : Int) != 109) = false) (h4 : ((x0.toNat : Int) != 43) = false ∧ ((x0.toNat : Int) == 45) = false) (p : List UInt8) (x y : UInt8) (m n : Int) (hin : inR m 0 20 = true) (hn : 100 * m + 10 * ((x.toNat : Int) - 48) + ((y.toNat : Int) - 48) = n) (hlv : lvl n = false) (gx : inR (x.toNat : Int) 48 57 = true) (gy : inR (y.toNat : Int) 48 57 = true) (HC : Hid (∀ W : World, Calls Tryz.prog 9 #[.string (bs mid), .int .u8 46] W fun e w' => ∃ v, e = .returned v ∧ Own w' W.heap.size 9 1 scl v ([bs p, bs [x, y]]) ∧ Below W.heap.size W w')) (HM : Hid (∀ W : World, Calls Tryz.prog 16 #[.string (bs p)] W fun e w' => e = .returned (.tuple #[.int .i64 (m), .bool true]) ∧ Below W.heap.size W w'))  : Calls Tryz.prog 10 #[.string (bs l)] w fun e w' => e = .returned (.tuple #[.int .i64 ((rl l).getD 0), .bool (rl l).isSome]) ∧ Below w.heap.size w w' := by
  obtain ⟨hsz, hg0, hgN, hex, hls, hN⟩ := hF
  have hq2 : (bs [x, y]).size = 2 := rfl
  have hgx : ∀ h, (bs [x, y])[0]'h = x := fun _ => rfl
  have hgy : ∀ h, (bs [x, y])[1]'h = y := fun _ => rfl
  have bx := inR_iff.1 gx
  have by_ := inR_iff.1 gy
  have bm := inR_iff.1 hin
  obtain ⟨h43, h45⟩ := h4
  go_enter Tryz.func10, Tryz.ntmps10
  have hN1 : (1 : Int) ≤ (N : Int) := by omega
  go_wp2_with fail
  refine (HC.out _).mono ?_
  rintro e w1 ⟨v, rfl, ho, hB⟩
  obtain ⟨g, c, rfl, hgb, hg, hh⟩ := own_cells ho scl_len rfl (by decide : 0 < 2)
  clear ho
  have c0 := hh.s0 (k := 0) rfl
  have c1 := hh.s0 (k := 1) rfl
  clear hh
  go_wp2_with fail
  refine (spec_l01Digit _ _).mono ?_
  rintro e w2 ⟨rfl, rfl⟩
  rw [gx]
  go_wp2_with fail
  refine (spec_l01Digit _ _).mono ?_
  rintro e w2 ⟨rfl, rfl⟩
  rw [gy]
  go_wp2_with fail
  refine (HM.out _).mono ?_
  rintro e w2 ⟨rfl, hb2⟩
  have c1 := cell_on c1 hb2 hg
  have hB := below_then hB hb2
  go_wp2_with fail
  refine (l00In_r m 0 20 _ hin _).mono ?_
  rintro e w3 ⟨rfl, rfl⟩
  go_wp2_with fail
  go_region
  go_wp2_with fail
  refine (spec_l02Level n _).mono ?_
  rintro e w4 ⟨rfl, rfl⟩
  rw [hlv]
  go_wp2_with fail
  go_ret2
  exact ⟨by rw [HR.out]; rfl, below_dr hB⟩
set_option maxHeartbeats 2000000 in
set_option maxRecDepth 100000 in
set_option linter.unusedSimpArgs false in
theorem spec_rlpb (l mid : List UInt8) (x0 xl : UInt8) (N : Nat) (w : World) (hF : LF l mid x0 xl N)
    (HR : Hid (rl l = none)) (h6 : ¬ (N : Int) + 1 < 6) (hm : ((xl.toNat : Int) != 109) = false) (h4 : ((x0.toNat : Int) != 43) = false ∧ ((x0.toNat : Int) == 45) = false) (p : List UInt8) (x y : UInt8) (m n : Int) (hin : inR m 0 20 = true) (hn : 100 * m + 10 * ((x.toNat : Int) - 48) + ((y.toNat : Int) - 48) = n) (hlv : lvl n = true) (gx : inR (x.toNat : Int) 48 57 = true) (gy : inR (y.toNat : Int) 48 57 = true) (HC : Hid (∀ W : World, Calls Tryz.prog 9 #[.string (bs mid), .int .u8 46] W fun e w' => ∃ v, e = .returned v ∧ Own w' W.heap.size 9 1 scl v ([bs p, bs [x, y]]) ∧ Below W.heap.size W w')) (HM : Hid (∀ W : World, Calls Tryz.prog 16 #[.string (bs p)] W fun e w' => e = .returned (.tuple #[.int .i64 (m), .bool true]) ∧ Below W.heap.size W w')) (Hst : Hid (((bs (lvL n)).toList == (bs l).toList) = false))  : Calls Tryz.prog 10 #[.string (bs l)] w fun e w' => e = .returned (.tuple #[.int .i64 ((rl l).getD 0), .bool (rl l).isSome]) ∧ Below w.heap.size w w' := by
  obtain ⟨hsz, hg0, hgN, hex, hls, hN⟩ := hF
  have hq2 : (bs [x, y]).size = 2 := rfl
  have hgx : ∀ h, (bs [x, y])[0]'h = x := fun _ => rfl
  have hgy : ∀ h, (bs [x, y])[1]'h = y := fun _ => rfl
  have bx := inR_iff.1 gx
  have by_ := inR_iff.1 gy
  have bm := inR_iff.1 hin
  obtain ⟨h43, h45⟩ := h4
  go_enter Tryz.func10, Tryz.ntmps10
  have hN1 : (1 : Int) ≤ (N : Int) := by omega
  go_wp2_with fail
  refine (HC.out _).mono ?_
  rintro e w1 ⟨v, rfl, ho, hB⟩
  obtain ⟨g, c, rfl, hgb, hg, hh⟩ := own_cells ho scl_len rfl (by decide : 0 < 2)
  clear ho
  have c0 := hh.s0 (k := 0) rfl
  have c1 := hh.s0 (k := 1) rfl
  clear hh
  go_wp2_with fail
  refine (spec_l01Digit _ _).mono ?_
  rintro e w2 ⟨rfl, rfl⟩
  rw [gx]
  go_wp2_with fail
  refine (spec_l01Digit _ _).mono ?_
  rintro e w2 ⟨rfl, rfl⟩
  rw [gy]
  go_wp2_with fail
  refine (HM.out _).mono ?_
  rintro e w2 ⟨rfl, hb2⟩
  have c1 := cell_on c1 hb2 hg
  have hB := below_then hB hb2
  go_wp2_with fail
  refine (l00In_r m 0 20 _ hin _).mono ?_
  rintro e w3 ⟨rfl, rfl⟩
  go_wp2_with fail
  go_region
  go_wp2_with fail
  refine (spec_l02Level n _).mono ?_
  rintro e w4 ⟨rfl, rfl⟩
  rw [hlv]
  go_wp2_with fail
  refine (spec_l02Text n hlv _).mono ?_
  rintro e w5 ⟨rfl, hb5⟩
  have hst := Hst.out
  try rw [hls] at hst
  go_wp2_with fail
  go_ret2
  exact ⟨by rw [HR.out]; rfl, below_then (below_dr hB) hb5⟩
set_option maxHeartbeats 2000000 in
set_option maxRecDepth 100000 in
set_option linter.unusedSimpArgs false in
theorem spec_rlpc (l mid : List UInt8) (x0 xl : UInt8) (N : Nat) (w : World) (hF : LF l mid x0 xl N)
    (h6 : ¬ (N : Int) + 1 < 6) (hm : ((xl.toNat : Int) != 109) = false) (h4 : ((x0.toNat : Int) != 43) = false ∧ ((x0.toNat : Int) == 45) = false) (p : List UInt8) (x y : UInt8) (m n : Int) (hin : inR m 0 20 = true) (hn : 100 * m + 10 * ((x.toNat : Int) - 48) + ((y.toNat : Int) - 48) = n) (hlv : lvl n = true) (HR : Hid (rl l = some n)) (gx : inR (x.toNat : Int) 48 57 = true) (gy : inR (y.toNat : Int) 48 57 = true) (HC : Hid (∀ W : World, Calls Tryz.prog 9 #[.string (bs mid), .int .u8 46] W fun e w' => ∃ v, e = .returned v ∧ Own w' W.heap.size 9 1 scl v ([bs p, bs [x, y]]) ∧ Below W.heap.size W w')) (HM : Hid (∀ W : World, Calls Tryz.prog 16 #[.string (bs p)] W fun e w' => e = .returned (.tuple #[.int .i64 (m), .bool true]) ∧ Below W.heap.size W w')) (Hst : Hid (((bs (lvL n)).toList == (bs l).toList) = true))  : Calls Tryz.prog 10 #[.string (bs l)] w fun e w' => e = .returned (.tuple #[.int .i64 ((rl l).getD 0), .bool (rl l).isSome]) ∧ Below w.heap.size w w' := by
  obtain ⟨hsz, hg0, hgN, hex, hls, hN⟩ := hF
  have hq2 : (bs [x, y]).size = 2 := rfl
  have hgx : ∀ h, (bs [x, y])[0]'h = x := fun _ => rfl
  have hgy : ∀ h, (bs [x, y])[1]'h = y := fun _ => rfl
  have bx := inR_iff.1 gx
  have by_ := inR_iff.1 gy
  have bm := inR_iff.1 hin
  obtain ⟨h43, h45⟩ := h4
  go_enter Tryz.func10, Tryz.ntmps10
  have hN1 : (1 : Int) ≤ (N : Int) := by omega
  go_wp2_with fail
  refine (HC.out _).mono ?_
  rintro e w1 ⟨v, rfl, ho, hB⟩
  obtain ⟨g, c, rfl, hgb, hg, hh⟩ := own_cells ho scl_len rfl (by decide : 0 < 2)
  clear ho
  have c0 := hh.s0 (k := 0) rfl
  have c1 := hh.s0 (k := 1) rfl
  clear hh
  go_wp2_with fail
  refine (spec_l01Digit _ _).mono ?_
  rintro e w2 ⟨rfl, rfl⟩
  rw [gx]
  go_wp2_with fail
  refine (spec_l01Digit _ _).mono ?_
  rintro e w2 ⟨rfl, rfl⟩
  rw [gy]
  go_wp2_with fail
  refine (HM.out _).mono ?_
  rintro e w2 ⟨rfl, hb2⟩
  have c1 := cell_on c1 hb2 hg
  have hB := below_then hB hb2
  go_wp2_with fail
  refine (l00In_r m 0 20 _ hin _).mono ?_
  rintro e w3 ⟨rfl, rfl⟩
  go_wp2_with fail
  go_region
  go_wp2_with fail
  refine (spec_l02Level n _).mono ?_
  rintro e w4 ⟨rfl, rfl⟩
  rw [hlv]
  go_wp2_with fail
  refine (spec_l02Text n hlv _).mono ?_
  rintro e w5 ⟨rfl, hb5⟩
  have hst := Hst.out
  try rw [hls] at hst
  go_wp2_with fail
  go_ret2
  exact ⟨by rw [HR.out]; rfl, below_then (below_dr hB) hb5⟩
set_option maxHeartbeats 2000000 in
set_option maxRecDepth 100000 in
set_option linter.unusedSimpArgs false in
theorem spec_rlma (l mid : List UInt8) (x0 xl : UInt8) (N : Nat) (w : World) (hF : LF l mid x0 xl N)
    (HR : Hid (rl l = none)) (h6 : ¬ (N : Int) + 1 < 6) (hm : ((xl.toNat : Int) != 109) = false) (h4 : ((x0.toNat : Int) != 43) = true ∧ ((x0.toNat : Int) != 45) = false ∧ ((x0.toNat : Int) == 45) = true) (p : List UInt8) (x y : UInt8) (m n : Int) (hin : inR m 0 20 = true) (hn : 100 * m + 10 * ((x.toNat : Int) - 48) + ((y.toNat : Int) - 48) = -n) (hlv : lvl n = false) (gx : inR (x.toNat : Int) 48 57 = true) (gy : inR (y.toNat : Int) 48 57 = true) (HC : Hid (∀ W : World, Calls Tryz.prog 9 #[.string (bs mid), .int .u8 46] W fun e w' => ∃ v, e = .returned v ∧ Own w' W.heap.size 9 1 scl v ([bs p, bs [x, y]]) ∧ Below W.heap.size W w')) (HM : Hid (∀ W : World, Calls Tryz.prog 16 #[.string (bs p)] W fun e w' => e = .returned (.tuple #[.int .i64 (m), .bool true]) ∧ Below W.heap.size W w'))  : Calls Tryz.prog 10 #[.string (bs l)] w fun e w' => e = .returned (.tuple #[.int .i64 ((rl l).getD 0), .bool (rl l).isSome]) ∧ Below w.heap.size w w' := by
  obtain ⟨hsz, hg0, hgN, hex, hls, hN⟩ := hF
  have hq2 : (bs [x, y]).size = 2 := rfl
  have hgx : ∀ h, (bs [x, y])[0]'h = x := fun _ => rfl
  have hgy : ∀ h, (bs [x, y])[1]'h = y := fun _ => rfl
  have bx := inR_iff.1 gx
  have by_ := inR_iff.1 gy
  have bm := inR_iff.1 hin
  have hnn : - -n = n := by omega
  have bn := hn
  obtain ⟨h43, h45, h45e⟩ := h4
  go_enter Tryz.func10, Tryz.ntmps10
  have hN1 : (1 : Int) ≤ (N : Int) := by omega
  go_wp2_with fail
  refine (HC.out _).mono ?_
  rintro e w1 ⟨v, rfl, ho, hB⟩
  obtain ⟨g, c, rfl, hgb, hg, hh⟩ := own_cells ho scl_len rfl (by decide : 0 < 2)
  clear ho
  have c0 := hh.s0 (k := 0) rfl
  have c1 := hh.s0 (k := 1) rfl
  clear hh
  go_wp2_with fail
  refine (spec_l01Digit _ _).mono ?_
  rintro e w2 ⟨rfl, rfl⟩
  rw [gx]
  go_wp2_with fail
  refine (spec_l01Digit _ _).mono ?_
  rintro e w2 ⟨rfl, rfl⟩
  rw [gy]
  go_wp2_with fail
  refine (HM.out _).mono ?_
  rintro e w2 ⟨rfl, hb2⟩
  have c1 := cell_on c1 hb2 hg
  have hB := below_then hB hb2
  go_wp2_with fail
  refine (l00In_r m 0 20 _ hin _).mono ?_
  rintro e w3 ⟨rfl, rfl⟩
  go_wp2_with fail
  go_region
  go_wp2_with fail
  refine (spec_l02Level n _).mono ?_
  rintro e w4 ⟨rfl, rfl⟩
  rw [hlv]
  go_wp2_with fail
  go_ret2
  exact ⟨by rw [HR.out]; rfl, below_dr hB⟩
set_option maxHeartbeats 2000000 in
set_option maxRecDepth 100000 in
set_option linter.unusedSimpArgs false in
theorem spec_rlmb (l mid : List UInt8) (x0 xl : UInt8) (N : Nat) (w : World) (hF : LF l mid x0 xl N)
    (HR : Hid (rl l = none)) (h6 : ¬ (N : Int) + 1 < 6) (hm : ((xl.toNat : Int) != 109) = false) (h4 : ((x0.toNat : Int) != 43) = true ∧ ((x0.toNat : Int) != 45) = false ∧ ((x0.toNat : Int) == 45) = true) (p : List UInt8) (x y : UInt8) (m n : Int) (hin : inR m 0 20 = true) (hn : 100 * m + 10 * ((x.toNat : Int) - 48) + ((y.toNat : Int) - 48) = -n) (hlv : lvl n = true) (gx : inR (x.toNat : Int) 48 57 = true) (gy : inR (y.toNat : Int) 48 57 = true) (HC : Hid (∀ W : World, Calls Tryz.prog 9 #[.string (bs mid), .int .u8 46] W fun e w' => ∃ v, e = .returned v ∧ Own w' W.heap.size 9 1 scl v ([bs p, bs [x, y]]) ∧ Below W.heap.size W w')) (HM : Hid (∀ W : World, Calls Tryz.prog 16 #[.string (bs p)] W fun e w' => e = .returned (.tuple #[.int .i64 (m), .bool true]) ∧ Below W.heap.size W w')) (Hst : Hid (((bs (lvL n)).toList == (bs l).toList) = false))  : Calls Tryz.prog 10 #[.string (bs l)] w fun e w' => e = .returned (.tuple #[.int .i64 ((rl l).getD 0), .bool (rl l).isSome]) ∧ Below w.heap.size w w' := by
  obtain ⟨hsz, hg0, hgN, hex, hls, hN⟩ := hF
  have hq2 : (bs [x, y]).size = 2 := rfl
  have hgx : ∀ h, (bs [x, y])[0]'h = x := fun _ => rfl
  have hgy : ∀ h, (bs [x, y])[1]'h = y := fun _ => rfl
  have bx := inR_iff.1 gx
  have by_ := inR_iff.1 gy
  have bm := inR_iff.1 hin
  have hnn : - -n = n := by omega
  have bn := hn
  obtain ⟨h43, h45, h45e⟩ := h4
  go_enter Tryz.func10, Tryz.ntmps10
  have hN1 : (1 : Int) ≤ (N : Int) := by omega
  go_wp2_with fail
  refine (HC.out _).mono ?_
  rintro e w1 ⟨v, rfl, ho, hB⟩
  obtain ⟨g, c, rfl, hgb, hg, hh⟩ := own_cells ho scl_len rfl (by decide : 0 < 2)
  clear ho
  have c0 := hh.s0 (k := 0) rfl
  have c1 := hh.s0 (k := 1) rfl
  clear hh
  go_wp2_with fail
  refine (spec_l01Digit _ _).mono ?_
  rintro e w2 ⟨rfl, rfl⟩
  rw [gx]
  go_wp2_with fail
  refine (spec_l01Digit _ _).mono ?_
  rintro e w2 ⟨rfl, rfl⟩
  rw [gy]
  go_wp2_with fail
  refine (HM.out _).mono ?_
  rintro e w2 ⟨rfl, hb2⟩
  have c1 := cell_on c1 hb2 hg
  have hB := below_then hB hb2
  go_wp2_with fail
  refine (l00In_r m 0 20 _ hin _).mono ?_
  rintro e w3 ⟨rfl, rfl⟩
  go_wp2_with fail
  go_region
  go_wp2_with fail
  refine (spec_l02Level n _).mono ?_
  rintro e w4 ⟨rfl, rfl⟩
  rw [hlv]
  go_wp2_with fail
  refine (spec_l02Text n hlv _).mono ?_
  rintro e w5 ⟨rfl, hb5⟩
  have hst := Hst.out
  try rw [hls] at hst
  go_wp2_with fail
  go_ret2
  exact ⟨by rw [HR.out]; rfl, below_then (below_dr hB) hb5⟩
set_option maxHeartbeats 2000000 in
set_option maxRecDepth 100000 in
set_option linter.unusedSimpArgs false in
theorem spec_rlmc (l mid : List UInt8) (x0 xl : UInt8) (N : Nat) (w : World) (hF : LF l mid x0 xl N)
    (h6 : ¬ (N : Int) + 1 < 6) (hm : ((xl.toNat : Int) != 109) = false) (h4 : ((x0.toNat : Int) != 43) = true ∧ ((x0.toNat : Int) != 45) = false ∧ ((x0.toNat : Int) == 45) = true) (p : List UInt8) (x y : UInt8) (m n : Int) (hin : inR m 0 20 = true) (hn : 100 * m + 10 * ((x.toNat : Int) - 48) + ((y.toNat : Int) - 48) = -n) (hlv : lvl n = true) (HR : Hid (rl l = some n)) (gx : inR (x.toNat : Int) 48 57 = true) (gy : inR (y.toNat : Int) 48 57 = true) (HC : Hid (∀ W : World, Calls Tryz.prog 9 #[.string (bs mid), .int .u8 46] W fun e w' => ∃ v, e = .returned v ∧ Own w' W.heap.size 9 1 scl v ([bs p, bs [x, y]]) ∧ Below W.heap.size W w')) (HM : Hid (∀ W : World, Calls Tryz.prog 16 #[.string (bs p)] W fun e w' => e = .returned (.tuple #[.int .i64 (m), .bool true]) ∧ Below W.heap.size W w')) (Hst : Hid (((bs (lvL n)).toList == (bs l).toList) = true))  : Calls Tryz.prog 10 #[.string (bs l)] w fun e w' => e = .returned (.tuple #[.int .i64 ((rl l).getD 0), .bool (rl l).isSome]) ∧ Below w.heap.size w w' := by
  obtain ⟨hsz, hg0, hgN, hex, hls, hN⟩ := hF
  have hq2 : (bs [x, y]).size = 2 := rfl
  have hgx : ∀ h, (bs [x, y])[0]'h = x := fun _ => rfl
  have hgy : ∀ h, (bs [x, y])[1]'h = y := fun _ => rfl
  have bx := inR_iff.1 gx
  have by_ := inR_iff.1 gy
  have bm := inR_iff.1 hin
  have hnn : - -n = n := by omega
  have bn := hn
  obtain ⟨h43, h45, h45e⟩ := h4
  go_enter Tryz.func10, Tryz.ntmps10
  have hN1 : (1 : Int) ≤ (N : Int) := by omega
  go_wp2_with fail
  refine (HC.out _).mono ?_
  rintro e w1 ⟨v, rfl, ho, hB⟩
  obtain ⟨g, c, rfl, hgb, hg, hh⟩ := own_cells ho scl_len rfl (by decide : 0 < 2)
  clear ho
  have c0 := hh.s0 (k := 0) rfl
  have c1 := hh.s0 (k := 1) rfl
  clear hh
  go_wp2_with fail
  refine (spec_l01Digit _ _).mono ?_
  rintro e w2 ⟨rfl, rfl⟩
  rw [gx]
  go_wp2_with fail
  refine (spec_l01Digit _ _).mono ?_
  rintro e w2 ⟨rfl, rfl⟩
  rw [gy]
  go_wp2_with fail
  refine (HM.out _).mono ?_
  rintro e w2 ⟨rfl, hb2⟩
  have c1 := cell_on c1 hb2 hg
  have hB := below_then hB hb2
  go_wp2_with fail
  refine (l00In_r m 0 20 _ hin _).mono ?_
  rintro e w3 ⟨rfl, rfl⟩
  go_wp2_with fail
  go_region
  go_wp2_with fail
  refine (spec_l02Level n _).mono ?_
  rintro e w4 ⟨rfl, rfl⟩
  rw [hlv]
  go_wp2_with fail
  refine (spec_l02Text n hlv _).mono ?_
  rintro e w5 ⟨rfl, hb5⟩
  have hst := Hst.out
  try rw [hls] at hst
  go_wp2_with fail
  go_ret2
  exact ⟨by rw [HR.out]; rfl, below_then (below_dr hB) hb5⟩

end Go.Proofs.YtgbblcbpmpokdaaGreatDoor

/- Walks over functions of this seat, by contract. Conditions: those that each theorem states. -/
import Derived.Test.YtjnbdmpgkbbmmaaDoorR4
namespace Go.Proofs.YtjnbdmpgkbbmmaaDoor
open Go.RowKit Go.Sort

theorem own_cells {w : World} {base E sz n : Nat} {α : Type} {f : α → List Value} {v : Value} {es : List α} (h : Own w base E sz f v es) (hf : ∀ e, (f e).length = sz) (hl : es.length = n) (hn : 0 < n) :
    ∃ g c, v = .slice (some ⟨g, 0, none⟩) n c ∧ base ≤ g ∧ g < w.heap.size ∧ Has w g 0 sz f es := by
  obtain ⟨g, c, hv, hb, hg, _⟩ := own_block_of h hl hn
  subst hv
  exact ⟨g, c, rfl, hb, hg, own_has h hf⟩
theorem Has.s0 {w : World} {g k : Nat} {xs : List ByteArray} {x : ByteArray} (h : Has w g 0 1 scl xs) (hx : xs[k]? = some x) : w.cell? ⟨g, k, none⟩ = some (.string x) := by
  have := h.sc hx; rwa [Nat.zero_add] at this
theorem Has.n0 {w : World} {g k : Nat} {xs : List Int} {x : Int} (h : Has w g 0 1 icell xs) (hx : xs[k]? = some x) : w.cell? ⟨g, k, none⟩ = some (.int .i64 x) := by
  have := h.i1 hx; rwa [Nat.zero_add] at this
/-- what the words of a parcel's text give -/
def readP (ws : List (List UInt8)) : Option Q4 := match ws with
  | [a0, a1, a2, a3, a4, a5, a6] =>
    if a1 = [111, 119, 110, 101, 114] ∧ a3 = [97, 114, 101, 97] ∧ a5 = [99, 108, 97, 115, 115] ∧ 2 ≤ a0.length ∧ a0.head? = some 35 then
      match nmF a0.tail, nmF a2, nmF a4, nmF a6 with
      | some a, some b, some c, some d => if parcelOk ⟨a, b, c, d⟩ = true then some ⟨a, b, c, d⟩ else none
      | _, _, _, _ => none
    else none
  | _ => none
theorem readP_len {ws : List (List UInt8)} (h : ws.length ≠ 7) : readP ws = none := by
  unfold readP
  split
  · simp at h
  · rfl
theorem readP_not {a0 a1 a2 a3 a4 a5 a6 : List UInt8} (h : ¬ (a1 = [111, 119, 110, 101, 114] ∧ a3 = [97, 114, 101, 97] ∧ a5 = [99, 108, 97, 115, 115] ∧ 2 ≤ a0.length ∧ a0.head? = some 35)) : readP [a0, a1, a2, a3, a4, a5, a6] = none := if_neg h
theorem readP_in {a0 a2 a4 a6 : List UInt8} (h : 2 ≤ a0.length ∧ a0.head? = some 35) : readP [a0, [111, 119, 110, 101, 114], a2, [97, 114, 101, 97], a4, [99, 108, 97, 115, 115], a6] = match nmF a0.tail, nmF a2, nmF a4, nmF a6 with
      | some a, some b, some c, some d => if parcelOk ⟨a, b, c, d⟩ = true then some ⟨a, b, c, d⟩ else none
      | _, _, _, _ => none := if_pos ⟨rfl, rfl, rfl, h⟩
/-- the answer of a reader of parcels -/
def resQ (o : Option Q4) : Value := .tuple #[.agg #[.int .i64 (o.elim 0 Q4.a), .int .i64 (o.elim 0 Q4.b), .int .i64 (o.elim 0 Q4.c), .int .i64 (o.elim 0 Q4.d)], .bool o.isSome]
theorem seven {α : Type} {ws : List α} (h : ws.length = 7) : ∃ a0 a1 a2 a3 a4 a5 a6, ws = [a0, a1, a2, a3, a4, a5, a6] := by
  match ws, h with
  | [a0, a1, a2, a3, a4, a5, a6], _ => exact ⟨_, _, _, _, _, _, _, rfl⟩
theorem spl_long {c : UInt8} : ∀ {l x : List UInt8}, x ∈ spl c l → x.length ≤ l.length
  | [], x, h => by simp [spl] at h; subst h; simp
  | y :: r, x, h => by
    rw [spl] at h
    split at h
    · rcases List.mem_cons.1 h with rfl | h
      · simp
      · have := spl_long h; simp; omega
    · have hne := spl_ne c r
      cases hs : spl c r with
      | nil => exact absurd hs hne
      | cons z t =>
        rw [hs] at h
        rcases List.mem_cons.1 h with rfl | h
        · have := spl_long (c := c) (l := r) (x := z) (by rw [hs]; simp); simp; omega
        · have := spl_long (c := c) (l := r) (x := x) (by rw [hs]; simp [h]); simp; omega
theorem box4s {w w1 : World} {v0 v1 v2 v3 : Value} {E : Nat} (hb : Below (w.alloc (.cells #[v0, v1, v2, v3] E)).heap.size (w.alloc (.cells #[v0, v1, v2, v3] E)) w1) :
    w1.cell? ⟨w.heap.size, 0, none⟩ = some v0 ∧ w1.cell? ⟨w.heap.size, 1, none⟩ = some v1 ∧ w1.cell? ⟨w.heap.size, 2, none⟩ = some v2 ∧ w1.cell? ⟨w.heap.size, 3, none⟩ = some v3 ∧
      (∀ i, w1.frozen? ⟨w.heap.size, i, none⟩ = false) ∧ w.heap.size < w1.heap.size := by
  obtain ⟨k0, k1, k2, k3⟩ := box4k hb
  refine ⟨k0, k1, k2, k3, fun i => ?_, ?_⟩
  · rw [(below_reads hb).2 w.heap.size i (by simp)]; have he := heap_alloc_new w (.cells #[v0, v1, v2, v3] E); simp only [World.frozen?, he]; simp
  · have := hb.size; simp at this; omega
theorem below_st4 {v w : World} {g : Nat} (h : Below v.heap.size v w) (hg : v.heap.size ≤ g) (o0 o1 o2 o3 : Nat) (u0 u1 u2 u3 : Value) : Below v.heap.size v ((((w.setCell ⟨g, o0, none⟩ u0).setCell ⟨g, o1, none⟩ u1).setCell ⟨g, o2, none⟩ u2).setCell ⟨g, o3, none⟩ u3) :=
  below_st (below_st (below_st (below_st h _ hg _) _ hg _) _ hg _) _ hg _
theorem lit_yes (a b : List UInt8) (h : a = b) : ((bs a).toList == (bs b).toList) = true := by rw [str_eq, decide_eq_true h]
theorem lit_no (a b : List UInt8) (h : a ≠ b) : ((bs a).toList == (bs b).toList) = false := by rw [str_eq, decide_eq_false h]
set_option maxHeartbeats 2000000 in
set_option maxRecDepth 100000 in
set_option linter.unusedSimpArgs false in
theorem spec_rp1 (l r a2 a4 a6 : List UInt8) (w : World) (hrl : 1 ≤ r.length) (HC : Hid (∀ W : World, Calls Tryd.prog 56 #[.string (bs l), .int .u8 32] W fun e w' => ∃ v, e = .returned v ∧ Own w' W.heap.size 9 1 scl v ([35 :: r, [111, 119, 110, 101, 114], a2, [97, 114, 101, 97], a4, [99, 108, 97, 115, 115], a6].map bs) ∧ Below W.heap.size W w'))
    (hl0 : r.length ≤ 1048576) (hl2 : a2.length ≤ 1048576) (hl4 : a4.length ≤ 1048576) (hl6 : a6.length ≤ 1048576) (E1 : Hid (nmF r = none)) 
    : Calls Tryd.prog 34 #[.string (bs l)] w fun e w' => e = .returned (resQ none) ∧ Below w.heap.size w w' := by
  have q1 : (bs [111, 119, 110, 101, 114]).toList = [111, 119, 110, 101, 114] := bs_toList _
  have q3 : (bs [97, 114, 101, 97]).toList = [97, 114, 101, 97] := bs_toList _
  have q5 : (bs [99, 108, 97, 115, 115]).toList = [99, 108, 97, 115, 115] := bs_toList _
  have hsz : (bs (35 :: r)).size = r.length + 1 := by rw [bs_size]; rfl
  have hex : (bs (35 :: r)).extract 1 (r.length + 1) = bs r := by rw [extract_bs]; simp
  have hg0 : (bs (35 :: r))[0]'(by rw [bs_size]; simp) = 35 := rfl
  have hx : ((35 : UInt8).toNat : Int) = 35 := rfl
  have h2 : ¬ (r.length : Int) + 1 < 2 := by omega
  have hr0 : (1 : Int) ≤ (r.length : Int) + 1 := by omega
  go_enter Tryd.func34, Tryd.ntmps34
  go_wp2_with (first
    | (go_at_call 56; refine (HC.out _).mono ?_; rintro e w1 ⟨v, rfl, ho, hB⟩; obtain ⟨g, c, rfl, hgb, hg, hh⟩ := own_cells ho scl_len rfl (by decide : 0 < 7); clear ho; have c0 := hh.s0 (k := 0) rfl; have c1 := hh.s0 (k := 1) rfl; have c2 := hh.s0 (k := 2) rfl; have c3 := hh.s0 (k := 3) rfl; have c4 := hh.s0 (k := 4) rfl; have c5 := hh.s0 (k := 5) rfl; have c6 := hh.s0 (k := 6) rfl; clear hh; obtain ⟨k0, k1, k2, k3, kf, kl⟩ := box4s hB)
    | (go_at_call 57; refine (spec_l01Number _ _ (by assumption)).mono ?_; rintro e w2 ⟨rfl, hb2⟩; have hB := below_then hB hb2; obtain ⟨k0, k1, k2, k3, kf, kl⟩ := box4s hB; have c2 := cell_on c2 hb2 hg; have c4 := cell_on c4 hb2 hg; have c6 := cell_on c6 hb2 hg; have hg := Nat.lt_of_lt_of_le hg hb2.size; (try rw [E1.out]); (try simp only [Option.getD_none, Option.getD_some, Option.isSome_none, Option.isSome_some])))
  exact bodyPost_ret (v := .tuple #[.agg #[.int .i64 0, .int .i64 0, .int .i64 0, .int .i64 0], .bool false]) (by simp [results, Tryd.results34, go_sem, k0, k1, k2, k3, kl]) rfl ⟨rfl, below_al (below_st4 (below_one hB) (Nat.le_refl _) _ _ _ _ _ _ _ _) _⟩
set_option maxHeartbeats 2000000 in
set_option maxRecDepth 100000 in
set_option linter.unusedSimpArgs false in
theorem spec_rp2 (l r a2 a4 a6 : List UInt8) (w : World) (hrl : 1 ≤ r.length) (HC : Hid (∀ W : World, Calls Tryd.prog 56 #[.string (bs l), .int .u8 32] W fun e w' => ∃ v, e = .returned v ∧ Own w' W.heap.size 9 1 scl v ([35 :: r, [111, 119, 110, 101, 114], a2, [97, 114, 101, 97], a4, [99, 108, 97, 115, 115], a6].map bs) ∧ Below W.heap.size W w'))
    (hl0 : r.length ≤ 1048576) (hl2 : a2.length ≤ 1048576) (hl4 : a4.length ≤ 1048576) (hl6 : a6.length ≤ 1048576) (v1 : Int) (E1 : Hid (nmF r = some v1)) (E2 : Hid (nmF a2 = none)) 
    : Calls Tryd.prog 34 #[.string (bs l)] w fun e w' => e = .returned (resQ none) ∧ Below w.heap.size w w' := by
  have q1 : (bs [111, 119, 110, 101, 114]).toList = [111, 119, 110, 101, 114] := bs_toList _
  have q3 : (bs [97, 114, 101, 97]).toList = [97, 114, 101, 97] := bs_toList _
  have q5 : (bs [99, 108, 97, 115, 115]).toList = [99, 108, 97, 115, 115] := bs_toList _
  have hsz : (bs (35 :: r)).size = r.length + 1 := by rw [bs_size]; rfl
  have hex : (bs (35 :: r)).extract 1 (r.length + 1) = bs r := by rw [extract_bs]; simp
  have hg0 : (bs (35 :: r))[0]'(by rw [bs_size]; simp) = 35 := rfl
  have hx : ((35 : UInt8).toNat : Int) = 35 := rfl
  have h2 : ¬ (r.length : Int) + 1 < 2 := by omega
  have hr0 : (1 : Int) ≤ (r.length : Int) + 1 := by omega
  go_enter Tryd.func34, Tryd.ntmps34
  go_wp2_with (first
    | (go_at_call 56; refine (HC.out _).mono ?_; rintro e w1 ⟨v, rfl, ho, hB⟩; obtain ⟨g, c, rfl, hgb, hg, hh⟩ := own_cells ho scl_len rfl (by decide : 0 < 7); clear ho; have c0 := hh.s0 (k := 0) rfl; have c1 := hh.s0 (k := 1) rfl; have c2 := hh.s0 (k := 2) rfl; have c3 := hh.s0 (k := 3) rfl; have c4 := hh.s0 (k := 4) rfl; have c5 := hh.s0 (k := 5) rfl; have c6 := hh.s0 (k := 6) rfl; clear hh; obtain ⟨k0, k1, k2, k3, kf, kl⟩ := box4s hB)
    | (go_at_call 57; refine (spec_l01Number _ _ (by assumption)).mono ?_; rintro e w2 ⟨rfl, hb2⟩; have hB := below_then hB hb2; obtain ⟨k0, k1, k2, k3, kf, kl⟩ := box4s hB; have c2 := cell_on c2 hb2 hg; have c4 := cell_on c4 hb2 hg; have c6 := cell_on c6 hb2 hg; have hg := Nat.lt_of_lt_of_le hg hb2.size; (try rw [E1.out]); (try rw [E2.out]); (try simp only [Option.getD_none, Option.getD_some, Option.isSome_none, Option.isSome_some])))
  exact bodyPost_ret (v := .tuple #[.agg #[.int .i64 0, .int .i64 0, .int .i64 0, .int .i64 0], .bool false]) (by simp [results, Tryd.results34, go_sem, k0, k1, k2, k3, kl]) rfl ⟨rfl, below_al (below_st4 (below_one hB) (Nat.le_refl _) _ _ _ _ _ _ _ _) _⟩
set_option maxHeartbeats 2000000 in
set_option maxRecDepth 100000 in
set_option linter.unusedSimpArgs false in
theorem spec_rp3 (l r a2 a4 a6 : List UInt8) (w : World) (hrl : 1 ≤ r.length) (HC : Hid (∀ W : World, Calls Tryd.prog 56 #[.string (bs l), .int .u8 32] W fun e w' => ∃ v, e = .returned v ∧ Own w' W.heap.size 9 1 scl v ([35 :: r, [111, 119, 110, 101, 114], a2, [97, 114, 101, 97], a4, [99, 108, 97, 115, 115], a6].map bs) ∧ Below W.heap.size W w'))
    (hl0 : r.length ≤ 1048576) (hl2 : a2.length ≤ 1048576) (hl4 : a4.length ≤ 1048576) (hl6 : a6.length ≤ 1048576) (v1 : Int) (v2 : Int) (E1 : Hid (nmF r = some v1)) (E2 : Hid (nmF a2 = some v2)) (E3 : Hid (nmF a4 = none)) 
    : Calls Tryd.prog 34 #[.string (bs l)] w fun e w' => e = .returned (resQ none) ∧ Below w.heap.size w w' := by
  have q1 : (bs [111, 119, 110, 101, 114]).toList = [111, 119, 110, 101, 114] := bs_toList _
  have q3 : (bs [97, 114, 101, 97]).toList = [97, 114, 101, 97] := bs_toList _
  have q5 : (bs [99, 108, 97, 115, 115]).toList = [99, 108, 97, 115, 115] := bs_toList _
  have hsz : (bs (35 :: r)).size = r.length + 1 := by rw [bs_size]; rfl
  have hex : (bs (35 :: r)).extract 1 (r.length + 1) = bs r := by rw [extract_bs]; simp
  have hg0 : (bs (35 :: r))[0]'(by rw [bs_size]; simp) = 35 := rfl
  have hx : ((35 : UInt8).toNat : Int) = 35 := rfl
  have h2 : ¬ (r.length : Int) + 1 < 2 := by omega
  have hr0 : (1 : Int) ≤ (r.length : Int) + 1 := by omega
  go_enter Tryd.func34, Tryd.ntmps34
  go_wp2_with (first
    | (go_at_call 56; refine (HC.out _).mono ?_; rintro e w1 ⟨v, rfl, ho, hB⟩; obtain ⟨g, c, rfl, hgb, hg, hh⟩ := own_cells ho scl_len rfl (by decide : 0 < 7); clear ho; have c0 := hh.s0 (k := 0) rfl; have c1 := hh.s0 (k := 1) rfl; have c2 := hh.s0 (k := 2) rfl; have c3 := hh.s0 (k := 3) rfl; have c4 := hh.s0 (k := 4) rfl; have c5 := hh.s0 (k := 5) rfl; have c6 := hh.s0 (k := 6) rfl; clear hh; obtain ⟨k0, k1, k2, k3, kf, kl⟩ := box4s hB)
    | (go_at_call 57; refine (spec_l01Number _ _ (by assumption)).mono ?_; rintro e w2 ⟨rfl, hb2⟩; have hB := below_then hB hb2; obtain ⟨k0, k1, k2, k3, kf, kl⟩ := box4s hB; have c2 := cell_on c2 hb2 hg; have c4 := cell_on c4 hb2 hg; have c6 := cell_on c6 hb2 hg; have hg := Nat.lt_of_lt_of_le hg hb2.size; (try rw [E1.out]); (try rw [E2.out]); (try rw [E3.out]); (try simp only [Option.getD_none, Option.getD_some, Option.isSome_none, Option.isSome_some])))
  exact bodyPost_ret (v := .tuple #[.agg #[.int .i64 0, .int .i64 0, .int .i64 0, .int .i64 0], .bool false]) (by simp [results, Tryd.results34, go_sem, k0, k1, k2, k3, kl]) rfl ⟨rfl, below_al (below_st4 (below_one hB) (Nat.le_refl _) _ _ _ _ _ _ _ _) _⟩
set_option maxHeartbeats 2000000 in
set_option maxRecDepth 100000 in
set_option linter.unusedSimpArgs false in
theorem spec_rp4 (l r a2 a4 a6 : List UInt8) (w : World) (hrl : 1 ≤ r.length) (HC : Hid (∀ W : World, Calls Tryd.prog 56 #[.string (bs l), .int .u8 32] W fun e w' => ∃ v, e = .returned v ∧ Own w' W.heap.size 9 1 scl v ([35 :: r, [111, 119, 110, 101, 114], a2, [97, 114, 101, 97], a4, [99, 108, 97, 115, 115], a6].map bs) ∧ Below W.heap.size W w'))
    (hl0 : r.length ≤ 1048576) (hl2 : a2.length ≤ 1048576) (hl4 : a4.length ≤ 1048576) (hl6 : a6.length ≤ 1048576) (v1 : Int) (v2 : Int) (v3 : Int) (E1 : Hid (nmF r = some v1)) (E2 : Hid (nmF a2 = some v2)) (E3 : Hid (nmF a4 = some v3)) (E4 : Hid (nmF a6 = none)) 
    : Calls Tryd.prog 34 #[.string (bs l)] w fun e w' => e = .returned (resQ none) ∧ Below w.heap.size w w' := by
  have q1 : (bs [111, 119, 110, 101, 114]).toList = [111, 119, 110, 101, 114] := bs_toList _
  have q3 : (bs [97, 114, 101, 97]).toList = [97, 114, 101, 97] := bs_toList _
  have q5 : (bs [99, 108, 97, 115, 115]).toList = [99, 108, 97, 115, 115] := bs_toList _
  have hsz : (bs (35 :: r)).size = r.length + 1 := by rw [bs_size]; rfl
  have hex : (bs (35 :: r)).extract 1 (r.length + 1) = bs r := by rw [extract_bs]; simp
  have hg0 : (bs (35 :: r))[0]'(by rw [bs_size]; simp) = 35 := rfl
  have hx : ((35 : UInt8).toNat : Int) = 35 := rfl
  have h2 : ¬ (r.length : Int) + 1 < 2 := by omega
  have hr0 : (1 : Int) ≤ (r.length : Int) + 1 := by omega
  go_enter Tryd.func34, Tryd.ntmps34
  go_wp2_with (first
    | (go_at_call 56; refine (HC.out _).mono ?_; rintro e w1 ⟨v, rfl, ho, hB⟩; obtain ⟨g, c, rfl, hgb, hg, hh⟩ := own_cells ho scl_len rfl (by decide : 0 < 7); clear ho; have c0 := hh.s0 (k := 0) rfl; have c1 := hh.s0 (k := 1) rfl; have c2 := hh.s0 (k := 2) rfl; have c3 := hh.s0 (k := 3) rfl; have c4 := hh.s0 (k := 4) rfl; have c5 := hh.s0 (k := 5) rfl; have c6 := hh.s0 (k := 6) rfl; clear hh; obtain ⟨k0, k1, k2, k3, kf, kl⟩ := box4s hB)
    | (go_at_call 57; refine (spec_l01Number _ _ (by assumption)).mono ?_; rintro e w2 ⟨rfl, hb2⟩; have hB := below_then hB hb2; obtain ⟨k0, k1, k2, k3, kf, kl⟩ := box4s hB; have c2 := cell_on c2 hb2 hg; have c4 := cell_on c4 hb2 hg; have c6 := cell_on c6 hb2 hg; have hg := Nat.lt_of_lt_of_le hg hb2.size; (try rw [E1.out]); (try rw [E2.out]); (try rw [E3.out]); (try rw [E4.out]); (try simp only [Option.getD_none, Option.getD_some, Option.isSome_none, Option.isSome_some])))
  exact bodyPost_ret (v := .tuple #[.agg #[.int .i64 0, .int .i64 0, .int .i64 0, .int .i64 0], .bool false]) (by simp [results, Tryd.results34, go_sem, k0, k1, k2, k3, kl]) rfl ⟨rfl, below_al (below_st4 (below_one hB) (Nat.le_refl _) _ _ _ _ _ _ _ _) _⟩
set_option maxHeartbeats 2000000 in
set_option maxRecDepth 100000 in
set_option linter.unusedSimpArgs false in
theorem spec_rp5 (l r a2 a4 a6 : List UInt8) (w : World) (hrl : 1 ≤ r.length) (HC : Hid (∀ W : World, Calls Tryd.prog 56 #[.string (bs l), .int .u8 32] W fun e w' => ∃ v, e = .returned v ∧ Own w' W.heap.size 9 1 scl v ([35 :: r, [111, 119, 110, 101, 114], a2, [97, 114, 101, 97], a4, [99, 108, 97, 115, 115], a6].map bs) ∧ Below W.heap.size W w'))
    (hl0 : r.length ≤ 1048576) (hl2 : a2.length ≤ 1048576) (hl4 : a4.length ≤ 1048576) (hl6 : a6.length ≤ 1048576) (v1 : Int) (v2 : Int) (v3 : Int) (v4 : Int) (E1 : Hid (nmF r = some v1)) (E2 : Hid (nmF a2 = some v2)) (E3 : Hid (nmF a4 = some v3)) (E4 : Hid (nmF a6 = some v4)) (gp : parcelOk ⟨v1, v2, v3, v4⟩ = false)
    : Calls Tryd.prog 34 #[.string (bs l)] w fun e w' => e = .returned (resQ none) ∧ Below w.heap.size w w' := by
  have q1 : (bs [111, 119, 110, 101, 114]).toList = [111, 119, 110, 101, 114] := bs_toList _
  have q3 : (bs [97, 114, 101, 97]).toList = [97, 114, 101, 97] := bs_toList _
  have q5 : (bs [99, 108, 97, 115, 115]).toList = [99, 108, 97, 115, 115] := bs_toList _
  have hsz : (bs (35 :: r)).size = r.length + 1 := by rw [bs_size]; rfl
  have hex : (bs (35 :: r)).extract 1 (r.length + 1) = bs r := by rw [extract_bs]; simp
  have hg0 : (bs (35 :: r))[0]'(by rw [bs_size]; simp) = 35 := rfl
  have hx : ((35 : UInt8).toNat : Int) = 35 := rfl
  have h2 : ¬ (r.length : Int) + 1 < 2 := by omega
  have hr0 : (1 : Int) ≤ (r.length : Int) + 1 := by omega
  go_enter Tryd.func34, Tryd.ntmps34
  go_wp2_with (first
    | (go_at_call 56; refine (HC.out _).mono ?_; rintro e w1 ⟨v, rfl, ho, hB⟩; obtain ⟨g, c, rfl, hgb, hg, hh⟩ := own_cells ho scl_len rfl (by decide : 0 < 7); clear ho; have c0 := hh.s0 (k := 0) rfl; have c1 := hh.s0 (k := 1) rfl; have c2 := hh.s0 (k := 2) rfl; have c3 := hh.s0 (k := 3) rfl; have c4 := hh.s0 (k := 4) rfl; have c5 := hh.s0 (k := 5) rfl; have c6 := hh.s0 (k := 6) rfl; clear hh; obtain ⟨k0, k1, k2, k3, kf, kl⟩ := box4s hB)
    | (go_at_call 57; refine (spec_l01Number _ _ (by assumption)).mono ?_; rintro e w2 ⟨rfl, hb2⟩; have hB := below_then hB hb2; obtain ⟨k0, k1, k2, k3, kf, kl⟩ := box4s hB; have c2 := cell_on c2 hb2 hg; have c4 := cell_on c4 hb2 hg; have c6 := cell_on c6 hb2 hg; have hg := Nat.lt_of_lt_of_le hg hb2.size; (try rw [E1.out]); (try rw [E2.out]); (try rw [E3.out]); (try rw [E4.out]); (try simp only [Option.getD_none, Option.getD_some, Option.isSome_none, Option.isSome_some]))
    | (go_at_call 41; obtain ⟨y0, y1, y2, y3⟩ := box4k (Below.refl _ (w2.alloc (.cells #[.int .i64 v1, .int .i64 v2, .int .i64 v3, .int .i64 v4] 31))); refine (spec_l19One _ _ ⟨v1, v2, v3, v4⟩ _ y0 y1 y2 y3).mono ?_; rintro e w6 ⟨rfl, rfl⟩; rw [gp]))
  exact bodyPost_ret (v := .tuple #[.agg #[.int .i64 0, .int .i64 0, .int .i64 0, .int .i64 0], .bool false]) (by simp [results, Tryd.results34, go_sem, k0, k1, k2, k3, kl]) rfl ⟨rfl, below_al (below_st4 (below_one hB) (Nat.le_refl _) _ _ _ _ _ _ _ _) _⟩
set_option maxHeartbeats 2000000 in
set_option maxRecDepth 100000 in
set_option linter.unusedSimpArgs false in
theorem spec_rp6 (l r a2 a4 a6 : List UInt8) (w : World) (hrl : 1 ≤ r.length) (HC : Hid (∀ W : World, Calls Tryd.prog 56 #[.string (bs l), .int .u8 32] W fun e w' => ∃ v, e = .returned v ∧ Own w' W.heap.size 9 1 scl v ([35 :: r, [111, 119, 110, 101, 114], a2, [97, 114, 101, 97], a4, [99, 108, 97, 115, 115], a6].map bs) ∧ Below W.heap.size W w'))
    (hl0 : r.length ≤ 1048576) (hl2 : a2.length ≤ 1048576) (hl4 : a4.length ≤ 1048576) (hl6 : a6.length ≤ 1048576) (v1 : Int) (v2 : Int) (v3 : Int) (v4 : Int) (E1 : Hid (nmF r = some v1)) (E2 : Hid (nmF a2 = some v2)) (E3 : Hid (nmF a4 = some v3)) (E4 : Hid (nmF a6 = some v4)) (gp : parcelOk ⟨v1, v2, v3, v4⟩ = true)
    : Calls Tryd.prog 34 #[.string (bs l)] w fun e w' => e = .returned (resQ (some ⟨v1, v2, v3, v4⟩)) ∧ Below w.heap.size w w' := by
  have q1 : (bs [111, 119, 110, 101, 114]).toList = [111, 119, 110, 101, 114] := bs_toList _
  have q3 : (bs [97, 114, 101, 97]).toList = [97, 114, 101, 97] := bs_toList _
  have q5 : (bs [99, 108, 97, 115, 115]).toList = [99, 108, 97, 115, 115] := bs_toList _
  have hsz : (bs (35 :: r)).size = r.length + 1 := by rw [bs_size]; rfl
  have hex : (bs (35 :: r)).extract 1 (r.length + 1) = bs r := by rw [extract_bs]; simp
  have hg0 : (bs (35 :: r))[0]'(by rw [bs_size]; simp) = 35 := rfl
  have hx : ((35 : UInt8).toNat : Int) = 35 := rfl
  have h2 : ¬ (r.length : Int) + 1 < 2 := by omega
  have hr0 : (1 : Int) ≤ (r.length : Int) + 1 := by omega
  go_enter Tryd.func34, Tryd.ntmps34
  go_wp2_with (first
    | (go_at_call 56; refine (HC.out _).mono ?_; rintro e w1 ⟨v, rfl, ho, hB⟩; obtain ⟨g, c, rfl, hgb, hg, hh⟩ := own_cells ho scl_len rfl (by decide : 0 < 7); clear ho; have c0 := hh.s0 (k := 0) rfl; have c1 := hh.s0 (k := 1) rfl; have c2 := hh.s0 (k := 2) rfl; have c3 := hh.s0 (k := 3) rfl; have c4 := hh.s0 (k := 4) rfl; have c5 := hh.s0 (k := 5) rfl; have c6 := hh.s0 (k := 6) rfl; clear hh; obtain ⟨k0, k1, k2, k3, kf, kl⟩ := box4s hB)
    | (go_at_call 57; refine (spec_l01Number _ _ (by assumption)).mono ?_; rintro e w2 ⟨rfl, hb2⟩; have hB := below_then hB hb2; obtain ⟨k0, k1, k2, k3, kf, kl⟩ := box4s hB; have c2 := cell_on c2 hb2 hg; have c4 := cell_on c4 hb2 hg; have c6 := cell_on c6 hb2 hg; have hg := Nat.lt_of_lt_of_le hg hb2.size; (try rw [E1.out]); (try rw [E2.out]); (try rw [E3.out]); (try rw [E4.out]); (try simp only [Option.getD_none, Option.getD_some, Option.isSome_none, Option.isSome_some]))
    | (go_at_call 41; obtain ⟨y0, y1, y2, y3⟩ := box4k (Below.refl _ (w2.alloc (.cells #[.int .i64 v1, .int .i64 v2, .int .i64 v3, .int .i64 v4] 31))); refine (spec_l19One _ _ ⟨v1, v2, v3, v4⟩ _ y0 y1 y2 y3).mono ?_; rintro e w6 ⟨rfl, rfl⟩; rw [gp]))
  exact bodyPost_ret (v := .tuple #[.agg #[.int .i64 v1, .int .i64 v2, .int .i64 v3, .int .i64 v4], .bool true]) (by simp [results, Tryd.results34, go_sem, k0, k1, k2, k3, kl]) rfl ⟨rfl, below_al (below_st4 (below_one hB) (Nat.le_refl _) _ _ _ _ _ _ _ _) _⟩
set_option maxHeartbeats 2000000 in
set_option maxRecDepth 100000 in
set_option linter.unusedSimpArgs false in
theorem spec_ReadParcel (l : List UInt8) (w : World) (hl : l.length ≤ 1048576) : Calls Tryd.prog 34 #[.string (bs l)] w fun e w' => e = .returned (resQ (readP (spl 32 l))) ∧ Below w.heap.size w w' := by
  obtain ⟨ws, hws⟩ : ∃ ws, spl 32 l = ws := ⟨_, rfl⟩
  have HC := Lib.hid (fun W => spec_l01Split l 32 32 (by decide) W hl)
  have hwl : ∀ x ∈ ws, x.length ≤ 1048576 := fun x hx => by have := spl_long (c := 32) (l := l) (x := x) (by rw [hws]; exact hx); omega
  rw [hws] at HC ⊢
  clear hws
  by_cases hn : ws.length = 7
  case neg =>
    have HR := Lib.hid (readP_len hn)
    go_enter Tryd.func34, Tryd.ntmps34
    go_wp2_with (go_at_call 56; refine (HC.out _).mono ?_; rintro e w1 ⟨v, rfl, ho, hb1⟩; obtain ⟨A, n, c, rfl, hn, hcc⟩ := own_shape ho; rw [List.length_map] at hn; have hn7 : ¬ (n : Int) = 7 := (by omega); clear ho; obtain ⟨k0, k1, k2, k3, kf, kl⟩ := box4s hb1)
    exact bodyPost_ret (v := .tuple #[.agg #[.int .i64 0, .int .i64 0, .int .i64 0, .int .i64 0], .bool false]) (by simp [results, Tryd.results34, go_sem, k0, k1, k2, k3, kl]) rfl ⟨by rw [HR.out]; rfl, below_st4 (below_one hb1) (Nat.le_refl _) _ _ _ _ _ _ _ _⟩
  obtain ⟨a0, a1, a2, a3, a4, a5, a6, rfl⟩ := seven hn
  clear hn
  have hl0 := hwl a0 (by simp)
  have hl2 := hwl a2 (by simp)
  have hl4 := hwl a4 (by simp)
  have hl6 := hwl a6 (by simp)
  clear hwl
  by_cases t1 : a1 = [111, 119, 110, 101, 114]
  case neg =>
    have q1 : ¬ (bs a1).toList = [111, 119, 110, 101, 114] := by rw [bs_toList]; exact t1
    have HR := Lib.hid (readP_not (a0 := a0) (a1 := a1) (a2 := a2) (a3 := a3) (a4 := a4) (a5 := a5) (a6 := a6) (fun h => t1 h.1))
    have Ht := Lib.hid t1
    clear t1
    go_enter Tryd.func34, Tryd.ntmps34
    go_wp2_with (go_at_call 56; refine (HC.out _).mono ?_; rintro e w1 ⟨v, rfl, ho, hb1⟩; obtain ⟨g, c, rfl, hgb, hg, hh⟩ := own_cells ho scl_len rfl (by decide : 0 < 7); clear ho; have c0 := hh.s0 (k := 0) rfl; have c1 := hh.s0 (k := 1) rfl; have c2 := hh.s0 (k := 2) rfl; have c3 := hh.s0 (k := 3) rfl; have c4 := hh.s0 (k := 4) rfl; have c5 := hh.s0 (k := 5) rfl; have c6 := hh.s0 (k := 6) rfl; clear hh; obtain ⟨k0, k1, k2, k3, kf, kl⟩ := box4s hb1)
    exact bodyPost_ret (v := .tuple #[.agg #[.int .i64 0, .int .i64 0, .int .i64 0, .int .i64 0], .bool false]) (by simp [results, Tryd.results34, go_sem, k0, k1, k2, k3, kl]) rfl ⟨by rw [HR.out]; rfl, below_st4 (below_one hb1) (Nat.le_refl _) _ _ _ _ _ _ _ _⟩
  subst t1
  have q1 : (bs [111, 119, 110, 101, 114]).toList = [111, 119, 110, 101, 114] := bs_toList _
  by_cases t3 : a3 = [97, 114, 101, 97]
  case neg =>
    have q3 : ¬ (bs a3).toList = [97, 114, 101, 97] := by rw [bs_toList]; exact t3
    have HR := Lib.hid (readP_not (a0 := a0) (a1 := [111, 119, 110, 101, 114]) (a2 := a2) (a3 := a3) (a4 := a4) (a5 := a5) (a6 := a6) (fun h => t3 h.2.1))
    have Ht := Lib.hid t3
    clear t3
    go_enter Tryd.func34, Tryd.ntmps34
    go_wp2_with (go_at_call 56; refine (HC.out _).mono ?_; rintro e w1 ⟨v, rfl, ho, hb1⟩; obtain ⟨g, c, rfl, hgb, hg, hh⟩ := own_cells ho scl_len rfl (by decide : 0 < 7); clear ho; have c0 := hh.s0 (k := 0) rfl; have c1 := hh.s0 (k := 1) rfl; have c2 := hh.s0 (k := 2) rfl; have c3 := hh.s0 (k := 3) rfl; have c4 := hh.s0 (k := 4) rfl; have c5 := hh.s0 (k := 5) rfl; have c6 := hh.s0 (k := 6) rfl; clear hh; obtain ⟨k0, k1, k2, k3, kf, kl⟩ := box4s hb1)
    exact bodyPost_ret (v := .tuple #[.agg #[.int .i64 0, .int .i64 0, .int .i64 0, .int .i64 0], .bool false]) (by simp [results, Tryd.results34, go_sem, k0, k1, k2, k3, kl]) rfl ⟨by rw [HR.out]; rfl, below_st4 (below_one hb1) (Nat.le_refl _) _ _ _ _ _ _ _ _⟩
  subst t3
  have q3 : (bs [97, 114, 101, 97]).toList = [97, 114, 101, 97] := bs_toList _
  by_cases t5 : a5 = [99, 108, 97, 115, 115]
  case neg =>
    have q5 : ¬ (bs a5).toList = [99, 108, 97, 115, 115] := by rw [bs_toList]; exact t5
    have HR := Lib.hid (readP_not (a0 := a0) (a1 := [111, 119, 110, 101, 114]) (a2 := a2) (a3 := [97, 114, 101, 97]) (a4 := a4) (a5 := a5) (a6 := a6) (fun h => t5 h.2.2.1))
    have Ht := Lib.hid t5
    clear t5
    go_enter Tryd.func34, Tryd.ntmps34
    go_wp2_with (go_at_call 56; refine (HC.out _).mono ?_; rintro e w1 ⟨v, rfl, ho, hb1⟩; obtain ⟨g, c, rfl, hgb, hg, hh⟩ := own_cells ho scl_len rfl (by decide : 0 < 7); clear ho; have c0 := hh.s0 (k := 0) rfl; have c1 := hh.s0 (k := 1) rfl; have c2 := hh.s0 (k := 2) rfl; have c3 := hh.s0 (k := 3) rfl; have c4 := hh.s0 (k := 4) rfl; have c5 := hh.s0 (k := 5) rfl; have c6 := hh.s0 (k := 6) rfl; clear hh; obtain ⟨k0, k1, k2, k3, kf, kl⟩ := box4s hb1)
    exact bodyPost_ret (v := .tuple #[.agg #[.int .i64 0, .int .i64 0, .int .i64 0, .int .i64 0], .bool false]) (by simp [results, Tryd.results34, go_sem, k0, k1, k2, k3, kl]) rfl ⟨by rw [HR.out]; rfl, below_st4 (below_one hb1) (Nat.le_refl _) _ _ _ _ _ _ _ _⟩
  subst t5
  have q5 : (bs [99, 108, 97, 115, 115]).toList = [99, 108, 97, 115, 115] := bs_toList _
  rcases a0 with _ | ⟨x, r⟩
  case nil =>
    have HR : Hid (readP [[], [111, 119, 110, 101, 114], a2, [97, 114, 101, 97], a4, [99, 108, 97, 115, 115], a6] = none) := Lib.hid (readP_not (fun h => by have := h.2.2.2.1; simp at this))
    have hsz : (bs []).size = 0 := rfl
    go_enter Tryd.func34, Tryd.ntmps34
    go_wp2_with (go_at_call 56; refine (HC.out _).mono ?_; rintro e w1 ⟨v, rfl, ho, hb1⟩; obtain ⟨g, c, rfl, hgb, hg, hh⟩ := own_cells ho scl_len rfl (by decide : 0 < 7); clear ho; have c0 := hh.s0 (k := 0) rfl; have c1 := hh.s0 (k := 1) rfl; have c2 := hh.s0 (k := 2) rfl; have c3 := hh.s0 (k := 3) rfl; have c4 := hh.s0 (k := 4) rfl; have c5 := hh.s0 (k := 5) rfl; have c6 := hh.s0 (k := 6) rfl; clear hh; obtain ⟨k0, k1, k2, k3, kf, kl⟩ := box4s hb1)
    exact bodyPost_ret (v := .tuple #[.agg #[.int .i64 0, .int .i64 0, .int .i64 0, .int .i64 0], .bool false]) (by simp [results, Tryd.results34, go_sem, k0, k1, k2, k3, kl]) rfl ⟨by rw [HR.out]; rfl, below_st4 (below_one hb1) (Nat.le_refl _) _ _ _ _ _ _ _ _⟩
  have hsz : (bs (x :: r)).size = r.length + 1 := by rw [bs_size]; rfl
  by_cases hrl : 1 ≤ r.length
  case neg =>
    have HR : Hid (readP [(x :: r), [111, 119, 110, 101, 114], a2, [97, 114, 101, 97], a4, [99, 108, 97, 115, 115], a6] = none) := Lib.hid (readP_not (fun h => by have := h.2.2.2.1; simp at this; omega))
    have h2 : (r.length : Int) + 1 < 2 := by omega
    go_enter Tryd.func34, Tryd.ntmps34
    go_wp2_with (go_at_call 56; refine (HC.out _).mono ?_; rintro e w1 ⟨v, rfl, ho, hb1⟩; obtain ⟨g, c, rfl, hgb, hg, hh⟩ := own_cells ho scl_len rfl (by decide : 0 < 7); clear ho; have c0 := hh.s0 (k := 0) rfl; have c1 := hh.s0 (k := 1) rfl; have c2 := hh.s0 (k := 2) rfl; have c3 := hh.s0 (k := 3) rfl; have c4 := hh.s0 (k := 4) rfl; have c5 := hh.s0 (k := 5) rfl; have c6 := hh.s0 (k := 6) rfl; clear hh; obtain ⟨k0, k1, k2, k3, kf, kl⟩ := box4s hb1)
    exact bodyPost_ret (v := .tuple #[.agg #[.int .i64 0, .int .i64 0, .int .i64 0, .int .i64 0], .bool false]) (by simp [results, Tryd.results34, go_sem, k0, k1, k2, k3, kl]) rfl ⟨by rw [HR.out]; rfl, below_st4 (below_one hb1) (Nat.le_refl _) _ _ _ _ _ _ _ _⟩
  have hrm : r.length ≤ 1048576 := by simp at hl0; omega
  have hex : (bs (x :: r)).extract 1 (r.length + 1) = bs r := by rw [extract_bs]; simp
  have hg0 : (bs (x :: r))[0]'(by rw [bs_size]; simp) = x := rfl
  have h2 : ¬ (r.length : Int) + 1 < 2 := by omega
  have hr0 : (1 : Int) ≤ (r.length : Int) + 1 := by omega
  by_cases hx : x = 35
  case neg =>
    have HR : Hid (readP [(x :: r), [111, 119, 110, 101, 114], a2, [97, 114, 101, 97], a4, [99, 108, 97, 115, 115], a6] = none) := Lib.hid (readP_not (fun h => hx (by have := h.2.2.2.2; simpa using this)))
    have hxn : ((x.toNat : Int) != 35) = true := by rw [bne_iff_ne]; intro h; exact hx (UInt8.toNat_inj.1 (by rw [show (35 : UInt8).toNat = 35 from rfl]; omega))
    have Hx := Lib.hid hx
    clear hx
    go_enter Tryd.func34, Tryd.ntmps34
    go_wp2_with (go_at_call 56; refine (HC.out _).mono ?_; rintro e w1 ⟨v, rfl, ho, hb1⟩; obtain ⟨g, c, rfl, hgb, hg, hh⟩ := own_cells ho scl_len rfl (by decide : 0 < 7); clear ho; have c0 := hh.s0 (k := 0) rfl; have c1 := hh.s0 (k := 1) rfl; have c2 := hh.s0 (k := 2) rfl; have c3 := hh.s0 (k := 3) rfl; have c4 := hh.s0 (k := 4) rfl; have c5 := hh.s0 (k := 5) rfl; have c6 := hh.s0 (k := 6) rfl; clear hh; obtain ⟨k0, k1, k2, k3, kf, kl⟩ := box4s hb1)
    exact bodyPost_ret (v := .tuple #[.agg #[.int .i64 0, .int .i64 0, .int .i64 0, .int .i64 0], .bool false]) (by simp [results, Tryd.results34, go_sem, k0, k1, k2, k3, kl]) rfl ⟨by rw [HR.out]; rfl, below_st4 (below_one hb1) (Nat.le_refl _) _ _ _ _ _ _ _ _⟩
  subst hx
  have hx35 : ((35 : UInt8).toNat : Int) = 35 := rfl
  have HN := Lib.hid (readP_in (a0 := 35 :: r) (a2 := a2) (a4 := a4) (a6 := a6) ⟨by simp; omega, rfl⟩)
  rw [List.tail_cons] at HN
  rcases n1 : nmF r with _ | m1
  case none =>
    have hR : readP [35 :: r, [111, 119, 110, 101, 114], a2, [97, 114, 101, 97], a4, [99, 108, 97, 115, 115], a6] = none := by rw [HN.out, n1]
    rw [hR]
    exact spec_rp1 l r a2 a4 a6 w hrl HC hrm hl2 hl4 hl6 (Lib.hid n1)
  rcases n2 : nmF a2 with _ | m2
  case none =>
    have hR : readP [35 :: r, [111, 119, 110, 101, 114], a2, [97, 114, 101, 97], a4, [99, 108, 97, 115, 115], a6] = none := by rw [HN.out, n1, n2]
    rw [hR]
    exact spec_rp2 l r a2 a4 a6 w hrl HC hrm hl2 hl4 hl6 m1 (Lib.hid n1) (Lib.hid n2)
  rcases n3 : nmF a4 with _ | m3
  case none =>
    have hR : readP [35 :: r, [111, 119, 110, 101, 114], a2, [97, 114, 101, 97], a4, [99, 108, 97, 115, 115], a6] = none := by rw [HN.out, n1, n2, n3]
    rw [hR]
    exact spec_rp3 l r a2 a4 a6 w hrl HC hrm hl2 hl4 hl6 m1 m2 (Lib.hid n1) (Lib.hid n2) (Lib.hid n3)
  rcases n4 : nmF a6 with _ | m4
  case none =>
    have hR : readP [35 :: r, [111, 119, 110, 101, 114], a2, [97, 114, 101, 97], a4, [99, 108, 97, 115, 115], a6] = none := by rw [HN.out, n1, n2, n3, n4]
    rw [hR]
    exact spec_rp4 l r a2 a4 a6 w hrl HC hrm hl2 hl4 hl6 m1 m2 m3 (Lib.hid n1) (Lib.hid n2) (Lib.hid n3) (Lib.hid n4)
  rcases g : parcelOk ⟨m1, m2, m3, m4⟩
  case false =>
    have hR : readP [35 :: r, [111, 119, 110, 101, 114], a2, [97, 114, 101, 97], a4, [99, 108, 97, 115, 115], a6] = none := by rw [HN.out, n1, n2, n3, n4]; simp [g]
    rw [hR]
    exact spec_rp5 l r a2 a4 a6 w hrl HC hrm hl2 hl4 hl6 m1 m2 m3 m4 (Lib.hid n1) (Lib.hid n2) (Lib.hid n3) (Lib.hid n4) g
  case true =>
    have hR : readP [35 :: r, [111, 119, 110, 101, 114], a2, [97, 114, 101, 97], a4, [99, 108, 97, 115, 115], a6] = some ⟨m1, m2, m3, m4⟩ := by rw [HN.out, n1, n2, n3, n4]; simp [g]
    rw [hR]
    exact spec_rp6 l r a2 a4 a6 w hrl HC hrm hl2 hl4 hl6 m1 m2 m3 m4 (Lib.hid n1) (Lib.hid n2) (Lib.hid n3) (Lib.hid n4) g

end Go.Proofs.YtjnbdmpgkbbmmaaDoor

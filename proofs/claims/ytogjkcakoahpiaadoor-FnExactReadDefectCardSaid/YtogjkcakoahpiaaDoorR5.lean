/- Walks over functions of this seat, by contract. Conditions: those that each theorem states. -/
import Derived.Test.YtogjkcakoahpiaaDoorR4
import Derived.Test.YtogjkcakoahpiaaDoorDT
import Derived.Deep.Cut
namespace Go.Proofs.YtogjkcakoahpiaaDoor
open Go.RowKit Go.Sort

theorem own_cells {w : World} {base E sz n : Nat} {α : Type} {f : α → List Value} {v : Value} {es : List α} (h : Own w base E sz f v es) (hf : ∀ e, (f e).length = sz) (hl : es.length = n) (hn : 0 < n) :
    ∃ g c, v = .slice (some ⟨g, 0, none⟩) n c ∧ base ≤ g ∧ g < w.heap.size ∧ Has w g 0 sz f es := by
  obtain ⟨g, c, hv, hb, hg, _⟩ := own_block_of h hl hn
  subst hv
  exact ⟨g, c, rfl, hb, hg, own_has h hf⟩
theorem Has.s0 {w : World} {g k : Nat} {xs : List ByteArray} {x : ByteArray} (h : Has w g 0 1 scl xs) (hx : xs[k]? = some x) : w.cell? ⟨g, k, none⟩ = some (.string x) := by
  have := h.sc hx; rwa [Nat.zero_add] at this
theorem Has.n0 {w : World} {g k : Nat} {xs : List Int} {x : Int} (h : Has w g 0 1 icell xs) (hx : xs[k]? = some x) : w.cell? ⟨g, k, none⟩ = some (.int .i64 x) := by
  have := h.i1 hx; rwa [Nat.zero_add] at this
/-- what the words of a parcel's text give -/
def readP (ws : List (List UInt8)) : Option Q4 := match ws with
  | [a0, a1, a2, a3, a4, a5, a6] =>
    if a1 = [111, 119, 110, 101, 114] ∧ a3 = [97, 114, 101, 97] ∧ a5 = [99, 108, 97, 115, 115] ∧ 2 ≤ a0.length ∧ a0.head? = some 35 then
      match nmF a0.tail, nmF a2, nmF a4, nmF a6 with
      | some a, some b, some c, some d => if parcelOk ⟨a, b, c, d⟩ = true then some ⟨a, b, c, d⟩ else none
      | _, _, _, _ => none
    else none
  | _ => none
theorem readP_len {ws : List (List UInt8)} (h : ws.length ≠ 7) : readP ws = none := by
  unfold readP
  split
  · simp at h
  · rfl
theorem readP_not {a0 a1 a2 a3 a4 a5 a6 : List UInt8} (h : ¬ (a1 = [111, 119, 110, 101, 114] ∧ a3 = [97, 114, 101, 97] ∧ a5 = [99, 108, 97, 115, 115] ∧ 2 ≤ a0.length ∧ a0.head? = some 35)) : readP [a0, a1, a2, a3, a4, a5, a6] = none := if_neg h
theorem readP_in {a0 a2 a4 a6 : List UInt8} (h : 2 ≤ a0.length ∧ a0.head? = some 35) : readP [a0, [111, 119, 110, 101, 114], a2, [97, 114, 101, 97], a4, [99, 108, 97, 115, 115], a6] = match nmF a0.tail, nmF a2, nmF a4, nmF a6 with
      | some a, some b, some c, some d => if parcelOk ⟨a, b, c, d⟩ = true then some ⟨a, b, c, d⟩ else none
      | _, _, _, _ => none := if_pos ⟨rfl, rfl, rfl, h⟩
/-- the answer of a reader of parcels -/
def resQ (o : Option Q4) : Value := .tuple #[.agg #[.int .i64 (o.elim 0 Q4.a), .int .i64 (o.elim 0 Q4.b), .int .i64 (o.elim 0 Q4.c), .int .i64 (o.elim 0 Q4.d)], .bool o.isSome]
theorem seven {α : Type} {ws : List α} (h : ws.length = 7) : ∃ a0 a1 a2 a3 a4 a5 a6, ws = [a0, a1, a2, a3, a4, a5, a6] := by
  match ws, h with
  | [a0, a1, a2, a3, a4, a5, a6], _ => exact ⟨_, _, _, _, _, _, _, rfl⟩
theorem spl_long {c : UInt8} : ∀ {l x : List UInt8}, x ∈ spl c l → x.length ≤ l.length
  | [], x, h => by simp [spl] at h; subst h; simp
  | y :: r, x, h => by
    rw [spl] at h
    split at h
    · rcases List.mem_cons.1 h with rfl | h
      · simp
      · have := spl_long h; simp; omega
    · have hne := spl_ne c r
      cases hs : spl c r with
      | nil => exact absurd hs hne
      | cons z t =>
        rw [hs] at h
        rcases List.mem_cons.1 h with rfl | h
        · have := spl_long (c := c) (l := r) (x := z) (by rw [hs]; simp); simp; omega
        · have := spl_long (c := c) (l := r) (x := x) (by rw [hs]; simp [h]); simp; omega
theorem box4s {w w1 : World} {v0 v1 v2 v3 : Value} {E : Nat} (hb : Below (w.alloc (.cells #[v0, v1, v2, v3] E)).heap.size (w.alloc (.cells #[v0, v1, v2, v3] E)) w1) :
    w1.cell? ⟨w.heap.size, 0, none⟩ = some v0 ∧ w1.cell? ⟨w.heap.size, 1, none⟩ = some v1 ∧ w1.cell? ⟨w.heap.size, 2, none⟩ = some v2 ∧ w1.cell? ⟨w.heap.size, 3, none⟩ = some v3 ∧
      (∀ i, w1.frozen? ⟨w.heap.size, i, none⟩ = false) ∧ w.heap.size < w1.heap.size := by
  obtain ⟨k0, k1, k2, k3⟩ := box4k hb
  refine ⟨k0, k1, k2, k3, fun i => ?_, ?_⟩
  · rw [(below_reads hb).2 w.heap.size i (by simp)]; have he := heap_alloc_new w (.cells #[v0, v1, v2, v3] E); simp only [World.frozen?, he]; simp
  · have := hb.size; simp at this; omega
theorem below_st4 {v w : World} {g : Nat} (h : Below v.heap.size v w) (hg : v.heap.size ≤ g) (o0 o1 o2 o3 : Nat) (u0 u1 u2 u3 : Value) : Below v.heap.size v ((((w.setCell ⟨g, o0, none⟩ u0).setCell ⟨g, o1, none⟩ u1).setCell ⟨g, o2, none⟩ u2).setCell ⟨g, o3, none⟩ u3) :=
  below_st (below_st (below_st (below_st h _ hg _) _ hg _) _ hg _) _ hg _
theorem lit_yes (a b : List UInt8) (h : a = b) : ((bs a).toList == (bs b).toList) = true := by rw [str_eq, decide_eq_true h]
theorem lit_no (a b : List UInt8) (h : a ≠ b) : ((bs a).toList == (bs b).toList) = false := by rw [str_eq, decide_eq_false h]
/-- what a text gives by its numbers -/
def giveP (l : List UInt8) : Option Q4 := match numsOf l with
  | [a, b, c, d] => if parcelOk ⟨a, b, c, d⟩ = true ∧ parcelTxt ⟨a, b, c, d⟩ = bs l then some ⟨a, b, c, d⟩ else none
  | _ => none
theorem giveP_len {l : List UInt8} (h : (numsOf l).length ≠ 4) : giveP l = none := by
  unfold giveP
  split
  · rename_i h4; rw [h4] at h; simp at h
  · rfl
theorem giveP_four {l : List UInt8} {a b c d : Int} (h : numsOf l = [a, b, c, d]) : giveP l = if parcelOk ⟨a, b, c, d⟩ = true ∧ parcelTxt ⟨a, b, c, d⟩ = bs l then some ⟨a, b, c, d⟩ else none := by
  unfold giveP; rw [h]
theorem bytes_eq {x y : ByteArray} (h : x.toList = y.toList) : x = y := by
  rw [ByteArray.toList_eq, ByteArray.toList_eq] at h
  exact ByteArray.ext (Array.toList_inj.1 h)
theorem four {α : Type} {ws : List α} (h : ws.length = 4) : ∃ a b c d, ws = [a, b, c, d] := by
  match ws, h with
  | [a, b, c, d], _ => exact ⟨_, _, _, _, rfl⟩
theorem own_four {w : World} {base : Nat} {E : TypeId} {v : Value} {a b c d : Int} (h : Own w base E 1 icell v [a, b, c, d]) :
    ∃ g k, v = .slice (some ⟨g, 0, none⟩) 4 k ∧ base ≤ g ∧ g < w.heap.size ∧ w.cell? ⟨g, 0, none⟩ = some (.int .i64 a) ∧ w.cell? ⟨g, 1, none⟩ = some (.int .i64 b) ∧ w.cell? ⟨g, 2, none⟩ = some (.int .i64 c) ∧ w.cell? ⟨g, 3, none⟩ = some (.int .i64 d) := by
  obtain ⟨g, k, hv, hgb, hg, hh⟩ := own_cells h icell_len rfl (by decide : 0 < 4)
  exact ⟨g, k, hv, hgb, hg, hh.n0 (k := 0) rfl, hh.n0 (k := 1) rfl, hh.n0 (k := 2) rfl, hh.n0 (k := 3) rfl⟩
def kLits : List (List UInt8) := [[104, 111, 108, 101], [99, 114, 97, 99, 107], [115, 101, 101, 112], [116, 114, 101, 101], [115, 108, 105, 112]]
def kTo (t : List UInt8) : Nat → Int
  | 0 => 0
  | i + 1 => if kLits.getD i [] = t then (i : Int) + 1 else kTo t i
theorem kNames_lit (k : Nat) (x : ByteArray) (h : kNames[k]? = some x) : x = bs (kLits.getD k []) := by
  match k, h with
  | 0, h => simp [kNames] at h; subst h; rfl
  | 1, h => simp [kNames] at h; subst h; rfl
  | 2, h => simp [kNames] at h; subst h; rfl
  | 3, h => simp [kNames] at h; subst h; rfl
  | 4, h => simp [kNames] at h; subst h; rfl
  | k + 5, h => simp [kNames] at h
theorem kNames_get (k : Nat) (h : k < 5) : kNames[k]? = some (bs (kLits.getD k [])) := by
  obtain ⟨x, hx⟩ : ∃ x, kNames[k]? = some x := ⟨kNames[k], List.getElem?_eq_getElem (by simpa [kNames] using h)⟩
  rw [hx, kNames_lit k x hx]
def finF (x y : Option Int) (k m : Int) : Option Q4 :=
  if x.isSome = true ∧ y.isSome = true ∧ defectOk ⟨x.getD 0, k, y.getD 0, m⟩ = true then some ⟨x.getD 0, k, y.getD 0, m⟩ else none
def mendF (x y : Option Int) (k : Int) (z : Option Int) : Option Q4 := if z.isSome = false ∨ z.getD 0 = 0 then none else finF x y k (z.getD 0)
/-- what the words of a defect's text give -/
def readF (ws : List (List UInt8)) : Option Q4 := match ws with
  | [a0, a1, a2, a3] => if a0.getLast? = some 109 ∧ a2 = [102, 111, 117, 110, 100] then finF (nmF a0.dropLast) (nmF a3) (kTo a1 5) 0 else none
  | [a0, a1, a2, a3, a4, a5] => if a0.getLast? = some 109 ∧ a2 = [102, 111, 117, 110, 100] ∧ a4 = [109, 101, 110, 100, 101, 100] then mendF (nmF a0.dropLast) (nmF a3) (kTo a1 5) (nmF a5) else none
  | _ => none
theorem readF_len {ws : List (List UInt8)} (h4 : ws.length ≠ 4) (h6 : ws.length ≠ 6) : readF ws = none := by
  unfold readF; split
  · simp at h4
  · simp at h6
  · rfl
theorem readF4_not {a0 a1 a2 a3 : List UInt8} (h : ¬ (a0.getLast? = some 109 ∧ a2 = [102, 111, 117, 110, 100])) : readF [a0, a1, a2, a3] = none := if_neg h
theorem readF6_not {a0 a1 a2 a3 a4 a5 : List UInt8} (h : ¬ (a0.getLast? = some 109 ∧ a2 = [102, 111, 117, 110, 100] ∧ a4 = [109, 101, 110, 100, 101, 100])) : readF [a0, a1, a2, a3, a4, a5] = none := if_neg h
theorem readF4_in (r a1 a3 : List UInt8) : readF [r ++ [109], a1, [102, 111, 117, 110, 100], a3] = finF (nmF r) (nmF a3) (kTo a1 5) 0 := by
  have h : (r ++ [109]).getLast? = some (109 : UInt8) := by simp
  show (if _ then _ else _) = _
  rw [if_pos ⟨h, rfl⟩, List.dropLast_concat]
theorem readF6_in (r a1 a3 a5 : List UInt8) : readF [r ++ [109], a1, [102, 111, 117, 110, 100], a3, [109, 101, 110, 100, 101, 100], a5] = mendF (nmF r) (nmF a3) (kTo a1 5) (nmF a5) := by
  have h : (r ++ [109]).getLast? = some (109 : UInt8) := by simp
  show (if _ then _ else _) = _
  rw [if_pos ⟨h, rfl, rfl⟩, List.dropLast_concat]
theorem four_of {α : Type} {ws : List α} (h : ws.length = 4) : ∃ a b c d, ws = [a, b, c, d] := by
  match ws, h with
  | [a, b, c, d], _ => exact ⟨_, _, _, _, rfl⟩
theorem six_of {α : Type} {ws : List α} (h : ws.length = 6) : ∃ a b c d e f, ws = [a, b, c, d, e, f] := by
  match ws, h with
  | [a, b, c, d, e, f], _ => exact ⟨_, _, _, _, _, _, rfl⟩
/-- the state of the reader behind its numbers -/
structure DSt (w wr : World) (g D nb : Nat) (ws : List (List UInt8)) (X K Y M : Int) : Prop where
  words : ∀ j x, ws[j]? = some x → wr.cell? ⟨g, j, none⟩ = some (.string (bs x))
  names : ∀ (j : Nat) x, kNames[j]? = some x → wr.cell? ⟨nb, j, none⟩ = some (.string x)
  d0 : wr.cell? ⟨D, 0, none⟩ = some (.int .i64 X)
  d1 : wr.cell? ⟨D, 1, none⟩ = some (.int .i64 K)
  d2 : wr.cell? ⟨D, 2, none⟩ = some (.int .i64 Y)
  d3 : wr.cell? ⟨D, 3, none⟩ = some (.int .i64 M)
  df : ∀ i, wr.frozen? ⟨D, i, none⟩ = false
  z : ∀ i, i < 4 → wr.cell? ⟨w.heap.size, i, none⟩ = some (.int .i64 0)
  zf : ∀ i, wr.frozen? ⟨w.heap.size, i, none⟩ = false
  lt : w.heap.size < D ∧ g < D ∧ D < nb ∧ nb < wr.heap.size
  bel : Below w.heap.size w wr
theorem cell_st {w : World} {g o D i : Nat} {v u : Value} (x : w.cell? ⟨g, o, none⟩ = some v) (h : g ≠ D ∨ o ≠ i) : (w.setCell ⟨D, i, none⟩ u).cell? ⟨g, o, none⟩ = some v := by
  have hne : (⟨D, i, none⟩ : Addr) ≠ ⟨g, o, none⟩ := fun e => by injection e with e1 e2 _; omega
  exact (World.cell?_setCell_other w _ _ u hne).trans x
section
variable {w wr wx : World} {g D nb : Nat} {ws : List (List UInt8)} {X K Y M : Int}
theorem DSt.on (h : DSt w wr g D nb ws X K Y M) (hb : Below wr.heap.size wr wx) : DSt w wx g D nb ws X K Y M := by
  obtain ⟨l1, l2, l3, l4⟩ := h.lt
  exact ⟨fun j x hx => cell_on (h.words j x hx) hb (by omega), fun j x hx => cell_on (h.names j x hx) hb l4, cell_on h.d0 hb (by omega), cell_on h.d1 hb (by omega), cell_on h.d2 hb (by omega), cell_on h.d3 hb (by omega),
    fun i => ((below_reads hb).2 D i (by omega)).trans (h.df i), fun i hi => cell_on (h.z i hi) hb (by omega), fun i => ((below_reads hb).2 _ i (by omega)).trans (h.zf i),
    ⟨l1, l2, l3, Nat.lt_of_lt_of_le l4 hb.size⟩, below_then h.bel hb⟩
end

theorem DSt.setK {w wr : World} {g D nb : Nat} {ws : List (List UInt8)} {X K Y M : Int} (h : DSt w wr g D nb ws X K Y M) (K' : Int) : DSt w (wr.setCell ⟨D, 1, none⟩ (.int .i64 K')) g D nb ws X K' Y M := by
  obtain ⟨l1, l2, l3, l4⟩ := h.lt
  exact ⟨fun j x hx => cell_st (h.words j x hx) (.inl (by omega)), fun j x hx => cell_st (h.names j x hx) (.inl (by omega)), cell_st h.d0 (.inr (by omega)), World.cell?_setCell_same _ _ _ h.d1, cell_st h.d2 (.inr (by omega)), cell_st h.d3 (.inr (by omega)),
    fun i => by rw [World.frozen?_setCell]; exact h.df i, fun i hi => cell_st (h.z i hi) (.inl (by omega)), fun i => by rw [World.frozen?_setCell]; exact h.zf i, ⟨l1, l2, l3, by simpa [World.setCell] using l4⟩, below_st h.bel _ (by show w.heap.size ≤ D; omega) _⟩
theorem DSt.setM {w wr : World} {g D nb : Nat} {ws : List (List UInt8)} {X K Y M : Int} (h : DSt w wr g D nb ws X K Y M) (M' : Int) : DSt w (wr.setCell ⟨D, 3, none⟩ (.int .i64 M')) g D nb ws X K Y M' := by
  obtain ⟨l1, l2, l3, l4⟩ := h.lt
  exact ⟨fun j x hx => cell_st (h.words j x hx) (.inl (by omega)), fun j x hx => cell_st (h.names j x hx) (.inl (by omega)), cell_st h.d0 (.inr (by omega)), cell_st h.d1 (.inr (by omega)), cell_st h.d2 (.inr (by omega)), World.cell?_setCell_same _ _ _ h.d3,
    fun i => by rw [World.frozen?_setCell]; exact h.df i, fun i hi => cell_st (h.z i hi) (.inl (by omega)), fun i => by rw [World.frozen?_setCell]; exact h.zf i, ⟨l1, l2, l3, by simpa [World.setCell] using l4⟩, below_st h.bel _ (by show w.heap.size ≤ D; omega) _⟩
theorem spec_l18Names_at (w : World) : Calls Tryd.prog 13 #[] w fun e w' => ∃ g, e = .returned (.slice (some ⟨g, 0, none⟩) 5 5) ∧ (∀ (k : Nat) x, kNames[k]? = some x → w'.cell? ⟨g, k, none⟩ = some (.string x)) ∧ g < w'.heap.size ∧ w.heap.size ≤ g ∧ Below w.heap.size w w' := by
  go_enter Tryd.func13, Tryd.ntmps13
  go_wp2
  go_ret
  refine ⟨w.heap.size, rfl, fun k x hx => ?_, by simp, Nat.le_refl _, below_al (Below.refl _ _) _⟩
  rw [cell_of_row _ _ k _ _ _ (heap_alloc_new w _)]
  match k, hx with
  | 0, hx => simp [kNames] at hx; subst hx; rfl
  | 1, hx => simp [kNames] at hx; subst hx; rfl
  | 2, hx => simp [kNames] at hx; subst hx; rfl
  | 3, hx => simp [kNames] at hx; subst hx; rfl
  | 4, hx => simp [kNames] at hx; subst hx; rfl
  | k + 5, hx => simp [kNames] at hx
set_option maxHeartbeats 4000000 in
set_option maxRecDepth 100000 in
set_option linter.unusedSimpArgs false in
theorem spec_rd4 (l r a1 a3 : List UInt8) (w : World) (HC : Hid (∀ W : World, Calls Tryd.prog 11 #[.string (bs l), .int .u8 32] W fun e w' => ∃ v, e = .returned v ∧ Own w' W.heap.size 9 1 scl v ([r ++ [109], a1, [102, 111, 117, 110, 100], a3].map bs) ∧ Below W.heap.size W w'))
    (hr : r.length ≤ 1048576) (h3 : a3.length ≤ 1048576) : Calls Tryd.prog 5 #[.string (bs l)] w fun e w' => e = .returned (resQ (finF (nmF r) (nmF a3) (kTo a1 5) 0)) ∧ Below w.heap.size w w' := by
  have q2 : (bs [102, 111, 117, 110, 100]).toList = [102, 111, 117, 110, 100] := bs_toList _
  have hsz : (bs (r ++ [109])).size = r.length + 1 := by rw [bs_size]; simp
  have hex : (bs (r ++ [109])).extract 0 r.length = bs r := by rw [extract_bs]; simp
  have hg0 : (bs (r ++ [109]))[r.length]'(by rw [hsz]; omega) = 109 := by rw [bs_get]; simp
  have hw : IntKind.i64.wrap (r.length : Int) = (r.length : Int) := by rw [IntKind.wrap_i64]; omega
  have hx : ((109 : UInt8).toNat : Int) = 109 := rfl
  have i0 : (0 : Int) ≤ (r.length : Int) := by omega
  have i1 : (r.length : Int) < (r.length : Int) + 1 := by omega
  have i2 : ¬ (r.length : Int) < 0 := by omega
  have c1 := fun W => spec_l01Number r W hr
  have c3 := fun W => spec_l01Number a3 W h3
  obtain ⟨X, hX⟩ : ∃ X, (nmF r).getD 0 = X := ⟨_, rfl⟩
  obtain ⟨bX, hbX⟩ : ∃ b, (nmF r).isSome = b := ⟨_, rfl⟩
  obtain ⟨Y, hY⟩ : ∃ X, (nmF a3).getD 0 = X := ⟨_, rfl⟩
  obtain ⟨bY, hbY⟩ : ∃ b, (nmF a3).isSome = b := ⟨_, rfl⟩
  rw [hX, hbX] at c1
  rw [hY, hbY] at c3
  have C1 := Lib.hid c1
  have C3 := Lib.hid c3
  clear c1 c3
  unfold finF
  rw [hX, hbX, hY, hbY]
  clear hX hbX hY hbY
  obtain ⟨RR, hRR⟩ : ∃ RR, (if bX = true ∧ bY = true ∧ defectOk ⟨X, kTo a1 5, Y, 0⟩ = true then some (⟨X, kTo a1 5, Y, 0⟩ : Q4) else none) = RR := ⟨_, rfl⟩
  rw [hRR]
  have HR := Lib.hid hRR
  clear hRR
  go_enter Tryd.func5, Tryd.ntmps5
  go_wp2_with fail
  refine (HC.out _).mono ?_
  rintro e w1 ⟨v, rfl, ho, hB⟩
  obtain ⟨g, c, rfl, hgb, hg, hh⟩ := own_cells ho scl_len rfl (by decide : 0 < 4)
  clear ho
  have c0 := hh.s0 (k := 0) rfl
  have c1 := hh.s0 (k := 1) rfl
  have c2 := hh.s0 (k := 2) rfl
  have c3 := hh.s0 (k := 3) rfl
  have HW : Hid (∀ j x, ([r ++ [109], a1, [102, 111, 117, 110, 100], a3] : List (List UInt8))[j]? = some x → w1.cell? ⟨g, j, none⟩ = some (.string (bs x))) := Lib.hid (fun j x hx => hh.s0 (k := j) (by rw [List.getElem?_map, hx]; rfl))
  clear hh
  go_wp2_with fail
  refine (C1.out _).mono ?_
  rintro e w2 ⟨rfl, hb2⟩
  have hg2 := Nat.lt_of_lt_of_le hg hb2.size
  have c3 := cell_on c3 hb2 hg
  go_wp2_with fail
  refine (C3.out _).mono ?_
  rintro e w3 ⟨rfl, hb3⟩
  go_wp2_with fail
  refine (spec_l18Names_at _).mono ?_
  rintro e w4 ⟨nb, rfl, hcn, hnb, hge, hb4⟩
  have hB4 := below_then (below_al (below_then (below_then hB hb2) hb3) _) hb4
  obtain ⟨y0, y1, y2, y3, yf, yl⟩ := box4s hb4
  obtain ⟨k0, k1, k2, k3, kf, kl⟩ := box4s hB4
  have hb14 := below_then hb2 (below_then hb3 (below_then (below_al (Below.refl _ _) _) hb4))
  have hS0 : DSt w w4 g w3.heap.size nb [r ++ [109], a1, [102, 111, 117, 110, 100], a3] X (kTo a1 0) Y 0 := by
    refine ⟨fun j x hx => cell_on (HW.out j x hx) hb14 hg, hcn, y0, y1, y2, y3, yf, fun i hi => ?_, kf, ⟨?_, ?_, ?_, hnb⟩, below_one hB4⟩
    · have : i = 0 ∨ i = 1 ∨ i = 2 ∨ i = 3 := by omega
      rcases this with rfl | rfl | rfl | rfl
      · exact k0
      · exact k1
      · exact k2
      · exact k3
    · have := hB.size; have := hb2.size; have := hb3.size; simp at *; omega
    · have := hb3.size; omega
    · simp at hge; omega
  have HS0 := Lib.hid hS0
  clear hS0 HW y0 y1 y2 y3 yf yl k0 k1 k2 k3 kf kl hcn hge hb14 hB4 c0 c1 c2 c3
  obtain ⟨D, hD⟩ : ∃ D, w3.heap.size = D := ⟨_, rfl⟩
  rw [hD] at HS0 ⊢
  clear hD hb4 hb3 hb2 hg2 hg hgb hnb hB
  go_wp2_with fail
  go_loopw [12] (fun i wr => ∃ k : Nat, k ≤ 5 ∧ i = .int .i64 k ∧ Hid (DSt w wr g D nb [r ++ [109], a1, [102, 111, 117, 110, 100], a3] X (kTo a1 k) Y 0)) (fun i _ => 5 - (intOf i).toNat)
  case atStart => exact ⟨0, by omega, rfl, HS0⟩
  case round =>
    obtain ⟨k, hk, rfl, HS⟩ := hrel
    by_cases hlt : k < 5
    · have n0 := HS.out.names k _ (kNames_get k hlt)
      have n1 := HS.out.words 1 a1 rfl
      obtain ⟨y, hy⟩ : ∃ y, kLits.getD k [] = y := ⟨_, rfl⟩
      rw [hy] at n0
      have z0 := fun d os => cell_regrown n0 d os
      have z1 := fun d os => cell_regrown n1 d os
      have Hy := Lib.hid hy
      clear hy
      by_cases he : y = a1
      · have hq : ((bs y).toList == (bs a1).toList) = true := lit_yes _ _ he
        have He := Lib.hid he
        clear he
        go_wp2
        refine wp_region_quiet_below (by kernel_rfl) (by kernel_rfl) ?_
        repeat (go_big_quiet_step (fail))
        refine wpQuiet_nil ?_
        intro wq hwq
        have HS1 := Lib.hid (HS.out.on (below_of_class hwq))
        have e1 := HS1.out.d1
        have f1 := HS1.out.df 1
        clear hwq z0 z1 n0 n1
        go_wp2
        go_roundw
        case rel => exact ⟨k + 1, by omega, by go_num, Lib.hid (by rw [kTo, if_pos (Hy.out.trans He.out)]; exact HS1.out.setK _)⟩
        case measure => simp [intOf]; omega
      · have hq : ((bs y).toList == (bs a1).toList) = false := lit_no _ _ he
        have He := Lib.hid he
        clear he
        go_wp2
        refine wp_region_quiet_below (by kernel_rfl) (by kernel_rfl) ?_
        repeat (go_big_quiet_step (fail))
        refine wpQuiet_nil ?_
        intro wq hwq
        have HS1 := Lib.hid (HS.out.on (below_of_class hwq))
        clear hwq z0 z1 n0 n1
        go_wp2
        go_roundw
        case rel => exact ⟨k + 1, by omega, by go_num, Lib.hid (by rw [kTo, if_neg (fun h => He.out (Hy.out.symm.trans h))]; exact HS1.out)⟩
        case measure => simp [intOf]; omega
    · have hk5 : k = 5 := by omega
      subst hk5
      obtain ⟨K, hK⟩ : ∃ K, kTo a1 5 = K := ⟨_, rfl⟩
      rw [hK] at HR HS
      clear hK
      obtain ⟨ok, hok⟩ : ∃ ok, defectOk ⟨X, K, Y, 0⟩ = ok := ⟨_, rfl⟩
      rw [hok] at HR
      have x0 := HS.out.d0; have x1 := HS.out.d1; have x2 := HS.out.d2; have x3 := HS.out.d3
      have k0 := HS.out.z 0 (by omega); have k1 := HS.out.z 1 (by omega); have k2 := HS.out.z 2 (by omega); have k3 := HS.out.z 3 (by omega); have kf := HS.out.zf
      have kl : w.heap.size < wr.heap.size := by have := HS.out.lt; omega
      rcases Bool.eq_false_or_eq_true bX with hbx | hbx
      · subst hbx
        rcases Bool.eq_false_or_eq_true bY with hby | hby
        · subst hby
          rcases Bool.eq_false_or_eq_true ok with hoo | hoo
          · subst hoo
            have hRR := HR.out
            simp at hRR
            have HRR := Lib.hid hRR
            clear hRR
            go_wp2_with (go_at_call 14; refine (spec_l18One ⟨X, K, Y, 0⟩ _).mono ?_; rintro e w7 ⟨rfl, hb7⟩; rw [hok]; have HS7 := Lib.hid (HS.out.on hb7); have x0 := HS7.out.d0; have x1 := HS7.out.d1; have x2 := HS7.out.d2; have x3 := HS7.out.d3; have k0 := HS7.out.z 0 (by omega); have k1 := HS7.out.z 1 (by omega); have k2 := HS7.out.z 2 (by omega); have k3 := HS7.out.z 3 (by omega); have kf := HS7.out.zf; have kl : w.heap.size < w7.heap.size := (by have := HS7.out.lt; omega))
            exact bodyPost_ret (v := .tuple #[.agg #[.int .i64 X, .int .i64 K, .int .i64 Y, .int .i64 0], .bool true]) (by simp [results, Tryd.results5, go_sem, k0, k1, k2, k3, kl]) rfl ⟨by rw [← HRR.out]; rfl, below_st4 HS7.out.bel (Nat.le_refl _) _ _ _ _ _ _ _ _⟩
          · subst hoo
            have hRR := HR.out
            simp at hRR
            have HRR := Lib.hid hRR
            clear hRR
            go_wp2_with (go_at_call 14; refine (spec_l18One ⟨X, K, Y, 0⟩ _).mono ?_; rintro e w7 ⟨rfl, hb7⟩; rw [hok]; have HS7 := Lib.hid (HS.out.on hb7); have x0 := HS7.out.d0; have x1 := HS7.out.d1; have x2 := HS7.out.d2; have x3 := HS7.out.d3; have k0 := HS7.out.z 0 (by omega); have k1 := HS7.out.z 1 (by omega); have k2 := HS7.out.z 2 (by omega); have k3 := HS7.out.z 3 (by omega); have kf := HS7.out.zf; have kl : w.heap.size < w7.heap.size := (by have := HS7.out.lt; omega))
            exact bodyPost_ret (v := .tuple #[.agg #[.int .i64 0, .int .i64 0, .int .i64 0, .int .i64 0], .bool false]) (by simp [results, Tryd.results5, go_sem, k0, k1, k2, k3, kl]) rfl ⟨by rw [← HRR.out]; rfl, below_st4 HS7.out.bel (Nat.le_refl _) _ _ _ _ _ _ _ _⟩
        · subst hby
          have hRR := HR.out
          simp at hRR
          have HRR := Lib.hid hRR
          clear hRR
          go_wp2_with fail
          exact bodyPost_ret (v := .tuple #[.agg #[.int .i64 0, .int .i64 0, .int .i64 0, .int .i64 0], .bool false]) (by simp [results, Tryd.results5, go_sem, k0, k1, k2, k3, kl]) rfl ⟨by rw [← HRR.out]; rfl, below_st4 HS.out.bel (Nat.le_refl _) _ _ _ _ _ _ _ _⟩
      · subst hbx
        have hRR := HR.out
        simp at hRR
        have HRR := Lib.hid hRR
        clear hRR
        go_wp2_with fail
        exact bodyPost_ret (v := .tuple #[.agg #[.int .i64 0, .int .i64 0, .int .i64 0, .int .i64 0], .bool false]) (by simp [results, Tryd.results5, go_sem, k0, k1, k2, k3, kl]) rfl ⟨by rw [← HRR.out]; rfl, below_st4 HS.out.bel (Nat.le_refl _) _ _ _ _ _ _ _ _⟩
set_option maxHeartbeats 4000000 in
set_option maxRecDepth 100000 in
set_option linter.unusedSimpArgs false in
theorem spec_rd6 (l r a1 a3 a5 : List UInt8) (w : World) (HC : Hid (∀ W : World, Calls Tryd.prog 11 #[.string (bs l), .int .u8 32] W fun e w' => ∃ v, e = .returned v ∧ Own w' W.heap.size 9 1 scl v ([r ++ [109], a1, [102, 111, 117, 110, 100], a3, [109, 101, 110, 100, 101, 100], a5].map bs) ∧ Below W.heap.size W w'))
    (hr : r.length ≤ 1048576) (h3 : a3.length ≤ 1048576) (h5 : a5.length ≤ 1048576) : Calls Tryd.prog 5 #[.string (bs l)] w fun e w' => e = .returned (resQ (mendF (nmF r) (nmF a3) (kTo a1 5) (nmF a5))) ∧ Below w.heap.size w w' := by
  have q2 : (bs [102, 111, 117, 110, 100]).toList = [102, 111, 117, 110, 100] := bs_toList _
  have q4 : (bs [109, 101, 110, 100, 101, 100]).toList = [109, 101, 110, 100, 101, 100] := bs_toList _
  have hsz : (bs (r ++ [109])).size = r.length + 1 := by rw [bs_size]; simp
  have hex : (bs (r ++ [109])).extract 0 r.length = bs r := by rw [extract_bs]; simp
  have hg0 : (bs (r ++ [109]))[r.length]'(by rw [hsz]; omega) = 109 := by rw [bs_get]; simp
  have hw : IntKind.i64.wrap (r.length : Int) = (r.length : Int) := by rw [IntKind.wrap_i64]; omega
  have hx : ((109 : UInt8).toNat : Int) = 109 := rfl
  have i0 : (0 : Int) ≤ (r.length : Int) := by omega
  have i1 : (r.length : Int) < (r.length : Int) + 1 := by omega
  have i2 : ¬ (r.length : Int) < 0 := by omega
  have c1 := fun W => spec_l01Number r W hr
  have c3 := fun W => spec_l01Number a3 W h3
  obtain ⟨X, hX⟩ : ∃ X, (nmF r).getD 0 = X := ⟨_, rfl⟩
  obtain ⟨bX, hbX⟩ : ∃ b, (nmF r).isSome = b := ⟨_, rfl⟩
  obtain ⟨Y, hY⟩ : ∃ X, (nmF a3).getD 0 = X := ⟨_, rfl⟩
  obtain ⟨bY, hbY⟩ : ∃ b, (nmF a3).isSome = b := ⟨_, rfl⟩
  rw [hX, hbX] at c1
  rw [hY, hbY] at c3
  have c5 := fun W => spec_l01Number a5 W h5
  obtain ⟨Z, hZ⟩ : ∃ X, (nmF a5).getD 0 = X := ⟨_, rfl⟩
  obtain ⟨bZ, hbZ⟩ : ∃ b, (nmF a5).isSome = b := ⟨_, rfl⟩
  rw [hZ, hbZ] at c5
  have C5 := Lib.hid c5
  clear c5
  have C1 := Lib.hid c1
  have C3 := Lib.hid c3
  clear c1 c3
  unfold mendF finF
  rw [hX, hbX, hY, hbY, hZ, hbZ]
  clear hX hbX hY hbY hZ hbZ
  obtain ⟨RR, hRR⟩ : ∃ RR, (if bZ = false ∨ Z = 0 then none else if bX = true ∧ bY = true ∧ defectOk ⟨X, kTo a1 5, Y, Z⟩ = true then some (⟨X, kTo a1 5, Y, Z⟩ : Q4) else none) = RR := ⟨_, rfl⟩
  rw [hRR]
  have HR := Lib.hid hRR
  clear hRR
  go_enter Tryd.func5, Tryd.ntmps5
  go_wp2_with fail
  refine (HC.out _).mono ?_
  rintro e w1 ⟨v, rfl, ho, hB⟩
  obtain ⟨g, c, rfl, hgb, hg, hh⟩ := own_cells ho scl_len rfl (by decide : 0 < 6)
  clear ho
  have c0 := hh.s0 (k := 0) rfl
  have c1 := hh.s0 (k := 1) rfl
  have c2 := hh.s0 (k := 2) rfl
  have c3 := hh.s0 (k := 3) rfl
  have c4 := hh.s0 (k := 4) rfl
  have c5 := hh.s0 (k := 5) rfl
  have HW : Hid (∀ j x, ([r ++ [109], a1, [102, 111, 117, 110, 100], a3, [109, 101, 110, 100, 101, 100], a5] : List (List UInt8))[j]? = some x → w1.cell? ⟨g, j, none⟩ = some (.string (bs x))) := Lib.hid (fun j x hx => hh.s0 (k := j) (by rw [List.getElem?_map, hx]; rfl))
  clear hh
  go_wp2_with fail
  refine (C1.out _).mono ?_
  rintro e w2 ⟨rfl, hb2⟩
  have hg2 := Nat.lt_of_lt_of_le hg hb2.size
  have c3 := cell_on c3 hb2 hg
  go_wp2_with fail
  refine (C3.out _).mono ?_
  rintro e w3 ⟨rfl, hb3⟩
  go_wp2_with fail
  refine (spec_l18Names_at _).mono ?_
  rintro e w4 ⟨nb, rfl, hcn, hnb, hge, hb4⟩
  have hB4 := below_then (below_al (below_then (below_then hB hb2) hb3) _) hb4
  obtain ⟨y0, y1, y2, y3, yf, yl⟩ := box4s hb4
  obtain ⟨k0, k1, k2, k3, kf, kl⟩ := box4s hB4
  have hb14 := below_then hb2 (below_then hb3 (below_then (below_al (Below.refl _ _) _) hb4))
  have hS0 : DSt w w4 g w3.heap.size nb [r ++ [109], a1, [102, 111, 117, 110, 100], a3, [109, 101, 110, 100, 101, 100], a5] X (kTo a1 0) Y 0 := by
    refine ⟨fun j x hx => cell_on (HW.out j x hx) hb14 hg, hcn, y0, y1, y2, y3, yf, fun i hi => ?_, kf, ⟨?_, ?_, ?_, hnb⟩, below_one hB4⟩
    · have : i = 0 ∨ i = 1 ∨ i = 2 ∨ i = 3 := by omega
      rcases this with rfl | rfl | rfl | rfl
      · exact k0
      · exact k1
      · exact k2
      · exact k3
    · have := hB.size; have := hb2.size; have := hb3.size; simp at *; omega
    · have := hb3.size; omega
    · simp at hge; omega
  have HS0 := Lib.hid hS0
  clear hS0 HW y0 y1 y2 y3 yf yl k0 k1 k2 k3 kf kl hcn hge hb14 hB4 c0 c1 c2 c3 c4 c5
  obtain ⟨D, hD⟩ : ∃ D, w3.heap.size = D := ⟨_, rfl⟩
  rw [hD] at HS0 ⊢
  clear hD hb4 hb3 hb2 hg2 hg hgb hnb hB
  go_wp2_with fail
  go_loopw [12] (fun i wr => ∃ k : Nat, k ≤ 5 ∧ i = .int .i64 k ∧ Hid (DSt w wr g D nb [r ++ [109], a1, [102, 111, 117, 110, 100], a3, [109, 101, 110, 100, 101, 100], a5] X (kTo a1 k) Y 0)) (fun i _ => 5 - (intOf i).toNat)
  case atStart => exact ⟨0, by omega, rfl, HS0⟩
  case round =>
    obtain ⟨k, hk, rfl, HS⟩ := hrel
    by_cases hlt : k < 5
    · have n0 := HS.out.names k _ (kNames_get k hlt)
      have n1 := HS.out.words 1 a1 rfl
      obtain ⟨y, hy⟩ : ∃ y, kLits.getD k [] = y := ⟨_, rfl⟩
      rw [hy] at n0
      have z0 := fun d os => cell_regrown n0 d os
      have z1 := fun d os => cell_regrown n1 d os
      have Hy := Lib.hid hy
      clear hy
      by_cases he : y = a1
      · have hq : ((bs y).toList == (bs a1).toList) = true := lit_yes _ _ he
        have He := Lib.hid he
        clear he
        go_wp2
        refine wp_region_quiet_below (by kernel_rfl) (by kernel_rfl) ?_
        repeat (go_big_quiet_step (fail))
        refine wpQuiet_nil ?_
        intro wq hwq
        have HS1 := Lib.hid (HS.out.on (below_of_class hwq))
        have e1 := HS1.out.d1
        have f1 := HS1.out.df 1
        clear hwq z0 z1 n0 n1
        go_wp2
        go_roundw
        case rel => exact ⟨k + 1, by omega, by go_num, Lib.hid (by rw [kTo, if_pos (Hy.out.trans He.out)]; exact HS1.out.setK _)⟩
        case measure => simp [intOf]; omega
      · have hq : ((bs y).toList == (bs a1).toList) = false := lit_no _ _ he
        have He := Lib.hid he
        clear he
        go_wp2
        refine wp_region_quiet_below (by kernel_rfl) (by kernel_rfl) ?_
        repeat (go_big_quiet_step (fail))
        refine wpQuiet_nil ?_
        intro wq hwq
        have HS1 := Lib.hid (HS.out.on (below_of_class hwq))
        clear hwq z0 z1 n0 n1
        go_wp2
        go_roundw
        case rel => exact ⟨k + 1, by omega, by go_num, Lib.hid (by rw [kTo, if_neg (fun h => He.out (Hy.out.symm.trans h))]; exact HS1.out)⟩
        case measure => simp [intOf]; omega
    · have hk5 : k = 5 := by omega
      subst hk5
      obtain ⟨K, hK⟩ : ∃ K, kTo a1 5 = K := ⟨_, rfl⟩
      rw [hK] at HR HS
      clear hK
      have n5 := HS.out.words 5 a5 rfl
      go_wp2_with fail
      refine (C5.out _).mono ?_
      rintro e w5 ⟨rfl, hb5⟩
      have HS5 := Lib.hid (HS.out.on hb5)
      have k0 := HS5.out.z 0 (by omega); have k1 := HS5.out.z 1 (by omega); have k2 := HS5.out.z 2 (by omega); have k3 := HS5.out.z 3 (by omega); have kf := HS5.out.zf
      have kl : w.heap.size < w5.heap.size := by have := HS5.out.lt; omega
      clear HS hb5 n5
      rcases Bool.eq_false_or_eq_true bZ with hbz | hbz
      rotate_left
      · subst hbz
        have hRR := HR.out
        simp at hRR
        have HRR := Lib.hid hRR
        clear hRR
        go_wp2_with fail
        exact bodyPost_ret (v := .tuple #[.agg #[.int .i64 0, .int .i64 0, .int .i64 0, .int .i64 0], .bool false]) (by simp [results, Tryd.results5, go_sem, k0, k1, k2, k3, kl]) rfl ⟨by rw [← HRR.out]; rfl, below_st4 HS5.out.bel (Nat.le_refl _) _ _ _ _ _ _ _ _⟩
      subst hbz
      by_cases nz : Z = 0
      · subst nz
        have hRR := HR.out
        simp at hRR
        have HRR := Lib.hid hRR
        clear hRR
        go_wp2_with fail
        exact bodyPost_ret (v := .tuple #[.agg #[.int .i64 0, .int .i64 0, .int .i64 0, .int .i64 0], .bool false]) (by simp [results, Tryd.results5, go_sem, k0, k1, k2, k3, kl]) rfl ⟨by rw [← HRR.out]; rfl, below_st4 HS5.out.bel (Nat.le_refl _) _ _ _ _ _ _ _ _⟩
      have e3 := HS5.out.d3
      have f3 := HS5.out.df 3
      clear k0 k1 k2 k3 kf kl
      obtain ⟨w6, hw6⟩ : ∃ w6, w5.setCell ⟨D, 3, none⟩ (.int .i64 Z) = w6 := ⟨_, rfl⟩
      have HS : Hid (DSt w w6 g D nb [r ++ [109], a1, [102, 111, 117, 110, 100], a3, [109, 101, 110, 100, 101, 100], a5] X K Y Z) := Lib.hid (by rw [← hw6]; exact HS5.out.setM Z)
      have nz2 : (Z == 0) = false := by simpa using nz
      go_upto_region 19 with fail
      clear hw6 e3 f3 HS5
      obtain ⟨ok, hok⟩ : ∃ ok, defectOk ⟨X, K, Y, Z⟩ = ok := ⟨_, rfl⟩
      rw [hok] at HR
      have x0 := HS.out.d0; have x1 := HS.out.d1; have x2 := HS.out.d2; have x3 := HS.out.d3
      have k0 := HS.out.z 0 (by omega); have k1 := HS.out.z 1 (by omega); have k2 := HS.out.z 2 (by omega); have k3 := HS.out.z 3 (by omega); have kf := HS.out.zf
      have kl : w.heap.size < w6.heap.size := by have := HS.out.lt; omega
      rcases Bool.eq_false_or_eq_true bX with hbx | hbx
      · subst hbx
        rcases Bool.eq_false_or_eq_true bY with hby | hby
        · subst hby
          rcases Bool.eq_false_or_eq_true ok with hoo | hoo
          · subst hoo
            have hRR := HR.out
            simp [nz] at hRR
            have HRR := Lib.hid hRR
            clear hRR
            go_wp2_with (go_at_call 14; refine (spec_l18One ⟨X, K, Y, Z⟩ _).mono ?_; rintro e w7 ⟨rfl, hb7⟩; rw [hok]; have HS7 := Lib.hid (HS.out.on hb7); have x0 := HS7.out.d0; have x1 := HS7.out.d1; have x2 := HS7.out.d2; have x3 := HS7.out.d3; have k0 := HS7.out.z 0 (by omega); have k1 := HS7.out.z 1 (by omega); have k2 := HS7.out.z 2 (by omega); have k3 := HS7.out.z 3 (by omega); have kf := HS7.out.zf; have kl : w.heap.size < w7.heap.size := (by have := HS7.out.lt; omega))
            exact bodyPost_ret (v := .tuple #[.agg #[.int .i64 X, .int .i64 K, .int .i64 Y, .int .i64 Z], .bool true]) (by simp [results, Tryd.results5, go_sem, k0, k1, k2, k3, kl]) rfl ⟨by rw [← HRR.out]; rfl, below_st4 HS7.out.bel (Nat.le_refl _) _ _ _ _ _ _ _ _⟩
          · subst hoo
            have hRR := HR.out
            simp [nz] at hRR
            have HRR := Lib.hid hRR
            clear hRR
            go_wp2_with (go_at_call 14; refine (spec_l18One ⟨X, K, Y, Z⟩ _).mono ?_; rintro e w7 ⟨rfl, hb7⟩; rw [hok]; have HS7 := Lib.hid (HS.out.on hb7); have x0 := HS7.out.d0; have x1 := HS7.out.d1; have x2 := HS7.out.d2; have x3 := HS7.out.d3; have k0 := HS7.out.z 0 (by omega); have k1 := HS7.out.z 1 (by omega); have k2 := HS7.out.z 2 (by omega); have k3 := HS7.out.z 3 (by omega); have kf := HS7.out.zf; have kl : w.heap.size < w7.heap.size := (by have := HS7.out.lt; omega))
            exact bodyPost_ret (v := .tuple #[.agg #[.int .i64 0, .int .i64 0, .int .i64 0, .int .i64 0], .bool false]) (by simp [results, Tryd.results5, go_sem, k0, k1, k2, k3, kl]) rfl ⟨by rw [← HRR.out]; rfl, below_st4 HS7.out.bel (Nat.le_refl _) _ _ _ _ _ _ _ _⟩
        · subst hby
          have hRR := HR.out
          simp [nz] at hRR
          have HRR := Lib.hid hRR
          clear hRR
          go_wp2_with fail
          exact bodyPost_ret (v := .tuple #[.agg #[.int .i64 0, .int .i64 0, .int .i64 0, .int .i64 0], .bool false]) (by simp [results, Tryd.results5, go_sem, k0, k1, k2, k3, kl]) rfl ⟨by rw [← HRR.out]; rfl, below_st4 HS.out.bel (Nat.le_refl _) _ _ _ _ _ _ _ _⟩
      · subst hbx
        have hRR := HR.out
        simp [nz] at hRR
        have HRR := Lib.hid hRR
        clear hRR
        go_wp2_with fail
        exact bodyPost_ret (v := .tuple #[.agg #[.int .i64 0, .int .i64 0, .int .i64 0, .int .i64 0], .bool false]) (by simp [results, Tryd.results5, go_sem, k0, k1, k2, k3, kl]) rfl ⟨by rw [← HRR.out]; rfl, below_st4 HS.out.bel (Nat.le_refl _) _ _ _ _ _ _ _ _⟩

end Go.Proofs.YtogjkcakoahpiaaDoor

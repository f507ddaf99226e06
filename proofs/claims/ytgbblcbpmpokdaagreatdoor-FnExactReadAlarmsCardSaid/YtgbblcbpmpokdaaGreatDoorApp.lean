/-
  What this text proves: laws for append onto a slice of the call's own, in the words of the text Lib.
  Conditions: those that each lemma states.
-/
import Derived.Test.YtgbblcbpmpokdaaGreatDoorLib
import Derived.OwnWalk
import Derived.Maps.AppendAt
namespace Go.Proofs.YtgbblcbpmpokdaaGreatDoor
open Go.RowKit

theorem own_alloc {w : World} {base E sz : Nat} {α : Type} {f : α → List Value} {v : Value} {es : List α} (h : Own w base E sz f v es) (o : Obj) : Own (w.alloc o) base E sz f v es := World.ownsRow.alloc h o
theorem own_grown {w0 W w' : World} {b base E sz : Nat} {α : Type} {f : α → List Value} {v : Value} {es : List α} (h : Below b w0 W) (ho : Own W base E sz f v es) (hb : b ≤ base) (hs : b ≤ W.heap.size) (hg : W.grownBy w' v.ownBlock) : Below b w0 w' :=
  h.grown hg hs fun k hk => Nat.le_trans hb (World.ownsRow.lt ho k hk).1
theorem grown_drop_alloc {W w' : World} {o : Obj} {row : Option Nat} (h : (W.alloc o).grownBy w' row) : W.grownBy w' row :=
  ⟨h.os, h.tape, h.output, by have := h.size; simp at this; omega, fun k hk hne => (h.block k (by simp; omega) hne).trans (Below.heap_alloc W o k hk)⟩

/-! ### one cell of an own row is written -/
theorem flat_set {α : Type} {f : α → List Value} {sz : Nat} (hf : ∀ e, (f e).length = sz) : ∀ (es : List α) (k j : Nat) (e e' : α) (u : Value), es[k]? = some e → j < sz → f e' = (f e).set j u → (es.set k e').flatMap f = (es.flatMap f).set (k * sz + j) u := by
  intro es
  induction es with
  | nil => intro k j e e' u he; simp at he
  | cons x es ih =>
    intro k j e e' u he hj he'
    cases k with
    | zero =>
      simp only [List.getElem?_cons_zero, Option.some.injEq] at he
      subst he
      simp only [List.set_cons_zero, List.flatMap_cons, he', Nat.zero_mul, Nat.zero_add]
      rw [List.set_append_left _ _ (by rw [hf]; exact hj)]
    | succ k =>
      simp only [List.getElem?_cons_succ] at he
      simp only [List.set_cons_succ, List.flatMap_cons]
      rw [ih k j e e' u he hj he', List.set_append_right _ _ (by rw [hf, Nat.add_mul]; omega), hf]
      congr 2; rw [Nat.add_mul]; omega
theorem Own.store {w : World} {base E sz g n c : Nat} {α : Type} {f : α → List Value} {es : List α} (hf : ∀ e, (f e).length = sz) (h : Own w base E sz f (.slice (some ⟨g, 0, none⟩) n c) es) {k j : Nat} {e e' : α} {u : Value}
    (he : es[k]? = some e) (hj : j < sz) (he' : f e' = (f e).set j u) : Own (w.setCell ⟨g, k * sz + j, none⟩ u) base E sz f (.slice (some ⟨g, 0, none⟩) n c) (es.set k e') := by
  have hk : k < es.length := (List.getElem?_eq_some_iff.1 he).1
  refine ⟨by rw [flat_len hf], ?_⟩
  rcases h.2 with ⟨h1, _⟩ | ⟨g', cap, cur, h1, hb, hh, hc, hm, hs, ht⟩
  · cases h1
  · injection h1 with h1 h2 h3
    injection h1 with h1
    injection h1 with h1 _ _
    subst h1; subst h3
    rw [List.length_set]
    refine .inr ⟨g, c, cur.setIfInBounds (k * sz + j) u, by rw [h2], hb, ?_, hc, hm, by simpa using hs, ?_⟩
    · simp [World.setCell, Array.getElem?_modify, hh]
    · rw [Array.toList_setIfInBounds, List.take_set, ht, flat_set hf es k j e e' u he hj he']
theorem own_block_of {w : World} {base E sz n : Nat} {α : Type} {f : α → List Value} {v : Value} {es : List α} (h : Own w base E sz f v es) (hl : es.length = n) (hn : 0 < n) :
    ∃ g c, v = .slice (some ⟨g, 0, none⟩) n c ∧ base ≤ g ∧ g < w.heap.size ∧ (∀ o, w.frozen? ⟨g, o, none⟩ = false) := by
  rcases h.2 with ⟨_, h0⟩ | ⟨g, cap, cur, hv, hb, hh, _⟩
  · omega
  · exact ⟨g, cap, by rw [hv, hl], hb, (Array.getElem?_eq_some_iff.1 hh).1, fun o => by simp [World.frozen?, hh]⟩
theorem own_free {w : World} {base E sz g n c : Nat} {α : Type} {f : α → List Value} {es : List α} (h : Own w base E sz f (.slice (some ⟨g, 0, none⟩) n c) es) (o : Nat) : w.frozen? ⟨g, o, none⟩ = false := by
  rcases h.2 with ⟨h1, _⟩ | ⟨g', cap, cur, hv, hb, hh, _⟩
  · cases h1
  · injection hv with hv _ _
    injection hv with hv
    injection hv with hv _ _
    subst hv
    simp [World.frozen?, hh]
theorem own_has {w : World} {base E sz g n c : Nat} {α : Type} {f : α → List Value} {es : List α} (h : Own w base E sz f (.slice (some ⟨g, 0, none⟩) n c) es) (hf : ∀ e, (f e).length = sz) : Has w g 0 sz f es := by
  rcases Nat.eq_zero_or_pos n with h0 | h0
  · have : es = [] := by
      obtain ⟨A', n', c', he, hl, _⟩ := own_shape h
      injection he with _ h2 _
      exact List.eq_nil_of_length_eq_zero (by omega)
    subst this
    intro k e he; simp at he
  · obtain ⟨b, off, e, _, H⟩ := (own_sl h hf).at_ h0
    injection e with e
    injection e with e1 e2 _
    subst e1; subst e2; exact H

/-! ### own rows while another one is written -/
theorem own_ne_lo {W1 W2 : World} {b1 b2 E1 E2 s1 s2 : Nat} {α β : Type} {f1 : α → List Value} {f2 : β → List Value} {v1 v2 : Value} {l1 : List α} {l2 : List β} (a : Own W1 b1 E1 s1 f1 v1 l1) (b : Own W2 b2 E2 s2 f2 v2 l2) (h : W1.heap.size ≤ b2) :
    v1.ownBlock = none ∨ v1.ownBlock ≠ v2.ownBlock := by
  cases h1 : v1.ownBlock with
  | none => exact .inl rfl
  | some k1 =>
    refine .inr fun e => ?_
    have := (World.ownsRow.lt a k1 h1).2
    have := (World.ownsRow.lt b k1 e.symm).1
    omega
theorem own_ne_hi {W1 W2 : World} {b1 b2 E1 E2 s1 s2 : Nat} {α β : Type} {f1 : α → List Value} {f2 : β → List Value} {v1 v2 : Value} {l1 : List α} {l2 : List β} (a : Own W1 b1 E1 s1 f1 v1 l1) (b : Own W2 b2 E2 s2 f2 v2 l2) (h : W1.heap.size ≤ b2) :
    v2.ownBlock = none ∨ v2.ownBlock ≠ v1.ownBlock := by
  cases h2 : v2.ownBlock with
  | none => exact .inl rfl
  | some k2 =>
    refine .inr fun e => ?_
    have := (World.ownsRow.lt a k2 e.symm).2
    have := (World.ownsRow.lt b k2 h2).1
    omega
theorem own_other {W W' : World} {b E s : Nat} {α : Type} {f : α → List Value} {v : Value} {l : List α} {row : Option Nat} (h : Own W b E s f v l) (hne : v.ownBlock = none ∨ v.ownBlock ≠ row) (hg : W.grownBy W' row) : Own W' b E s f v l :=
  World.ownsRow.kept h hg hne
theorem owns_below {W W' : World} {b E s n B : Nat} {v : Value} {xs : List Value} (h : W.ownsRow b E s v n xs) (hb : Below B W W') (hB : W.heap.size ≤ B) : W'.ownsRow b E s v n xs := by
  refine ⟨h.1, ?_⟩
  rcases h.2 with h2 | ⟨g, cap, cur, hv, hg, hh, r⟩
  · exact .inl h2
  · exact .inr ⟨g, cap, cur, hv, hg, (hb.block g (by have := (Array.getElem?_eq_some_iff.1 hh).1; omega)).trans hh, r⟩

/-! ### a list that is turned element by element -/
theorem splice_get {α : Type} {pre es : List α} {k : Nat} {e : α} (hl : pre.length = k) (he : es[k]? = some e) : (pre ++ es.drop k)[k]? = some e := by
  rw [List.getElem?_append_right (by omega), List.getElem?_drop, hl]
  simpa using he
theorem splice_next {α : Type} {pre es : List α} {k : Nat} {e : α} (he : es[k]? = some e) : pre ++ es.drop k = (pre ++ [e]) ++ es.drop (k + 1) := by
  obtain ⟨hk, hx⟩ := List.getElem?_eq_some_iff.1 he
  rw [List.drop_eq_getElem_cons hk, hx]
  simp
theorem splice_set {α : Type} {pre es : List α} {k : Nat} {e e' : α} (hl : pre.length = k) (he : es[k]? = some e) : (pre ++ es.drop k).set k e' = (pre ++ [e']) ++ es.drop (k + 1) := by
  obtain ⟨hk, hx⟩ := List.getElem?_eq_some_iff.1 he
  rw [List.set_append_right _ _ (by omega), hl, Nat.sub_self, List.drop_eq_getElem_cons hk, List.set_cons_zero, List.append_assoc]
  rfl

/-- one element more -/
theorem wpList_push {P : Program} {ops : Array Oper} {rest : List Oper} {o : Oper} {a : Act} {Q : Exit → Act → World → Prop} {W : World} (hgd : o.guard = none) (s x : Operand) (t : TypeId)
    (ho : o.op = .call { callee := .builtin .append, args := #[s, x], argTypes := #[t, t] }) {α : Type} {f : α → List Value}
    (base : Nat) (E : TypeId) (i : TypeInfo) (z : Value) (sz bytes : Nat) (ht : P.underlying t = some (.slice E)) (hi : P.info? E = some i) (hz : i.zero = some z)
    (hsize : i.size = sz) (hby : i.bytes = bytes) (hzs : z.cells.size = sz) (hsz : 0 < sz) (hf : ∀ e, (f e).length = sz) (h1 : ∀ e u, u ∈ f e → u.oneCell' = true)
    (v : Value) (es : List α) (y : α) (hs : a.eval s = v) (hown : Own W base E sz f v es) (cs : Array Value) (hcs : cs.toList = f y) (g : Nat) (hx : a.eval x = .slice (some ⟨g, 0, none⟩) 1 1) (hgs : W.heap.size = g)
    (hlen : es.length ≤ 2097152) (hbytes : bytes ≤ 1024) (hbase : base ≤ W.heap.size)
    (h : ∀ v' w', Own w' base E sz f v' (es ++ [y]) → W.grownBy w' v.ownBlock → wpList P ops Q rest (a.put o.dst v') w') :
    wpList P ops Q (o :: rest) a (W.alloc (.cells cs E)) := by
  subst hgs
  refine wpList_append_own_at (w := W.alloc (.cells cs E)) hgd s x t ho base E i z sz bytes ht hi hz hsize hby hzs hsz v es.length (es.flatMap f) hs (hown.alloc _) ⟨W.heap.size, 0, none⟩ 1 1 (f y) hx
    (by rw [hf, Nat.one_mul]) ?_ (h1 y) (by unfold maxLen; omega) ?_ (by simp; omega) ?_
  · intro j u hj
    have hadd : (⟨W.heap.size, 0, none⟩ : Addr).add j = ⟨W.heap.size, j, none⟩ := by unfold Addr.add; split <;> simp_all
    rw [hadd, cell_of_row _ _ j cs E (0, 0) (heap_alloc_new W _), ← Array.getElem?_toList, hcs]
    exact hj
  · have : (es.length + 1) * bytes ≤ 2097153 * 1024 := Nat.mul_le_mul (by omega) hbytes
    omega
  · intro v' w' hown' hg _ _
    refine h v' w' ?_ (grown_drop_alloc hg)
    have e1 : (es ++ [y]).length = es.length + 1 := by simp
    have e2 : (es ++ [y]).flatMap f = es.flatMap f ++ f y := by simp
    unfold Own
    rw [e1, e2]; exact hown'

/-- one element more; and where the new slice lies -/
theorem wpList_push_at {P : Program} {ops : Array Oper} {rest : List Oper} {o : Oper} {a : Act} {Q : Exit → Act → World → Prop} {W : World} (hgd : o.guard = none) (s x : Operand) (t : TypeId)
    (ho : o.op = .call { callee := .builtin .append, args := #[s, x], argTypes := #[t, t] }) {α : Type} {f : α → List Value}
    (base : Nat) (E : TypeId) (i : TypeInfo) (z : Value) (sz bytes : Nat) (ht : P.underlying t = some (.slice E)) (hi : P.info? E = some i) (hz : i.zero = some z)
    (hsize : i.size = sz) (hby : i.bytes = bytes) (hzs : z.cells.size = sz) (hsz : 0 < sz) (hf : ∀ e, (f e).length = sz) (h1 : ∀ e u, u ∈ f e → u.oneCell' = true)
    (v : Value) (es : List α) (y : α) (hs : a.eval s = v) (hown : Own W base E sz f v es) (cs : Array Value) (hcs : cs.toList = f y) (g : Nat) (hx : a.eval x = .slice (some ⟨g, 0, none⟩) 1 1) (hgs : W.heap.size = g)
    (hlen : es.length ≤ 2097152) (hbytes : bytes ≤ 1024) (hbase : base ≤ W.heap.size)
    (h : ∀ v' w', Own w' base E sz f v' (es ++ [y]) → W.grownBy w' v.ownBlock → (v'.ownBlock = v.ownBlock ∨ v'.ownBlock = some (W.heap.size + 1)) → wpList P ops Q rest (a.put o.dst v') w') :
    wpList P ops Q (o :: rest) a (W.alloc (.cells cs E)) := by
  subst hgs
  refine wpList_append_own_at (w := W.alloc (.cells cs E)) hgd s x t ho base E i z sz bytes ht hi hz hsize hby hzs hsz v es.length (es.flatMap f) hs (hown.alloc _) ⟨W.heap.size, 0, none⟩ 1 1 (f y) hx
    (by rw [hf, Nat.one_mul]) ?_ (h1 y) (by unfold maxLen; omega) ?_ (by simp; omega) ?_
  · intro j u hj
    have hadd : (⟨W.heap.size, 0, none⟩ : Addr).add j = ⟨W.heap.size, j, none⟩ := by unfold Addr.add; split <;> simp_all
    rw [hadd, cell_of_row _ _ j cs E (0, 0) (heap_alloc_new W _), ← Array.getElem?_toList, hcs]
    exact hj
  · have : (es.length + 1) * bytes ≤ 2097153 * 1024 := Nat.mul_le_mul (by omega) hbytes
    omega
  · intro v' w' hown' hg _ hat
    refine h v' w' ?_ (grown_drop_alloc hg) (by simpa using hat)
    have e1 : (es ++ [y]).length = es.length + 1 := by simp
    have e2 : (es ++ [y]).flatMap f = es.flatMap f ++ f y := by simp
    unfold Own
    rw [e1, e2]; exact hown'
/-- another slice of the call's own keeps apart from one that grows -/
theorem apart_next {W : World} {b E s : Nat} {α : Type} {f : α → List Value} {O v v' : Value} {l : List α} (h : Own W b E s f O l) (hne : O.ownBlock = none ∨ O.ownBlock ≠ v.ownBlock) {N : Nat} (hN : W.heap.size ≤ N) (hat : v'.ownBlock = v.ownBlock ∨ v'.ownBlock = some N) :
    O.ownBlock = none ∨ O.ownBlock ≠ v'.ownBlock := by
  rcases hne with h0 | h0
  · exact .inl h0
  · rcases hat with h1 | h1
    · rw [h1]; exact .inr h0
    · cases hO : O.ownBlock with
      | none => exact .inl rfl
      | some k =>
        have := (World.ownsRow.lt h k hO).2
        refine .inr ?_
        rw [h1]; intro e; injection e with e; omega

theorem run_append_empty {P : Program} (w : World) {base t ty E : Nat} {i : TypeInfo} {sz n : Nat} {v : Value} {xs : List Value} (ht : P.underlying t = some (.slice E)) (hi : P.info? E = some i) (hown : w.ownsRow base E sz v n xs) (c : Nat) :
    (Builtin.append_ #[t, t] ty #[v, .slice none 0 c]).run P w = .ok v w := by
  rcases hown.2 with ⟨rfl, rfl⟩ | ⟨g, cap, cur, rfl, _, _, hnc, _⟩
  · simp [Builtin.append_, run_underlying ht, sizeOf, typeInfo, hi, Builtin.lenOf, Builtin.firstCells]
  · simp [Builtin.append_, run_underlying ht, sizeOf, typeInfo, hi, Builtin.lenOf, Builtin.firstCells, hnc, storeCells]

/-- a whole list more, wherever it lies; its address is not asked for where it is empty -/
theorem wpList_app {P : Program} {ops : Array Oper} {rest : List Oper} {o : Oper} {a : Act} {Q : Exit → Act → World → Prop} {W : World} (hgd : o.guard = none) (s x : Operand) (t : TypeId)
    (ho : o.op = .call { callee := .builtin .append, args := #[s, x], argTypes := #[t, t] }) {α : Type} {f : α → List Value}
    (base : Nat) (E : TypeId) (i : TypeInfo) (z : Value) (sz bytes : Nat) (ht : P.underlying t = some (.slice E)) (hi : P.info? E = some i) (hz : i.zero = some z)
    (hsize : i.size = sz) (hby : i.bytes = bytes) (hzs : z.cells.size = sz) (hsz : 0 < sz) (hf : ∀ e, (f e).length = sz) (h1 : ∀ e u, u ∈ f e → u.oneCell' = true)
    (v : Value) (es fs : List α) (hs : a.eval s = v) (hown : Own W base E sz f v es) (B : Nat) (A : Option Addr) (m c : Nat) (hx : a.eval x = .slice A m c) (hsl : Sl W B sz f A m fs)
    (hlen : es.length ≤ 2097152) (hm : m ≤ 2097152) (hbytes : bytes ≤ 1024) (hbase : base ≤ W.heap.size)
    (h : ∀ v' w', Own w' base E sz f v' (es ++ fs) → W.grownBy w' v.ownBlock → wpList P ops Q rest (a.put o.dst v') w') :
    wpList P ops Q (o :: rest) a W := by
  have hl := hsl.len
  cases A with
  | none =>
    have hm0 : m = 0 := by
      rcases Nat.eq_zero_or_pos m with h0 | h0
      · exact h0
      · obtain ⟨b, off, e, _⟩ := hsl.at_ h0; cases e
    subst hm0
    have hfs : fs = [] := List.eq_nil_of_length_eq_zero hl
    subst hfs
    refine wpList_plain hgd fun K hK => ?_
    have hrun := run_append_empty (P := P) W (ty := o.type) ht hi hown c
    unfold Oper.wp execOp
    simp only [ho, resolve, invoke, builtin, Sem.run_bind, Sem.run_pure, Result.andThen_ok, List.map_toArray, List.map_cons, List.map_nil, hs, hx, hrun]
    exact hK _ _ (h v W (by simpa using hown) (World.grownBy.refl W _))
  | some ad =>
    refine wpList_append_own_at (w := W) hgd s x t ho base E i z sz bytes ht hi hz hsize hby hzs hsz v es.length (es.flatMap f) hs hown ad m c (fs.flatMap f) hx (by rw [flat_len hf, hl]) ?_
      (fun u hu => by obtain ⟨e, _, he⟩ := List.mem_flatMap.1 hu; exact h1 e u he) (by unfold maxLen; omega) ?_ hbase ?_
    · intro j u hj
      rcases Nat.eq_zero_or_pos m with h0 | h0
      · subst h0
        have hfs : fs = [] := List.eq_nil_of_length_eq_zero hl
        subst hfs
        simp at hj
      · obtain ⟨b, off, e, hb, H⟩ := hsl.at_ h0
        injection e with e
        subst e
        have hjl : j < (fs.flatMap f).length := (List.getElem?_eq_some_iff.1 hj).1
        rw [flat_len hf] at hjl
        have hk : j / sz < fs.length := Nat.div_lt_of_lt_mul (by rw [Nat.mul_comm]; exact hjl)
        have hr : j % sz < sz := Nat.mod_lt _ hsz
        have hjj : j / sz * sz + j % sz = j := by rw [Nat.mul_comm]; exact Nat.div_add_mod j sz
        have hv : (f fs[j / sz])[j % sz]? = some ((f fs[j / sz])[j % sz]'(by rw [hf]; exact hr)) := List.getElem?_eq_getElem _
        have hg := flat_get hf fs (j / sz) (j % sz) _ _ (List.getElem?_eq_getElem hk) hv
        rw [hjj, hj] at hg
        injection hg with hg
        have hc := H (j / sz) _ (List.getElem?_eq_getElem hk) (j % sz) _ hv
        have hadd : (⟨b, off, none⟩ : Addr).add j = ⟨b, off + j, none⟩ := by unfold Addr.add; split <;> simp_all
        rw [hadd, hg, ← hc, Nat.add_assoc, hjj]
    · have : (es.length + m) * bytes ≤ 4194304 * 1024 := Nat.mul_le_mul (by omega) hbytes
      omega
    · intro v' w' hown' hg _ _
      refine h v' w' ?_ hg
      unfold Own
      rw [List.length_append, List.flatMap_append, hl]; exact hown'

end Go.Proofs.YtgbblcbpmpokdaaGreatDoor

/- Walks over functions of this seat, by contract. Conditions: those that each theorem states. -/
import Derived.Test.YtgbblcbpmpokdaaV5
import Derived.Deep.RegionHeld3
import Derived.Deep.RegionLaw
namespace Go.Proofs.Ytgbblcbpmpokdaa
open Go.RowKit Go.Sort

theorem info_int : (Try.prog.info? 3).map (fun i => (i.zero, i.size, i.bytes)) = some (some (.int .i64 0), 1, 8) := by kernel_rfl
theorem add_pl0 (b o k : Nat) : (⟨b, o, none⟩ : Addr).add k = ⟨b, o + k, none⟩ := by unfold Addr.add; split <;> simp_all
/-- one integer more, in a region that draws its order; with where the new slice lies -/
theorem step_one {W : World} {ops : Array Oper} {o : Oper} {a : Act} {K : Act → World → Prop} {Q : Exit → Act → World → Prop} {X : Prop} (hgd : o.guard = none) (s x : Operand) (t : TypeId)
    (ho : o.op = .call { callee := .builtin .append, args := #[s, x], argTypes := #[t, t] })
    (base : Nat) (E : TypeId) (i : TypeInfo) (z : Value) (bytes : Nat) (ht : Try.prog.underlying t = some (.slice E)) (hi : Try.prog.info? E = some i) (hz : i.zero = some z)
    (hsize : i.size = 1) (hby : i.bytes = bytes) (hzs : z.cells.size = 1)
    (v : Value) (es : List Int) (y : Int) (hs : a.eval s = v) (hown : Own W base E 1 icell v es) (g : Nat) (hx : a.eval x = .slice (some ⟨g, 0, none⟩) 1 1) (hc : W.cell? ⟨g, 0, none⟩ = some (.int .i64 y))
    (hlen : es.length ≤ 2097152) (hbytes : bytes ≤ 1024) (hbase : base ≤ W.heap.size)
    (h : ∀ v' w', Own w' base E 1 icell v' (es ++ [y]) → W.grownBy w' v.ownBlock → (v'.ownBlock = v.ownBlock ∨ v'.ownBlock = some W.heap.size) → K (a.put o.dst v') w') :
    if Region.wanted o (yielded ops a.tmps) = true then Oper.wp Try.prog o a W K Q else X := by
  have hw : Region.wanted o (yielded ops a.tmps) = true := by simp [Region.wanted, hgd]
  rw [if_pos hw]
  obtain ⟨v', w', hr, h2, h3, _, h4⟩ := run_append_own_at (P := Try.prog) (w := W) base t o.type E i z 1 bytes ht hi hz hsize hby hzs (by omega) v es.length (es.flatMap icell) hown ⟨g, 0, none⟩ 1 1 [.int .i64 y] rfl (by
      intro j u hj
      cases j with
      | zero => simp at hj; subst hj; rw [add_pl0]; simpa using hc
      | succ j => simp at hj) (fun u hu => by simp at hu; subst hu; rfl) (by unfold maxLen; omega) (by
        have : (es.length + 1) * bytes ≤ 2097153 * 1024 := Nat.mul_le_mul (by omega) hbytes
        omega) hbase
  have ho' : Own w' base E 1 icell v' (es ++ [y]) := by
    unfold Own
    rw [List.length_append, List.flatMap_append]
    exact h2
  unfold Oper.wp execOp
  simp only [ho, resolve, invoke, builtin, Sem.run_bind, Sem.run_pure, Result.andThen_ok, List.map_toArray, List.map_cons, List.map_nil, hs, hx, hr]
  exact h v' w' ho' h3 h4
theorem ap_sym2 {a b : Option Nat} (h : a = none ∨ a ≠ b) : b = none ∨ b ≠ a := by
  rcases h with h | h
  · cases b with
    | none => exact .inl rfl
    | some k => exact .inr (by rw [h]; intro e; cases e)
  · exact .inr (Ne.symm h)
theorem grown_frozen {W W' : World} {row : Option Nat} (hg : W.grownBy W' row) {p : Addr} (hl : p.block < W.heap.size) (hne : row ≠ some p.block) : W'.frozen? p = W.frozen? p := by
  simp only [World.frozen?, hg.block _ hl (fun h => hne (by first | exact h | exact h.symm))]
theorem frozen_st (W : World) (p q : Addr) (v : Value) : (W.setCell p v).frozen? q = W.frozen? q := by
  first | exact World.frozen?_setCell _ _ _ _ | simp
theorem nw1 (W : World) (v : Value) (E : Nat) : (W.alloc (.cells #[v] E)).cell? ⟨W.heap.size, 0, none⟩ = some v := by rw [cell_of_row _ _ _ _ _ (0, 0) (heap_alloc_new W _)]; rfl
theorem nw2 (W : World) (v : Value) (E : Nat) (o : Obj) : ((W.alloc (.cells #[v] E)).alloc o).cell? ⟨W.heap.size, 0, none⟩ = some v := cell_on (nw1 W v E) (below_al (Below.refl _ _) o) (by simp)
theorem nw3 (W : World) (v : Value) (E : Nat) (o : Obj) : ((W.alloc o).alloc (.cells #[v] E)).cell? ⟨W.heap.size + 1, 0, none⟩ = some v := by
  have := nw1 (W.alloc o) v E
  rwa [show (W.alloc o).heap.size = W.heap.size + 1 from by simp] at this
theorem sz2 (W : World) (o o' : Obj) : W.heap.size + 1 < ((W.alloc o).alloc o').heap.size := by simp
structure SO (w W : World) (T s : Int) (A : Option Addr) (n c : Nat) (vb v6 v7 : Value) (L6 L7 : List Int) : Prop where
  p6 : Own W (w.heap.size + 3) 2 1 icell v6 L6
  p7 : Own W (w.heap.size + 3) 3 1 icell v7 L7
  bc : v6.ownBlock = none ∨ v6.ownBlock ≠ v7.ownBlock
  o6 : v6.ownBlock ≠ some (w.heap.size + 5)
  o7 : v7.ownBlock ≠ some (w.heap.size + 5)
  xT : W.cell? ⟨w.heap.size, 0, none⟩ = some (.int .i64 T)
  xW : W.cell? ⟨w.heap.size + 1, 0, none⟩ = some (.slice A n c)
  xS : W.cell? ⟨w.heap.size + 2, 0, none⟩ = some (.int .i64 s)
  xO : W.cell? ⟨w.heap.size + 5, 0, none⟩ = some vb
  fO : W.frozen? ⟨w.heap.size + 5, 0, none⟩ = false
  sz : w.heap.size + 5 < W.heap.size
  bel : Below w.heap.size w W
section
variable {w W W' : World} {T s : Int} {A : Option Addr} {n c : Nat} {vb v6 v7 v6' v7' : Value} {L6 L7 L6' L7' : List Int}
theorem apart_at {W : World} {b E s : Nat} {α : Type} {f : α → List Value} {O v v' : Value} {l : List α} (h : Own W b E s f O l) (hne : O.ownBlock = none ∨ O.ownBlock ≠ v.ownBlock) {N : Nat} (hN : W.heap.size ≤ N) (hat : v'.ownBlock = v.ownBlock ∨ v'.ownBlock = some N) :
    O.ownBlock = none ∨ O.ownBlock ≠ v'.ownBlock := apart_next h hne hN hat
theorem SO.low {b : Nat} (h : SO w W T s A n c vb v6 v7 L6 L7) (hb : b < w.heap.size + 3) : v6.ownBlock ≠ some b ∧ v7.ownBlock ≠ some b :=
  ⟨fun e => absurd (World.ownsRow.lt h.p6 _ e).1 (by omega), fun e => absurd (World.ownsRow.lt h.p7 _ e).1 (by omega)⟩
theorem SO.base (h : SO w W T s A n c vb v6 v7 L6 L7) : w.heap.size + 3 ≤ W.heap.size := by have := h.sz; omega
theorem SO.al (h : SO w W T s A n c vb v6 v7 L6 L7) (o : Obj) : SO w (W.alloc o) T s A n c vb v6 v7 L6 L7 :=
  have hb := below_al (Below.refl W.heap.size W) o
  have hz := h.sz
  ⟨own_alloc h.p6 o, own_alloc h.p7 o, h.bc, h.o6, h.o7, cell_on h.xT hb (by omega), cell_on h.xW hb (by omega), cell_on h.xS hb (by omega), cell_on h.xO hb hz, (hb.frozen (p := ⟨w.heap.size + 5, 0, none⟩) hz).trans h.fO, Nat.lt_of_lt_of_le hz hb.size, below_al h.bel o⟩
theorem SO.dr (h : SO w W T s A n c vb v6 v7 L6 L7) : SO w W.drew T s A n c vb v6 v7 L6 L7 :=
  have hb := below_dr (Below.refl W.heap.size W)
  have hz := h.sz
  ⟨h.p6.below hb (Nat.le_refl _), h.p7.below hb (Nat.le_refl _), h.bc, h.o6, h.o7, cell_on h.xT hb (by omega), cell_on h.xW hb (by omega), cell_on h.xS hb (by omega), cell_on h.xO hb hz, (hb.frozen (p := ⟨w.heap.size + 5, 0, none⟩) hz).trans h.fO, Nat.lt_of_lt_of_le hz hb.size, below_dr h.bel⟩
theorem SO.push6 (h : SO w W T s A n c vb v6 v7 L6 L7) (ho : Own W' (w.heap.size + 3) 2 1 icell v6' L6') (hg : W.grownBy W' v6.ownBlock) (hat : v6'.ownBlock = v6.ownBlock ∨ v6'.ownBlock = some W.heap.size) : SO w W' T s A n c vb v6' v7 L6' L7 := by
  have hz := h.sz
  refine ⟨ho, own_other h.p7 (ap_sym2 h.bc) hg, ap_sym2 (apart_at h.p7 (ap_sym2 h.bc) (Nat.le_refl _) hat), ?_, h.o7, (grown_cell hg (by show w.heap.size < _; omega) (h.low (b := w.heap.size) (by omega)).1).trans h.xT, (grown_cell hg (by show w.heap.size + 1 < _; omega) (h.low (b := w.heap.size + 1) (by omega)).1).trans h.xW, (grown_cell hg (by show w.heap.size + 2 < _; omega) (h.low (b := w.heap.size + 2) (by omega)).1).trans h.xS, (grown_cell hg hz h.o6).trans h.xO, (grown_frozen hg hz h.o6).trans h.fO, Nat.lt_of_lt_of_le hz hg.size, own_grown h.bel h.p6 (by omega) (by omega) hg⟩
  rcases hat with e | e
  · rw [e]; exact h.o6
  · rw [e]; intro e1; injection e1 with e1; omega
theorem SO.push7 (h : SO w W T s A n c vb v6 v7 L6 L7) (ho : Own W' (w.heap.size + 3) 3 1 icell v7' L7') (hg : W.grownBy W' v7.ownBlock) (hat : v7'.ownBlock = v7.ownBlock ∨ v7'.ownBlock = some W.heap.size) : SO w W' T s A n c vb v6 v7' L6 L7' := by
  have hz := h.sz
  refine ⟨own_other h.p6 h.bc hg, ho, apart_at h.p6 h.bc (Nat.le_refl _) hat, h.o6, ?_, (grown_cell hg (by show w.heap.size < _; omega) (h.low (b := w.heap.size) (by omega)).2).trans h.xT, (grown_cell hg (by show w.heap.size + 1 < _; omega) (h.low (b := w.heap.size + 1) (by omega)).2).trans h.xW, (grown_cell hg (by show w.heap.size + 2 < _; omega) (h.low (b := w.heap.size + 2) (by omega)).2).trans h.xS, (grown_cell hg hz h.o7).trans h.xO, (grown_frozen hg hz h.o7).trans h.fO, Nat.lt_of_lt_of_le hz hg.size, own_grown h.bel h.p7 (by omega) (by omega) hg⟩
  rcases hat with e | e
  · rw [e]; exact h.o7
  · rw [e]; intro e1; injection e1 with e1; omega
theorem own_st {W : World} {b E s g o : Nat} {α : Type} {f : α → List Value} {v u : Value} {l : List α} (ho : Own W b E s f v l) (hne : v.ownBlock ≠ some g) : Own (W.setCell ⟨g, o, none⟩ u) b E s f v l := by
  refine ⟨ho.1, ?_⟩
  rcases ho.2 with h2 | ⟨g', cap, cur, hv, hg, hh, r⟩
  · exact .inl h2
  · refine .inr ⟨g', cap, cur, hv, hg, ?_, r⟩
    have : (W.setCell ⟨g, o, none⟩ u).heap[g']? = W.heap[g']? := Below.heap_setCell W _ u g' (fun e => hne (by rw [hv]; show some g' = some g; rw [e]))
    rw [this]; exact hh
theorem SO.st (h : SO w W T s A n c vb v6 v7 L6 L7) : SO w (W.setCell ⟨w.heap.size + 5, 0, none⟩ v7) T s A n c v7 v6 v7 L6 L7 := by
  have hf : ∀ b, b ≠ w.heap.size + 5 → (W.setCell ⟨w.heap.size + 5, 0, none⟩ v7).cell? ⟨b, 0, none⟩ = W.cell? ⟨b, 0, none⟩ := fun b hb => by
    rw [World.cell?_setCell_far _ _ _ _ (fun e => hb e.symm)]
  have hz := h.sz
  exact ⟨own_st h.p6 h.o6, own_st h.p7 h.o7, h.bc, h.o6, h.o7, (hf _ (by omega)).trans h.xT, (hf _ (by omega)).trans h.xW, (hf _ (by omega)).trans h.xS, World.cell?_setCell_same' _ _ _ (by rw [h.xO]; rfl), (frozen_st _ _ _ _).trans h.fO, by simpa [World.setCell] using h.sz, below_st h.bel _ (by show w.heap.size ≤ w.heap.size + 5; omega) _⟩
end
theorem SO.start (w : World) (T s : Int) (A : Option Addr) (n c : Nat) (E0 E1 E2 E5 : TypeId) : SO w ((((((w.alloc (.cells #[.int .i64 T] E0)).alloc (.cells #[.slice A n c] E1)).alloc (.cells #[.int .i64 s] E2)).alloc (.cells #[] 2)).alloc (.cells #[] 3)).alloc (.cells #[.slice (some ⟨w.heap.size + 4, 0, none⟩) 0 0] E5)) T s A n c (.slice (some ⟨w.heap.size + 4, 0, none⟩) 0 0) (.slice (some ⟨w.heap.size + 3, 0, none⟩) 0 0) (.slice (some ⟨w.heap.size + 4, 0, none⟩) 0 0) [] [] := by
  have e : ∀ (W : World) (o : Obj), (W.alloc o).heap.size = W.heap.size + 1 := fun W o => by simp
  have nw : ∀ (W : World) (v : Value) (E : Nat), (W.alloc (.cells #[v] E)).cell? ⟨W.heap.size, 0, none⟩ = some v := fun W v E => by rw [cell_of_row _ _ _ _ _ (0, 0) (heap_alloc_new W _)]; rfl
  have nf : ∀ (W : World) (v : Value) (E : Nat), (W.alloc (.cells #[v] E)).frozen? ⟨W.heap.size, 0, none⟩ = false := fun W v E => by
    have := heap_alloc_new W (.cells #[v] E)
    unfold World.frozen?
    show (match (W.alloc (.cells #[v] E)).heap[W.heap.size]? with | some (.cells _ _ (lo, hi)) => decide (lo ≤ 0) && decide (0 < hi) | _ => false) = false
    rw [this]; rfl
  have bl : ∀ (W : World) (o : Obj), Below W.heap.size W (W.alloc o) := fun W o => below_al (Below.refl _ _) o
  obtain ⟨W1, h1⟩ : ∃ W1, W1 = w.alloc (.cells #[.int .i64 T] E0) := ⟨_, rfl⟩
  obtain ⟨W2, h2⟩ : ∃ W2, W2 = W1.alloc (.cells #[.slice A n c] E1) := ⟨_, rfl⟩
  obtain ⟨W3, h3⟩ : ∃ W3, W3 = W2.alloc (.cells #[.int .i64 s] E2) := ⟨_, rfl⟩
  obtain ⟨W4, h4⟩ : ∃ W4, W4 = W3.alloc (.cells #[] 2) := ⟨_, rfl⟩
  obtain ⟨W5, h5⟩ : ∃ W5, W5 = W4.alloc (.cells #[] 3) := ⟨_, rfl⟩
  obtain ⟨W6, h6⟩ : ∃ W6, W6 = W5.alloc (.cells #[.slice (some ⟨w.heap.size + 4, 0, none⟩) 0 0] E5) := ⟨_, rfl⟩
  rw [← h1, ← h2, ← h3, ← h4, ← h5, ← h6]
  have s1 : W1.heap.size = w.heap.size + 1 := by rw [h1, e]
  have s2 : W2.heap.size = w.heap.size + 2 := by rw [h2, e, s1]
  have s3 : W3.heap.size = w.heap.size + 3 := by rw [h3, e, s2]
  have s4 : W4.heap.size = w.heap.size + 4 := by rw [h4, e, s3]
  have s5 : W5.heap.size = w.heap.size + 5 := by rw [h5, e, s4]
  have s6 : W6.heap.size = w.heap.size + 6 := by rw [h6, e, s5]
  have b1 : Below w.heap.size w W1 := by rw [h1]; exact bl _ _
  have b2 : Below W1.heap.size W1 W2 := by rw [h2]; exact bl _ _
  have b3 : Below W2.heap.size W2 W3 := by rw [h3]; exact bl _ _
  have b4 : Below W3.heap.size W3 W4 := by rw [h4]; exact bl _ _
  have b5 : Below W4.heap.size W4 W5 := by rw [h5]; exact bl _ _
  have b6 : Below W5.heap.size W5 W6 := by rw [h6]; exact bl _ _
  have b36 := below_then b4 (below_then b5 b6)
  have b26 := below_then b3 b36
  have b16 := below_then b2 b26
  have x0 : W1.cell? ⟨w.heap.size, 0, none⟩ = some (.int .i64 T) := by rw [h1]; exact nw _ _ _
  have x1 : W2.cell? ⟨w.heap.size + 1, 0, none⟩ = some (.slice A n c) := by rw [h2, ← s1]; exact nw _ _ _
  have x2 : W3.cell? ⟨w.heap.size + 2, 0, none⟩ = some (.int .i64 s) := by rw [h3, ← s2]; exact nw _ _ _
  have x5 : W6.cell? ⟨w.heap.size + 5, 0, none⟩ = some (.slice (some ⟨w.heap.size + 4, 0, none⟩) 0 0) := by rw [h6, ← s5]; exact nw _ _ _
  have f5 : W6.frozen? ⟨w.heap.size + 5, 0, none⟩ = false := by rw [h6, ← s5]; exact nf _ _ _
  have q6 : Own W4 (w.heap.size + 3) 2 1 icell (.slice (some ⟨w.heap.size + 3, 0, none⟩) 0 0) ([] : List Int) := by
    have := own_new_empty (α := Int) W3 (w.heap.size + 3) 2 1 icell (by omega)
    rw [← h4, s3] at this; exact this
  have q7 : Own W5 (w.heap.size + 3) 3 1 icell (.slice (some ⟨w.heap.size + 4, 0, none⟩) 0 0) ([] : List Int) := by
    have := own_new_empty (α := Int) W4 (w.heap.size + 3) 3 1 icell (by omega)
    rw [← h5, s4] at this; exact this
  exact ⟨q6.below (below_then b5 b6) (Nat.le_refl _), q7.below b6 (Nat.le_refl _), .inr (by simp [Value.ownBlock]), by simp [Value.ownBlock], by simp [Value.ownBlock], cell_on x0 b16 (by omega), cell_on x1 b26 (by omega), cell_on x2 b36 (by omega), x5, f5, by omega, below_then b1 b16⟩
theorem SO.set6 {w W : World} {T s : Int} {A : Option Addr} {n c g n6 c6 : Nat} {vb v7 : Value} {L6 L7 : List Int} (h : SO w W T s A n c vb (.slice (some ⟨g, 0, none⟩) n6 c6) v7 L6 L7) {k : Nat} (hk : k < L6.length) (y : Int) :
    SO w (W.setCell ⟨g, k, none⟩ (.int .i64 y)) T s A n c vb (.slice (some ⟨g, 0, none⟩) n6 c6) v7 (L6.set k y) L7 := by
  have h1 := World.ownsRow.lt h.p6 g rfl
  have h5 : g ≠ w.heap.size + 5 := fun e => h.o6 (by show some g = _; rw [e])
  have h7 : v7.ownBlock ≠ some g := by
    rcases h.bc with e | e
    · cases e
    · exact fun e2 => e (by show some g = _; rw [e2])
  have hf : ∀ b, b ≠ g → (W.setCell ⟨g, k, none⟩ (.int .i64 y)).cell? ⟨b, 0, none⟩ = W.cell? ⟨b, 0, none⟩ := fun b hb => by
    rw [World.cell?_setCell_far _ _ _ _ (fun e => hb e.symm)]
  have p6 : Own (W.setCell ⟨g, k, none⟩ (.int .i64 y)) (w.heap.size + 3) 2 1 icell (.slice (some ⟨g, 0, none⟩) n6 c6) (L6.set k y) := by
    have := Own.store icell_len h.p6 (k := k) (j := 0) (e := L6[k]) (e' := y) (u := .int .i64 y) (List.getElem?_eq_getElem hk) (by omega) rfl
    simpa using this
  exact ⟨p6, own_st h.p7 h7, h.bc, h.o6, h.o7, (hf _ (by omega)).trans h.xT, (hf _ (by omega)).trans h.xW, (hf _ (by omega)).trans h.xS, (hf _ (by omega)).trans h.xO, (frozen_st _ _ _ _).trans h.fO, by simpa [World.setCell] using h.sz, below_st h.bel _ (by show w.heap.size ≤ g; omega) _⟩
theorem SO.on {w W W' : World} {T s : Int} {A : Option Addr} {n c : Nat} {vb v6 v7 : Value} {L6 L7 : List Int} (h : SO w W T s A n c vb v6 v7 L6 L7) (hb : Below W.heap.size W W') : SO w W' T s A n c vb v6 v7 L6 L7 :=
  have hz := h.sz
  ⟨h.p6.below hb (Nat.le_refl _), h.p7.below hb (Nat.le_refl _), h.bc, h.o6, h.o7, cell_on h.xT hb (by omega), cell_on h.xW hb (by omega), cell_on h.xS hb (by omega), cell_on h.xO hb hz, (hb.frozen (p := ⟨w.heap.size + 5, 0, none⟩) hz).trans h.fO, Nat.lt_of_lt_of_le hz hb.size, below_then h.bel hb⟩
theorem isum_nn : ∀ {xs : List Int}, (∀ x ∈ xs, 0 ≤ x) → 0 ≤ isum xs
  | [], _ => by simp [isum, sumBy]
  | y :: xs, h => by
    have e1 : isum (y :: xs) = y + isum xs := by simp [isum, sumBy]
    have := isum_nn (xs := xs) (fun x hx => h x (List.mem_cons_of_mem _ hx))
    have := h y (by simp)
    omega
theorem sum_ge : ∀ {xs : List Int}, (∀ x ∈ xs, 0 ≤ x) → ∀ x ∈ xs, x ≤ isum xs
  | [], _, x, hx => by simp at hx
  | y :: xs, h, x, hx => by
    have e1 : isum (y :: xs) = y + isum xs := by simp [isum, sumBy]
    have h0 : 0 ≤ isum xs := isum_nn (fun x hx => h x (List.mem_cons_of_mem _ hx))
    have hy := h y (by simp)
    rcases List.mem_cons.1 hx with rfl | hx
    · omega
    · have := sum_ge (fun x hx => h x (List.mem_cons_of_mem _ hx)) x hx
      omega
theorem share_bd {T s x : Int} (hT : 0 ≤ T) (hs : 0 < s) (hx0 : 0 ≤ x) (hx : x ≤ s) : 0 ≤ T * x / s ∧ T * x / s ≤ T := by
  have h1 : 0 ≤ T * x := Int.mul_nonneg hT hx0
  have h2 : T * x ≤ T * s := Int.mul_le_mul_of_nonneg_left hx hT
  exact ⟨Int.ediv_nonneg h1 (by omega), Int.ediv_le_of_le_mul hs h2⟩
theorem shares_succ {T s : Int} {ws : List Int} {k : Nat} {x : Int} (hx : ws[k]? = some x) : shares T s (ws.take (k + 1)) = shares T s (ws.take k) ++ [T * x / s] := by
  obtain ⟨hk, he⟩ := List.getElem?_eq_some_iff.1 hx
  rw [List.take_succ_eq_append_getElem hk, shares, List.map_append, he]; rfl
theorem all_succ (k : Nat) : all_ (k + 1) = all_ k ++ [(k : Int)] := idxs_yes rfl
set_option maxHeartbeats 4000000 in
set_option maxRecDepth 100000 in
theorem impl_shareOut (A : Option Addr) (n c : Nat) (ws : List Int) (T s : Int) (w : World) (hmax : n ≤ 60) (hT : 0 ≤ T ∧ T ≤ 1000000000) (hs : 0 < s) (hsum : isum ws = s) (hws : ∀ x ∈ ws, 0 ≤ x ∧ x ≤ 100000000) (h : Sl w w.heap.size 1 icell A n ws) :
    Calls Try.prog 34 #[.int .i64 T, .slice A n c] w fun e w' => ∃ v, e = .returned v ∧ Own w' w.heap.size 2 1 icell v (dues T s ws) ∧ Below w.heap.size w w' := by
  obtain ⟨i0, hi, hz0, hz1, hz2⟩ := info_parts info_i64
  obtain ⟨j0, ki, kz0, kz1, kz2⟩ := info_parts info_int
  have Hn := Lib.hid h.len
  have hs6 : s ≤ 6000000000 := by
    have := isum_bd hws n
    rw [List.take_of_length_le (by rw [h.len]; exact Nat.le_refl _), h.len, hsum] at this
    omega
  have Hws := Lib.hid hws
  have Hsum := Lib.hid hsum
  have HT := Lib.hid hT
  clear hws hsum
  go_enter Try.func34, Try.ntmps34
  go_wp2_with (go_at_call 68; refine (impl_sum _ _ _ ws _ (by omega) (fun x hx => by have := Hws.out x hx; omega) (h.on (below_al (below_al (Below.refl _ _) _) _))).mono ?_; rintro e w1 ⟨rfl, rfl⟩; rw [Hsum.out])
  go_loopw [6, 18] (fun v6 i wr => ∃ (k : Nat) (v7 : Value), k ≤ n ∧ i = .int .i64 k ∧ Hid (SO w wr T s A n c v7 v6 v7 (shares T s (ws.take k)) (all_ k))) (fun _ i _ => n - (intOf i).toNat)
  case atStart =>
    exact ⟨0, .slice (some ⟨w.heap.size + 1 + 1 + 1 + 1, 0, none⟩) 0 0, by omega, rfl, Lib.hid (SO.start w T s A n c _ _ _ _)⟩
  case round =>
    obtain ⟨k, v7, hk, rfl, HS⟩ := hrel
    obtain ⟨A6, n6, c6, rfl, _, _⟩ := own_shape HS.out.p6
    obtain ⟨A7, n7, c7, rfl, _, _⟩ := own_shape HS.out.p7
    have xT := HS.out.xT
    have xW := HS.out.xW
    have xS : wr.cell? ⟨w.heap.size + 1 + 1, 0, none⟩ = some (.int .i64 s) := HS.out.xS
    have xO : wr.cell? ⟨w.heap.size + 1 + 1 + 1 + 1 + 1, 0, none⟩ = some (.slice A7 n7 c7) := HS.out.xO
    by_cases hlt : k < n
    · obtain ⟨b, off, rfl, hb, H⟩ := h.at_ (by omega)
      obtain ⟨x, hx⟩ := h.get hlt
      have c0 := (H.below HS.out.bel hb).i1 hx
      have hxb := Hws.out x (List.mem_of_getElem? hx)
      obtain ⟨y0, y1⟩ := prod_bd HT.out hxb
      have hwr : IntKind.i64.wrap (T * x) = T * x := IntWalk.i64_in _ (by omega)
      obtain ⟨q, hq⟩ : ∃ q, T * x / s = q := ⟨_, rfl⟩
      have hq0 : 0 ≤ q := by rw [← hq]; exact Int.ediv_nonneg y0 (by omega)
      have hq1 : q ≤ 100000000000000000 := by rw [← hq]; exact Int.le_trans (Int.ediv_le_self _ y0) y1
      have htd : (T * x).tdiv s = q := by rw [Int.tdiv_eq_ediv_of_nonneg y0, hq]
      have hwq : IntKind.i64.wrap q = q := IntWalk.i64_in _ (by omega)
      have hs0 : (s == 0) = false := by simp; omega
      have hs1 : ¬ s = 0 := by omega
      have Hq := Lib.hid hq
      have Hx := Lib.hid hx
      have hszr := HS.out.sz
      have zz1 : ∀ o o', ((wr.alloc o).alloc o').cell? ⟨w.heap.size + 1 + 1 + 1 + 1 + 1, 0, none⟩ = some (.slice A7 n7 c7) := fun o o' => cell_on xO (below_al (below_al (Below.refl _ _) o) o') hszr
      have zz2 : ∀ o o', ((wr.alloc o).alloc o').cell? ⟨w.heap.size + 1 + 1, 0, none⟩ = some (.int .i64 s) := fun o o' => cell_on xS (below_al (below_al (Below.refl _ _) o) o') (by omega)
      have zz3 : ∀ o o', ((wr.alloc o).alloc o').cell? ⟨w.heap.size, 0, none⟩ = some (.int .i64 T) := fun o o' => cell_on xT (below_al (below_al (Below.refl _ _) o) o') (by omega)
      have zy1 : ∀ o, (wr.alloc o).cell? ⟨w.heap.size + 1 + 1 + 1 + 1 + 1, 0, none⟩ = some (.slice A7 n7 c7) := fun o => cell_on xO (below_al (Below.refl _ _) o) hszr
      have zy2 : ∀ o, (wr.alloc o).cell? ⟨w.heap.size + 1 + 1, 0, none⟩ = some (.int .i64 s) := fun o => cell_on xS (below_al (Below.refl _ _) o) (by omega)
      have zy3 : ∀ o, (wr.alloc o).cell? ⟨w.heap.size, 0, none⟩ = some (.int .i64 T) := fun o => cell_on xT (below_al (Below.refl _ _) o) (by omega)
      have hne1 : (Value.slice A6 n6 c6).ownBlock ≠ some wr.heap.size := fun e1 => absurd (World.ownsRow.lt HS.out.p6 _ e1).2 (Nat.lt_irrefl _)
      have hne2 : (Value.slice A6 n6 c6).ownBlock ≠ some (wr.heap.size + 1) := fun e1 => absurd (World.ownsRow.lt HS.out.p6 _ e1).2 (by omega)
      clear hx hq hxb H
      go_wp2_with fail
      go_region_law (first
          | (refine step_one (by rfl) _ _ 23 (by rfl) (w.heap.size + 3) 2 i0 _ 8 Try.underlying23 hi hz0 hz1 hz2 rfl (.slice A6 n6 c6) (shares T s (ws.take k)) q (by rfl) (HS.out.dr.al (.cells #[.int .i64 q] 2)).p6 (wr.heap.size) (by rfl) (nw1 wr (.int .i64 q) _) (by rw [shares_len, List.length_take]; omega) (by omega) (HS.out.dr.al (.cells #[.int .i64 q] 2)).base ?_; intro v30 w30 ho30 hg30 hat30; obtain ⟨A9, n9, c9, rfl, _, _⟩ := own_shape ho30; have HS30 := Lib.hid (SO.push6 (HS.out.dr.al (.cells #[.int .i64 q] 2)) ho30 hg30 hat30); have s30 := hg30.size; have zO : w30.cell? ⟨w.heap.size + 1 + 1 + 1 + 1 + 1, 0, none⟩ = some (.slice A7 n7 c7) := HS30.out.xO; have zl : w.heap.size + 1 + 1 + 1 + 1 + 1 < w30.heap.size := HS30.out.sz; clear ho30 hg30 hat30)
          | (refine step_one (by rfl) _ _ 23 (by rfl) (w.heap.size + 3) 2 i0 _ 8 Try.underlying23 hi hz0 hz1 hz2 rfl (.slice A6 n6 c6) (shares T s (ws.take k)) q (by rfl) ((HS.out.dr.al (.cells #[.int .i64 q] 2)).al (.cells #[.int .i64 (k : Int)] 3)).p6 (wr.heap.size) (by rfl) (nw2 wr (.int .i64 q) 2 (.cells #[.int .i64 (k : Int)] 3)) (by rw [shares_len, List.length_take]; omega) (by omega) ((HS.out.dr.al (.cells #[.int .i64 q] 2)).al (.cells #[.int .i64 (k : Int)] 3)).base ?_; intro v30 w30 ho30 hg30 hat30; obtain ⟨A9, n9, c9, rfl, _, _⟩ := own_shape ho30; have HS30 := Lib.hid (SO.push6 ((HS.out.dr.al (.cells #[.int .i64 q] 2)).al (.cells #[.int .i64 (k : Int)] 3)) ho30 hg30 hat30); have s30 := hg30.size; have y33 : w30.cell? ⟨wr.heap.size + 1, 0, none⟩ = some (.int .i64 (k : Int)) := (grown_cell (p := ⟨wr.heap.size + 1, 0, none⟩) hg30 (sz2 wr (.cells #[.int .i64 q] 2) (.cells #[.int .i64 (k : Int)] 3)) hne2).trans (nw3 wr (.int .i64 (k : Int)) 3 (.cells #[.int .i64 q] 2)); have zO : w30.cell? ⟨w.heap.size + 1 + 1 + 1 + 1 + 1, 0, none⟩ = some (.slice A7 n7 c7) := HS30.out.xO; have zl : w.heap.size + 1 + 1 + 1 + 1 + 1 < w30.heap.size := HS30.out.sz; clear ho30 hg30 hat30)
          | (refine step_one (by rfl) _ _ 23 (by rfl) (w.heap.size + 3) 2 i0 _ 8 Try.underlying23 hi hz0 hz1 hz2 rfl (.slice A6 n6 c6) (shares T s (ws.take k)) q (by rfl) ((HS.out.dr.al (.cells #[.int .i64 (k : Int)] 3)).al (.cells #[.int .i64 q] 2)).p6 (wr.heap.size + 1) (by rfl) (nw3 wr (.int .i64 q) 2 (.cells #[.int .i64 (k : Int)] 3)) (by rw [shares_len, List.length_take]; omega) (by omega) ((HS.out.dr.al (.cells #[.int .i64 (k : Int)] 3)).al (.cells #[.int .i64 q] 2)).base ?_; intro v30 w30 ho30 hg30 hat30; obtain ⟨A9, n9, c9, rfl, _, _⟩ := own_shape ho30; have HS30 := Lib.hid (SO.push6 ((HS.out.dr.al (.cells #[.int .i64 (k : Int)] 3)).al (.cells #[.int .i64 q] 2)) ho30 hg30 hat30); have s30 := hg30.size; have y33 : w30.cell? ⟨wr.heap.size, 0, none⟩ = some (.int .i64 (k : Int)) := (grown_cell (p := ⟨wr.heap.size, 0, none⟩) hg30 (Nat.lt_of_succ_lt (sz2 wr (.cells #[.int .i64 (k : Int)] 3) (.cells #[.int .i64 q] 2))) hne1).trans (nw2 wr (.int .i64 (k : Int)) 3 (.cells #[.int .i64 q] 2)); have zO : w30.cell? ⟨w.heap.size + 1 + 1 + 1 + 1 + 1, 0, none⟩ = some (.slice A7 n7 c7) := HS30.out.xO; have zl : w.heap.size + 1 + 1 + 1 + 1 + 1 < w30.heap.size := HS30.out.sz; clear ho30 hg30 hat30)
          | (refine step_one (by rfl) _ _ 84 (by rfl) (w.heap.size + 3) 3 j0 _ 8 Try.underlying84 ki kz0 kz1 kz2 rfl (.slice A7 n7 c7) (all_ k) (k : Int) (by rfl) (HS30.out.al (.cells #[.int .i64 (k : Int)] 3)).p7 (w30.heap.size) (by rfl) (nw1 w30 (.int .i64 (k : Int)) _) (by rw [all_len]; omega) (by omega) (HS30.out.al (.cells #[.int .i64 (k : Int)] 3)).base ?_; intro v34 w34 ho34 hg34 hat34; obtain ⟨A8, n8, c8, rfl, _, _⟩ := own_shape ho34; have HS34 := Lib.hid (SO.push7 (HS30.out.al (.cells #[.int .i64 (k : Int)] 3)) ho34 hg34 hat34); have zO : w34.cell? ⟨w.heap.size + 1 + 1 + 1 + 1 + 1, 0, none⟩ = some (.slice A7 n7 c7) := HS34.out.xO; have zF : w34.frozen? ⟨w.heap.size + 1 + 1 + 1 + 1 + 1, 0, none⟩ = false := HS34.out.fO; clear ho34 hg34 hat34)
          | (refine step_one (by rfl) _ _ 84 (by rfl) (w.heap.size + 3) 3 j0 _ 8 Try.underlying84 ki kz0 kz1 kz2 rfl (.slice A7 n7 c7) (all_ k) (k : Int) (by rfl) (HS30.out).p7 (wr.heap.size + 1) (by rfl) (y33) (by rw [all_len]; omega) (by omega) (HS30.out).base ?_; intro v34 w34 ho34 hg34 hat34; obtain ⟨A8, n8, c8, rfl, _, _⟩ := own_shape ho34; have HS34 := Lib.hid (SO.push7 (HS30.out) ho34 hg34 hat34); have zO : w34.cell? ⟨w.heap.size + 1 + 1 + 1 + 1 + 1, 0, none⟩ = some (.slice A7 n7 c7) := HS34.out.xO; have zF : w34.frozen? ⟨w.heap.size + 1 + 1 + 1 + 1 + 1, 0, none⟩ = false := HS34.out.fO; clear ho34 hg34 hat34)
          | (refine step_one (by rfl) _ _ 84 (by rfl) (w.heap.size + 3) 3 j0 _ 8 Try.underlying84 ki kz0 kz1 kz2 rfl (.slice A7 n7 c7) (all_ k) (k : Int) (by rfl) (HS30.out).p7 (wr.heap.size) (by rfl) (y33) (by rw [all_len]; omega) (by omega) (HS30.out).base ?_; intro v34 w34 ho34 hg34 hat34; obtain ⟨A8, n8, c8, rfl, _, _⟩ := own_shape ho34; have HS34 := Lib.hid (SO.push7 (HS30.out) ho34 hg34 hat34); have zO : w34.cell? ⟨w.heap.size + 1 + 1 + 1 + 1 + 1, 0, none⟩ = some (.slice A7 n7 c7) := HS34.out.xO; have zF : w34.frozen? ⟨w.heap.size + 1 + 1 + 1 + 1 + 1, 0, none⟩ = false := HS34.out.fO; clear ho34 hg34 hat34))
      all_goals
        go_wp2_with fail
        go_roundw
        case rel => exact ⟨k + 1, _, by omega, by go_num, Lib.hid (by rw [shares_succ Hx.out, Hq.out, all_succ]; exact HS34.out.st)⟩
        case measure => simp [intOf]; omega
    · have hkn : k = n := by omega
      have htk : ws.take k = ws := List.take_of_length_le (by rw [Hn.out]; omega)
      rw [htk, hkn] at HS
      clear htk
      obtain ⟨N, iN, d, hd, hdn⟩ := to_fin_n (n := n) (xs := all_ n) (fun x hx => all_mem.1 hx)
      have hds : d.size = n := by have := congrArg List.length hd; rw [List.length_map, Array.length_toList, all_len] at this; exact this
      have hcall : ∀ args W, (callFunc 70 args).run Try.prog W = .ok (.enter 70 args) W := fun _ _ => by kernel_rfl
      have hp7 := HS.out.p7
      rw [← hd] at hp7
      have hsz := HS.out.sz
      have hSl : Sl wr w.heap.size 1 icell A n ws := h.below HS.out.bel
      have hst := stable_anyI (rK (rests T s ws)) 70 #[.pointer (some ⟨w.heap.size, 0, none⟩), .pointer (some ⟨w.heap.size + 1, 0, none⟩), .pointer (some ⟨w.heap.size + 1 + 1 + 1 + 1 + 1, 0, none⟩), .pointer (some ⟨w.heap.size + 1 + 1, 0, none⟩)] hcall (w.heap.size + 3) (.slice A7 n7 c7) d wr hp7 (by rw [hd]; exact all_ord n) (by omega) (by omega) (fun gb c3 hv hbg hg hH => by
        have hg5 : gb ≠ w.heap.size + 5 := fun e => HS.out.o7 (by rw [hv]; show some gb = _; rw [e])
        injection hv with e1 e2 e3
        subst e1 e2 e3
        refine lessReads_of hH rfl hg (fun W dk hk hcell hrow i j hi hj => ?_)
        exact impl_shareOut_1 i j w.heap.size (w.heap.size + 1) (w.heap.size + 1 + 1 + 1 + 1 + 1) (w.heap.size + 1 + 1) T s A n c ws gb d.size _ (fun t => (dk[t]!).val) W hi hj hmax HT.out hs hs6 Hws.out
          ((hcell ⟨_, _, _⟩ (by show w.heap.size ≠ gb; omega) (by show w.heap.size < wr.heap.size; omega)).trans xT)
          ((hcell ⟨_, _, _⟩ (by show w.heap.size + 1 ≠ gb; omega) (by show w.heap.size + 1 < wr.heap.size; omega)).trans xW)
          ((hcell ⟨_, _, _⟩ (by show w.heap.size + 1 + 1 + 1 + 1 + 1 ≠ gb; omega) (by show w.heap.size + 1 + 1 + 1 + 1 + 1 < wr.heap.size; omega)).trans xO)
          ((hcell ⟨_, _, _⟩ (by show w.heap.size + 1 + 1 ≠ gb; omega) (by show w.heap.size + 1 + 1 < wr.heap.size; omega)).trans xS)
          hrow (fun t ht => by have := hdn (by omega); have := (dk[t]!).isLt; omega)
          (hSl.keep fun p hp => hcell p (by omega) (by omega)))
      rw [hd] at hst
      have hord : sortI (rK (rests T s ws)) (all_ n) = ordD (rests T s ws) := by rw [ordD, rests_len, Hn.out]
      rw [hord] at hst
      go_wp2_with fail
      refine hst.mono ?_
      rintro e w5 ⟨rfl, ho5, hb5, hg5⟩
      have HS5 := Lib.hid (HS.out.push7 ho5 hg5 (.inl rfl))
      clear hst hord hp7 ho5 hb5 hg5 hSl hd hdn hds xT xW xS xO
      have xT := HS5.out.xT
      have xO : w5.cell? ⟨w.heap.size + 1 + 1 + 1 + 1 + 1, 0, none⟩ = some (.slice A7 n7 c7) := HS5.out.xO
      obtain ⟨m0, m1⟩ := left_bd hs Hsum.out (T := T)
      rw [Hn.out] at m1
      obtain ⟨m, hm⟩ : ∃ m : Nat, leftOf T s ws = (m : Int) := ⟨(leftOf T s ws).toNat, by omega⟩
      obtain ⟨S0, hS0⟩ : ∃ S0, isum (shares T s ws) = S0 := ⟨_, rfl⟩
      have hmS : T - S0 = (m : Int) := by rw [← hS0, ← hm]; rfl
      have hmn : m ≤ n := by omega
      have hshb : ∀ x ∈ shares T s ws, 0 ≤ x ∧ x ≤ 1000000000 := fun x hx => by
        obtain ⟨y, hy, rfl⟩ := List.mem_map.1 hx
        have h1 := Hws.out y hy
        have h2 := sum_ge (fun x hx => (Hws.out x hx).1) y hy
        rw [Hsum.out] at h2
        have h3 := share_bd HT.out.1 hs h1.1 h2
        have := HT.out
        omega
      have hS0b : 0 ≤ S0 := by rw [← hS0]; exact isum_nn fun x hx => (hshb x hx).1
      have hn0 : 0 < n := by
        rcases Nat.eq_zero_or_pos n with h0 | h0
        · have : ws = [] := List.eq_nil_of_length_eq_zero (by rw [Hn.out, h0])
          have h1 := Hsum.out
          rw [this] at h1
          simp [isum, sumBy] at h1
          omega
        · exact h0
      have hlo : (ordD (rests T s ws)).length = n := by rw [ordD_len, rests_len, Hn.out]
      have Hlo := Lib.hid hlo
      have Hshb := Lib.hid hshb
      have HS0 := Lib.hid hS0
      have Hm := Lib.hid hm
      obtain ⟨g6, c6', e6, _, _, _⟩ := own_block_of HS5.out.p6 (by rw [shares_len, Hn.out]) hn0
      obtain ⟨g7, c7', e7, _, _, _⟩ := own_block_of HS5.out.p7 hlo hn0
      injection e6 with e61 e62 e63
      injection e7 with e71 e72 e73
      have e62 := e62.symm
      have e72 := e72.symm
      subst e61 e62 e63 e71 e72 e73
      have hc7 : n ≤ c7 := by assumption
      have hsl6 := own_sl HS5.out.p6 icell_len
      have hwrap : IntKind.i64.wrap (T - S0) = (m : Int) := by rw [hmS]; exact IntWalk.i64_in _ (by omega)
      have hmc : (m : Int) ≤ (c7 : Int) := by omega
      have hm0 : (0 : Int) ≤ (m : Int) := by omega
      have z0 := fun d os => cell_regrown xT d os
      have z1 := fun d os => cell_regrown xO d os
      clear hS0 hm hmS m0 m1 hshb hlo
      go_wp2_with fail
      refine wp_region_quiet_below (by kernel_rfl) (by kernel_rfl) ?_
      repeat (go_big_quiet_step (exact Calls.regrown_of (calls_below (impl_sum_r _ _ _ (shares T s ws) S0 HS0.out _ (by omega) Hshb.out (hsl6.on (below_regrown _ _ _))))))
      refine wpQuiet_nil ?_
      intro wq hwq
      have hbq := below_of_class hwq
      have HS6 := Lib.hid (HS5.out.on hbq)
      clear hwq z0 z1 xT xO hsl6 hwrap
      go_wp2_with fail
      go_loopw [47] (fun i wz => ∃ k : Nat, k ≤ m ∧ i = .int .i64 k ∧ Hid (SO w wz T s A n c (.slice (some ⟨g7, 0, none⟩) n c7) (.slice (some ⟨g6, 0, none⟩) n c6) (.slice (some ⟨g7, 0, none⟩) n c7) (incs (shares T s ws) ((ordD (rests T s ws)).take k)) (ordD (rests T s ws)))) (fun i _ => m - (intOf i).toNat)
      case atStart => exact ⟨0, by omega, rfl, HS6⟩
      case round =>
        clear HS6
        obtain ⟨k, hk, rfl, HK⟩ := hrel
        by_cases hlt : k < m
        · obtain ⟨y, hy⟩ : ∃ y, (ordD (rests T s ws))[k]? = some y := ⟨_, List.getElem?_eq_getElem (by rw [Hlo.out]; omega)⟩
          obtain ⟨y0, y1⟩ := ordD_in _ y (List.mem_of_getElem? hy)
          rw [rests_len, Hn.out] at y1
          obtain ⟨yn, rfl⟩ : ∃ yn : Nat, y = (yn : Int) := ⟨y.toNat, by omega⟩
          have hyn : yn < n := by omega
          have o0 := (own_has HK.out.p7 icell_len).i1 hy
          rw [Nat.zero_add] at o0
          have hul : (incs (shares T s ws) ((ordD (rests T s ws)).take k)).length = n := by rw [incs_len, shares_len, Hn.out]
          obtain ⟨u, hu⟩ : ∃ u, (incs (shares T s ws) ((ordD (rests T s ws)).take k))[yn]? = some u := ⟨_, List.getElem?_eq_getElem (by omega)⟩
          have p0 := (own_has HK.out.p6 icell_len).i1 hu
          rw [Nat.zero_add] at p0
          obtain ⟨u0, u1⟩ := incs_bd ((ordD (rests T s ws)).take k) (shares T s ws) 1000000000 (by omega) Hshb.out u (List.mem_of_getElem? hu)
          rw [List.length_take, Hlo.out] at u1
          have hu2 : u ≤ 1000000060 := by omega
          have hfr := own_free HK.out.p6 yn
          have Hy := Lib.hid hy
          have Hu := Lib.hid hu
          have Hul := Lib.hid hul
          clear hy hu hul u1
          go_wp2_with fail
          go_roundw
          case rel => exact ⟨k + 1, by omega, by go_num, Lib.hid (by
            rw [incs_next Hy.out, Int.toNat_natCast, Hu.out]
            exact HK.out.set6 (by rw [Hul.out]; exact hyn) (u + 1))⟩
          case measure => simp [intOf]; omega
        · have hkm : k = m := by omega
          rw [hkm] at HK
          go_wp2_with fail
          go_ret
          refine ⟨_, rfl, ?_, HK.out.bel⟩
          rw [dues, Hm.out, Int.toNat_natCast]
          exact HK.out.p6.base_le (by omega)

end Go.Proofs.Ytgbblcbpmpokdaa

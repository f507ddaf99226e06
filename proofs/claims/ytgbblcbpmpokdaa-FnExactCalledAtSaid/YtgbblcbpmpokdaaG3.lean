/-
  What this text proves: words for slices of structs of three fields (three integers; a text and two integers), as the text Lib has them for four integers.
  Conditions: those that each lemma states.
-/
import Derived.Test.YtgbblcbpmpokdaaRow
namespace Go.Proofs.Ytgbblcbpmpokdaa
open Go.ChangeShapes Go.WideShapes Go.ChangeAt Go.RowKit Go.Deep Go.Joins Go.Sort

theorem box3k {w w1 : World} {v0 v1 v2 : Value} {E : Nat} (hb : Below (w.alloc (.cells #[v0, v1, v2] E)).heap.size (w.alloc (.cells #[v0, v1, v2] E)) w1) :
    w1.cell? ⟨w.heap.size, 0, none⟩ = some v0 ∧ w1.cell? ⟨w.heap.size, 1, none⟩ = some v1 ∧ w1.cell? ⟨w.heap.size, 2, none⟩ = some v2 := by
  have hc : ∀ i, w1.cell? ⟨w.heap.size, i, none⟩ = #[v0, v1, v2][i]? := fun i => by
    rw [hb.cell (p := ⟨w.heap.size, i, none⟩) (by simp)]
    exact cell_of_row _ _ i _ _ _ (heap_alloc_new w _)
  exact ⟨hc 0, hc 1, hc 2⟩
theorem box3c (w : World) (v0 v1 v2 : Value) (E d : Nat) (os : Array Obj) :
    (grow (redrawn (w.alloc (.cells #[v0, v1, v2] E)) d) os).cell? ⟨w.heap.size, 0, none⟩ = some v0 ∧ (grow (redrawn (w.alloc (.cells #[v0, v1, v2] E)) d) os).cell? ⟨w.heap.size, 1, none⟩ = some v1 ∧
    (grow (redrawn (w.alloc (.cells #[v0, v1, v2] E)) d) os).cell? ⟨w.heap.size, 2, none⟩ = some v2 := box3k (below_regrown _ d os)

/-! ### Q3 -/
structure Q3 where
  a : Int
  b : Int
  c : Int
def Q3.cells (q : Q3) : List Value := [.int .i64 q.a, .int .i64 q.b, .int .i64 q.c]
theorem Q3.cells_len (q : Q3) : q.cells.length = 3 := rfl
theorem q3_one (e : Q3) (u : Value) (hu : u ∈ e.cells) : u.oneCell' = true := by
  simp only [Q3.cells, List.mem_cons, List.not_mem_nil, or_false] at hu
  rcases hu with rfl | rfl | rfl <;> rfl
def q3eq (p q : Q3) : Bool := p.a == q.a && p.b == q.b && p.c == q.c
theorem q3eq_iff {p q : Q3} : q3eq p q = true ↔ p = q := by
  cases p; cases q; simp [q3eq, and_assoc]
theorem q3eq_self (p : Q3) : q3eq p p = true := q3eq_iff.2 rfl
def q3all : List Q3 → List Q3 → Bool
  | [], [] => true
  | p :: ps, q :: qs => q3eq p q && q3all ps qs
  | _, _ => false
theorem q3all_iff : ∀ {es fs : List Q3}, q3all es fs = true ↔ es.length = fs.length ∧ ∀ k, k < es.length → ∀ p q, es[k]? = some p → fs[k]? = some q → q3eq p q = true := by
  intro es
  induction es with
  | nil => intro fs; cases fs <;> simp [q3all]
  | cons p ps ih =>
    intro fs
    cases fs with
    | nil => simp [q3all]
    | cons q qs =>
      simp only [q3all, Bool.and_eq_true, ih, List.length_cons]
      constructor
      · rintro ⟨h1, h2, h3⟩
        refine ⟨by omega, fun k hk x y hx hy => ?_⟩
        cases k with
        | zero => simp at hx hy; subst hx; subst hy; exact h1
        | succ k => exact h3 k (by omega) x y (by simpa using hx) (by simpa using hy)
      · rintro ⟨h2, h3⟩
        exact ⟨h3 0 (by omega) p q rfl rfl, by omega, fun k hk x y hx hy => h3 (k + 1) (by omega) x y (by simpa using hx) (by simpa using hy)⟩
theorem q3all_yes {es fs : List Q3} (hl : es.length = fs.length) (h : ∀ k, k < es.length → ∀ p q, es[k]? = some p → fs[k]? = some q → q3eq p q = true) : q3all es fs = true := q3all_iff.2 ⟨hl, h⟩
theorem q3all_no {es fs : List Q3} {k : Nat} {p q : Q3} (hp : es[k]? = some p) (hq : fs[k]? = some q) (h : q3eq p q = false) : q3all es fs = false := by
  cases hb : q3all es fs with
  | false => rfl
  | true =>
    have := (q3all_iff.1 hb).2 k (List.getElem?_eq_some_iff.1 hp).1 p q hp hq
    rw [h] at this; cases this
theorem q3all_len {es fs : List Q3} (h : es.length ≠ fs.length) : q3all es fs = false := by
  cases hb : q3all es fs with
  | false => rfl
  | true => exact absurd (q3all_iff.1 hb).1 h
theorem q3all_self (es : List Q3) : q3all es es = true := q3all_yes rfl fun k _ p q hp hq => by rw [hp] at hq; injection hq with hq; subst hq; exact q3eq_self p
theorem Has.q3 {w : World} {b off k : Nat} {es : List Q3} {e : Q3} (h : Has w b off 3 Q3.cells es) (he : es[k]? = some e) :
    w.cell? ⟨b, off + k * 3, none⟩ = some (.int .i64 e.a) ∧ w.cell? ⟨b, off + k * 3 + 1, none⟩ = some (.int .i64 e.b) ∧ w.cell? ⟨b, off + k * 3 + 2, none⟩ = some (.int .i64 e.c) :=
  ⟨h k e he 0 _ rfl, h k e he 1 _ rfl, h k e he 2 _ rfl⟩
theorem Has.q3c {w : World} {b off k : Nat} {es : List Q3} {e : Q3} (h : Has w b off 3 Q3.cells es) (hB : b < w.heap.size) (he : es[k]? = some e) :
    (∀ d os, (grow (redrawn w d) os).cell? ⟨b, off + k * 3, none⟩ = some (.int .i64 e.a)) ∧ (∀ d os, (grow (redrawn w d) os).cell? ⟨b, off + k * 3 + 1, none⟩ = some (.int .i64 e.b)) ∧ (∀ d os, (grow (redrawn w d) os).cell? ⟨b, off + k * 3 + 2, none⟩ = some (.int .i64 e.c)) :=
  ⟨fun d os => ((h.cls hB d os).q3 he).1, fun d os => ((h.cls hB d os).q3 he).2.1, fun d os => ((h.cls hB d os).q3 he).2.2⟩
theorem Has.q3ca {w : World} {b off k : Nat} {es : List Q3} {e : Q3} (h : Has w b off 3 Q3.cells es) (hB : b < w.heap.size) (he : es[k]? = some e) :
    (∀ o d os, (grow (redrawn (w.alloc o) d) os).cell? ⟨b, off + k * 3, none⟩ = some (.int .i64 e.a)) ∧ (∀ o d os, (grow (redrawn (w.alloc o) d) os).cell? ⟨b, off + k * 3 + 1, none⟩ = some (.int .i64 e.b)) ∧ (∀ o d os, (grow (redrawn (w.alloc o) d) os).cell? ⟨b, off + k * 3 + 2, none⟩ = some (.int .i64 e.c)) := by
  have hk : ∀ o d os, Has (grow (redrawn (w.alloc o) d) os) b off 3 Q3.cells es := fun o d os =>
    (h.below ((Below.refl w.heap.size w).alloc (Nat.le_refl _) o) hB).cls (by simp; omega) d os
  exact ⟨fun o d os => ((hk o d os).q3 he).1, fun o d os => ((hk o d os).q3 he).2.1, fun o d os => ((hk o d os).q3 he).2.2⟩

/-! ### G3 -/
structure G3 where
  s : ByteArray
  a : Int
  b : Int
def G3.cells (q : G3) : List Value := [.string q.s, .int .i64 q.a, .int .i64 q.b]
theorem G3.cells_len (q : G3) : q.cells.length = 3 := rfl
theorem g3_one (e : G3) (u : Value) (hu : u ∈ e.cells) : u.oneCell' = true := by
  simp only [G3.cells, List.mem_cons, List.not_mem_nil, or_false] at hu
  rcases hu with rfl | rfl | rfl <;> rfl
def g3eq (p q : G3) : Bool := p.s.toList == q.s.toList && p.a == q.a && p.b == q.b
theorem g3eq_self (p : G3) : g3eq p p = true := by simp [g3eq]
theorem g3eq_comm (p q : G3) : g3eq p q = g3eq q p := by
  rw [Bool.eq_iff_iff]; simp only [g3eq, Bool.and_eq_true, beq_iff_eq]; constructor <;> (rintro ⟨⟨h1, h2⟩, h3⟩; exact ⟨⟨h1.symm, h2.symm⟩, h3.symm⟩)
def g3all : List G3 → List G3 → Bool
  | [], [] => true
  | p :: ps, q :: qs => g3eq p q && g3all ps qs
  | _, _ => false
theorem g3all_iff : ∀ {es fs : List G3}, g3all es fs = true ↔ es.length = fs.length ∧ ∀ k, k < es.length → ∀ p q, es[k]? = some p → fs[k]? = some q → g3eq p q = true := by
  intro es
  induction es with
  | nil => intro fs; cases fs <;> simp [g3all]
  | cons p ps ih =>
    intro fs
    cases fs with
    | nil => simp [g3all]
    | cons q qs =>
      simp only [g3all, Bool.and_eq_true, ih, List.length_cons]
      constructor
      · rintro ⟨h1, h2, h3⟩
        refine ⟨by omega, fun k hk x y hx hy => ?_⟩
        cases k with
        | zero => simp at hx hy; subst hx; subst hy; exact h1
        | succ k => exact h3 k (by omega) x y (by simpa using hx) (by simpa using hy)
      · rintro ⟨h2, h3⟩
        exact ⟨h3 0 (by omega) p q rfl rfl, by omega, fun k hk x y hx hy => h3 (k + 1) (by omega) x y (by simpa using hx) (by simpa using hy)⟩
theorem g3all_yes {es fs : List G3} (hl : es.length = fs.length) (h : ∀ k, k < es.length → ∀ p q, es[k]? = some p → fs[k]? = some q → g3eq p q = true) : g3all es fs = true := g3all_iff.2 ⟨hl, h⟩
theorem g3all_no {es fs : List G3} {k : Nat} {p q : G3} (hp : es[k]? = some p) (hq : fs[k]? = some q) (h : g3eq p q = false) : g3all es fs = false := by
  cases hb : g3all es fs with
  | false => rfl
  | true =>
    have := (g3all_iff.1 hb).2 k (List.getElem?_eq_some_iff.1 hp).1 p q hp hq
    rw [h] at this; cases this
theorem g3all_len {es fs : List G3} (h : es.length ≠ fs.length) : g3all es fs = false := by
  cases hb : g3all es fs with
  | false => rfl
  | true => exact absurd (g3all_iff.1 hb).1 h
theorem g3all_self (es : List G3) : g3all es es = true := g3all_yes rfl fun k _ p q hp hq => by rw [hp] at hq; injection hq with hq; subst hq; exact g3eq_self p
theorem Has.g3 {w : World} {b off k : Nat} {es : List G3} {e : G3} (h : Has w b off 3 G3.cells es) (he : es[k]? = some e) :
    w.cell? ⟨b, off + k * 3, none⟩ = some (.string e.s) ∧ w.cell? ⟨b, off + k * 3 + 1, none⟩ = some (.int .i64 e.a) ∧ w.cell? ⟨b, off + k * 3 + 2, none⟩ = some (.int .i64 e.b) :=
  ⟨h k e he 0 _ rfl, h k e he 1 _ rfl, h k e he 2 _ rfl⟩
theorem Has.g3c {w : World} {b off k : Nat} {es : List G3} {e : G3} (h : Has w b off 3 G3.cells es) (hB : b < w.heap.size) (he : es[k]? = some e) :
    (∀ d os, (grow (redrawn w d) os).cell? ⟨b, off + k * 3, none⟩ = some (.string e.s)) ∧ (∀ d os, (grow (redrawn w d) os).cell? ⟨b, off + k * 3 + 1, none⟩ = some (.int .i64 e.a)) ∧ (∀ d os, (grow (redrawn w d) os).cell? ⟨b, off + k * 3 + 2, none⟩ = some (.int .i64 e.b)) :=
  ⟨fun d os => ((h.cls hB d os).g3 he).1, fun d os => ((h.cls hB d os).g3 he).2.1, fun d os => ((h.cls hB d os).g3 he).2.2⟩
theorem Has.g3ca {w : World} {b off k : Nat} {es : List G3} {e : G3} (h : Has w b off 3 G3.cells es) (hB : b < w.heap.size) (he : es[k]? = some e) :
    (∀ o d os, (grow (redrawn (w.alloc o) d) os).cell? ⟨b, off + k * 3, none⟩ = some (.string e.s)) ∧ (∀ o d os, (grow (redrawn (w.alloc o) d) os).cell? ⟨b, off + k * 3 + 1, none⟩ = some (.int .i64 e.a)) ∧ (∀ o d os, (grow (redrawn (w.alloc o) d) os).cell? ⟨b, off + k * 3 + 2, none⟩ = some (.int .i64 e.b)) := by
  have hk : ∀ o d os, Has (grow (redrawn (w.alloc o) d) os) b off 3 G3.cells es := fun o d os =>
    (h.below ((Below.refl w.heap.size w).alloc (Nat.le_refl _) o) hB).cls (by simp; omega) d os
  exact ⟨fun o d os => ((hk o d os).g3 he).1, fun o d os => ((hk o d os).g3 he).2.1, fun o d os => ((hk o d os).g3 he).2.2⟩

section
variable {H : Type} {enc : TypeId × Value → H} {P : Program} {W : World}

/-- a struct by value -/
theorem open_q3 {t : TypeId} {f0 f1 f2 : Field} {r : Reach} {b0 : Nat} {v : Value} {d : DataW H} {ps : List MemPlace} (he : P.underlying t = some (.struct #[f0, f1, f2]))
    (hone : oneCellFields P #[f0, f1, f2] = true) (hC : P.cellsOf t = 3) (i0 : P.underlying f0.type = some (.int .i64)) (i1 : P.underlying f1.type = some (.int .i64)) (i2 : P.underlying f2.type = some (.int .i64))
    (hv : Value.okWide P W r b0 t v) (h : DataW.Trod enc P W 0 (fun _ => true) true t v d ps) : ∃ q : Q3, v = .agg #[.int .i64 q.a, .int .i64 q.b, .int .i64 q.c] := by
  obtain ⟨v0, v1, v2, y0, y1, y2, n, rfl, _, _, h0, h1, h2⟩ := open_agg3 he hone hC hv h
  obtain ⟨x0, e0, _, _⟩ := DataW.trod_int i0 h0
  obtain ⟨x1, e1, _, _⟩ := DataW.trod_int i1 h1
  obtain ⟨x2, e2, _, _⟩ := DataW.trod_int i2 h2
  simp only [List.cons.injEq, and_true] at e0 e1 e2
  subst e0; subst e1; subst e2
  exact ⟨⟨x0, x1, x2⟩, rfl⟩
/-- a slice of such structs -/
theorem open_q3s {t e : TypeId} {f0 f1 f2 : Field} {r : Reach} {b0 : Nat} {v : Value} {d : DataW H} {ps : List MemPlace} (ht : P.underlying t = some (.slice e)) (he : P.underlying e = some (.struct #[f0, f1, f2]))
    (hone : oneCellFields P #[f0, f1, f2] = true) (hC : P.cellsOf e = 3) (i0 : P.underlying f0.type = some (.int .i64)) (i1 : P.underlying f1.type = some (.int .i64)) (i2 : P.underlying f2.type = some (.int .i64))
    (hv : Value.okWide P W r b0 t v) (h : DataW.Trod enc P W 0 (fun _ => true) true t v d ps) :
    ∃ (A : Option Addr) (n c : Nat) (es : List Q3), v = .slice A n c ∧ n ≤ maxLen ∧ Sl W W.heap.size 3 Q3.cells A n es ∧ ∀ q ∈ es, True := by
  obtain ⟨A, n, c, rfl, hm, hat⟩ := open_structs ht he hone (by rw [hC]; rfl) (by simp) hv h
  rcases Nat.eq_zero_or_pos n with hz | hpos
  · subst hz
    exact ⟨A, 0, c, [], rfl, hm, Sl.nil_ _ _ _ _ _, fun q hq => by cases hq⟩
  · obtain ⟨b, off, rfl, hb, hcell⟩ := hat hpos
    have hint : ∀ i, i < n → ∀ (j : Nat) (f : Field), (#[f0, f1, f2] : Array Field)[j]? = some f → P.underlying f.type = some (.int .i64) → ∃ x : Int, W.cell? ⟨b, off + i * 3 + j, none⟩ = some (.int .i64 x) := by
      intro i hi j f hj hf
      obtain ⟨u, y, m, hc, hy⟩ := hcell i hi j f hj
      obtain ⟨x, hx, _, hwf⟩ := DataW.trod_int hf hy
      injection hx with hx _
      exact ⟨x, by rw [← hx]; exact hc⟩
    have hstr : ∀ i, i < n → ∀ (j : Nat) (f : Field), (#[f0, f1, f2] : Array Field)[j]? = some f → P.underlying f.type = some .string → ∃ x : ByteArray, W.cell? ⟨b, off + i * 3 + j, none⟩ = some (.string x) ∧ x.size ≤ maxLen := by
      intro i hi j f hj hf
      obtain ⟨u, y, m, hc, hy⟩ := hcell i hi j f hj
      obtain ⟨x, hx, _, hwf⟩ := DataW.trod_string hf hy
      injection hx with hx _
      exact ⟨x, by rw [← hx]; exact hc, hwf⟩
    have hq : ∀ i, i < n → ∃ q : Q3, (∀ j v, q.cells[j]? = some v → W.cell? ⟨b, off + i * 3 + j, none⟩ = some v) ∧ True := by
      intro i hi
      obtain ⟨x0, h0⟩ := hint i hi 0 f0 rfl i0
      obtain ⟨x1, h1⟩ := hint i hi 1 f1 rfl i1
      obtain ⟨x2, h2⟩ := hint i hi 2 f2 rfl i2
      refine ⟨⟨x0, x1, x2⟩, fun j v hv => ?_, trivial⟩
      match j, hv with
      | 0, hv => simp [Q3.cells] at hv; subst hv; exact h0
      | 1, hv => simp [Q3.cells] at hv; subst hv; exact h1
      | 2, hv => simp [Q3.cells] at hv; subst hv; exact h2
      | j + 3, hv => simp [Q3.cells] at hv
    let X : Nat → Q3 := fun i => if hi : i < n then (hq i hi).choose else ⟨0, 0, 0⟩
    have hX : ∀ i, i < n → (∀ j v, (X i).cells[j]? = some v → W.cell? ⟨b, off + i * 3 + j, none⟩ = some v) ∧ (fun q : Q3 => True) (X i) := by
      intro i hi
      simp only [X, hi, dite_true]
      exact (hq i hi).choose_spec
    refine ⟨_, n, c, (List.range n).map X, rfl, hm, ⟨by simp, fun _ => ⟨b, off, rfl, hb, fun i q hqi j v hv => ?_⟩⟩, fun q hq => ?_⟩
    · rw [List.getElem?_map] at hqi
      obtain ⟨i', hi', rfl⟩ := Option.map_eq_some_iff.1 hqi
      obtain ⟨hlt', hii⟩ := List.getElem?_eq_some_iff.1 hi'
      simp at hii hlt'
      subst hii
      exact (hX i hlt').1 j v hv
    · obtain ⟨i, hi, rfl⟩ := List.mem_map.1 hq
      exact (hX i (List.mem_range.1 hi)).2

/-- a struct by value -/
theorem open_g3 {t : TypeId} {f0 f1 f2 : Field} {r : Reach} {b0 : Nat} {v : Value} {d : DataW H} {ps : List MemPlace} (he : P.underlying t = some (.struct #[f0, f1, f2]))
    (hone : oneCellFields P #[f0, f1, f2] = true) (hC : P.cellsOf t = 3) (i0 : P.underlying f0.type = some .string) (i1 : P.underlying f1.type = some (.int .i64)) (i2 : P.underlying f2.type = some (.int .i64))
    (hv : Value.okWide P W r b0 t v) (h : DataW.Trod enc P W 0 (fun _ => true) true t v d ps) : ∃ q : G3, v = .agg #[.string q.s, .int .i64 q.a, .int .i64 q.b] := by
  obtain ⟨v0, v1, v2, y0, y1, y2, n, rfl, _, _, h0, h1, h2⟩ := open_agg3 he hone hC hv h
  obtain ⟨x0, e0, _, _⟩ := DataW.trod_string i0 h0
  obtain ⟨x1, e1, _, _⟩ := DataW.trod_int i1 h1
  obtain ⟨x2, e2, _, _⟩ := DataW.trod_int i2 h2
  simp only [List.cons.injEq, and_true] at e0 e1 e2
  subst e0; subst e1; subst e2
  exact ⟨⟨x0, x1, x2⟩, rfl⟩
/-- a slice of such structs -/
theorem open_g3s {t e : TypeId} {f0 f1 f2 : Field} {r : Reach} {b0 : Nat} {v : Value} {d : DataW H} {ps : List MemPlace} (ht : P.underlying t = some (.slice e)) (he : P.underlying e = some (.struct #[f0, f1, f2]))
    (hone : oneCellFields P #[f0, f1, f2] = true) (hC : P.cellsOf e = 3) (i0 : P.underlying f0.type = some .string) (i1 : P.underlying f1.type = some (.int .i64)) (i2 : P.underlying f2.type = some (.int .i64))
    (hv : Value.okWide P W r b0 t v) (h : DataW.Trod enc P W 0 (fun _ => true) true t v d ps) :
    ∃ (A : Option Addr) (n c : Nat) (es : List G3), v = .slice A n c ∧ n ≤ maxLen ∧ Sl W W.heap.size 3 G3.cells A n es ∧ ∀ q ∈ es, q.s.size ≤ maxLen := by
  obtain ⟨A, n, c, rfl, hm, hat⟩ := open_structs ht he hone (by rw [hC]; rfl) (by simp) hv h
  rcases Nat.eq_zero_or_pos n with hz | hpos
  · subst hz
    exact ⟨A, 0, c, [], rfl, hm, Sl.nil_ _ _ _ _ _, fun q hq => by cases hq⟩
  · obtain ⟨b, off, rfl, hb, hcell⟩ := hat hpos
    have hint : ∀ i, i < n → ∀ (j : Nat) (f : Field), (#[f0, f1, f2] : Array Field)[j]? = some f → P.underlying f.type = some (.int .i64) → ∃ x : Int, W.cell? ⟨b, off + i * 3 + j, none⟩ = some (.int .i64 x) := by
      intro i hi j f hj hf
      obtain ⟨u, y, m, hc, hy⟩ := hcell i hi j f hj
      obtain ⟨x, hx, _, hwf⟩ := DataW.trod_int hf hy
      injection hx with hx _
      exact ⟨x, by rw [← hx]; exact hc⟩
    have hstr : ∀ i, i < n → ∀ (j : Nat) (f : Field), (#[f0, f1, f2] : Array Field)[j]? = some f → P.underlying f.type = some .string → ∃ x : ByteArray, W.cell? ⟨b, off + i * 3 + j, none⟩ = some (.string x) ∧ x.size ≤ maxLen := by
      intro i hi j f hj hf
      obtain ⟨u, y, m, hc, hy⟩ := hcell i hi j f hj
      obtain ⟨x, hx, _, hwf⟩ := DataW.trod_string hf hy
      injection hx with hx _
      exact ⟨x, by rw [← hx]; exact hc, hwf⟩
    have hq : ∀ i, i < n → ∃ q : G3, (∀ j v, q.cells[j]? = some v → W.cell? ⟨b, off + i * 3 + j, none⟩ = some v) ∧ q.s.size ≤ maxLen := by
      intro i hi
      obtain ⟨x0, h0, hk0⟩ := hstr i hi 0 f0 rfl i0
      obtain ⟨x1, h1⟩ := hint i hi 1 f1 rfl i1
      obtain ⟨x2, h2⟩ := hint i hi 2 f2 rfl i2
      refine ⟨⟨x0, x1, x2⟩, fun j v hv => ?_, hk0⟩
      match j, hv with
      | 0, hv => simp [G3.cells] at hv; subst hv; exact h0
      | 1, hv => simp [G3.cells] at hv; subst hv; exact h1
      | 2, hv => simp [G3.cells] at hv; subst hv; exact h2
      | j + 3, hv => simp [G3.cells] at hv
    let X : Nat → G3 := fun i => if hi : i < n then (hq i hi).choose else ⟨⟨#[]⟩, 0, 0⟩
    have hX : ∀ i, i < n → (∀ j v, (X i).cells[j]? = some v → W.cell? ⟨b, off + i * 3 + j, none⟩ = some v) ∧ (fun q : G3 => q.s.size ≤ maxLen) (X i) := by
      intro i hi
      simp only [X, hi, dite_true]
      exact (hq i hi).choose_spec
    refine ⟨_, n, c, (List.range n).map X, rfl, hm, ⟨by simp, fun _ => ⟨b, off, rfl, hb, fun i q hqi j v hv => ?_⟩⟩, fun q hq => ?_⟩
    · rw [List.getElem?_map] at hqi
      obtain ⟨i', hi', rfl⟩ := Option.map_eq_some_iff.1 hqi
      obtain ⟨hlt', hii⟩ := List.getElem?_eq_some_iff.1 hi'
      simp at hii hlt'
      subst hii
      exact (hX i hlt').1 j v hv
    · obtain ⟨i, hi, rfl⟩ := List.mem_map.1 hq
      exact (hX i (List.mem_range.1 hi)).2
end

end Go.Proofs.Ytgbblcbpmpokdaa

/-
  What this text proves: how a walk of a law (it returns true, and nothing that was there has changed) becomes the law's row; and how the arguments' readings open to lists of cells.
  Conditions: none beyond those that each lemma states.
-/
import Derived.Test.YtgbblcbpmpokdaaGreatDoorLib
import Derived.ProofKit
import Derived.Lib.SmallJoins
import Derived.Deep.Slices
import Derived.Deep.Fields
namespace Go.Proofs.YtgbblcbpmpokdaaGreatDoor
open Go.ChangeShapes Go.WideShapes Go.ChangeAt Go.RowKit Go.Deep Go.Joins

section
variable {H : Type} {enc : TypeId × Value → H} {P : Program}

theorem args_stay (hl : laidOutB P = true) {W W' : World} (hb : Below W.heap.size W W') : ∀ {ts : List TypeId} {vs : List Value} {ds : List (DataW H)} {ps : List MemPlace},
    (∀ t ∈ ts, P.readableRec t = true ∧ t < P.types.size) → DataW.TrodAll enc P W 0 (fun _ => true) true ts vs ds ps → (∀ x ∈ ps, x.block < W.heap.size) →
    DataW.TrodAll enc P W' 0 (fun b => decide (b < W.heap.size)) true ts vs ds ps
  | [], [], [], _, _, h, _ => h
  | [], _ :: _, _, _, _, h, _ => by cases h
  | [], [], _ :: _, _, _, h, _ => by cases h
  | _ :: _, [], _, _, _, h, _ => by cases h
  | _ :: _, _ :: _, [], _, _, h, _ => by cases h
  | t :: ts, _ :: _, _ :: _, _, ht, ⟨p, q, h1, h2, e⟩, hlt =>
    ⟨p, q, Below.trod hl (ht t (List.mem_cons.2 (.inl rfl))).1 (ht t (List.mem_cons.2 (.inl rfl))).2 h1 hb (fun x hx => hlt x (by rw [e]; exact List.mem_append_left _ hx)),
      args_stay hl hb (fun u hu => ht u (List.mem_cons.2 (.inr hu))) h2 (fun x hx => hlt x (by rw [e]; exact List.mem_append_right _ hx)), e⟩

theorem trodAll_len : ∀ {W : World} {b : Nat} {sp : Nat → Bool} {hd : Bool} {ts : List TypeId} {vs : List Value} {ds : List (DataW H)} {ps : List MemPlace}, DataW.TrodAll enc P W b sp hd ts vs ds ps → ds.length = ts.length
  | _, _, _, _, [], [], [], _, _ => rfl
  | _, _, _, _, [], _ :: _, _, _, h => by cases h
  | _, _, _, _, [], [], _ :: _, _, h => by cases h
  | _, _, _, _, _ :: _, [], _, _, h => by cases h
  | _, _, _, _, _ :: _, _ :: _, [], _, h => by cases h
  | _, _, _, _, _ :: _, _ :: _, _ :: _, _, ⟨_, _, _, h2, _⟩ => by simp [trodAll_len h2]
end

/-- a law's row, out of its walk -/
theorem lift_law {C : Checked} (hl : laidOutB C.prog = true) (own : ownKnob C.prog.godebug = none) {f : FuncId} {fn : Func} {s : ChangeSpec} {T : TypeId} (hT : C.prog.underlying T = some .bool) (hres : fn.resultTypes = #[T]) (hvars : s.vars = [])
    (hspec : ∀ (H : Type) (ds : List (DataW H)), ds.length = fn.params.toList.length → s.fn H ds = { results := [.lit (.bool true)], args := ds, vars := [] })
    (hread : fn.params.toList.all (fun t => C.prog.readableRec t && decide (t < C.prog.types.size)) = true) (noInit : C.prog.inits.idxOf? f = none) (hfn : C.prog.funcs[f]? = some fn)
    {os : Os} (started : os.Started) {H : Type} {enc : TypeId × Value → H}
    (witness : ∃ (w : World) (tape : Tape) (i : Input), w.os = os ∧ (w.forCall tape i).Shaped C.prog ∧ i.vars = [] ∧ Input.okWide C.prog (w.forCall tape i) .any w.heap.size f i ∧
      s.pre6 enc C.prog fn [] false (w.forCall tape i).memory i.args ∧ ({} : Assume).holds C.prog (lone (Frame.enter C.prog f i.args .normal) [] (w.forCall tape i)))
    (walk : ∀ (W : World) (base : Nat) (args : Array Value) (ds : List (DataW H)) (ps : List MemPlace), (∀ (j : Nat) t v, fn.params[j]? = some t → args[j]? = some v → Value.okWide C.prog W .any base t v) →
      (∀ x ∈ ps, x.block < W.heap.size) → DataW.TrodAll enc C.prog W 0 (fun _ => true) true fn.params.toList args.toList ds ps →
      Calls C.prog f args W fun e W' => e = .returned (.bool true) ∧ Below W.heap.size W W') :
    ReturnsInHanded {} C os f .any (s.pre6 enc C.prog fn [] false) (s.post enc C.prog fn false true false false) := by
  refine returnsInHanded_of_change (C := C) own started noInit hfn witness ?_
  intro W base args ds gs before hval hW _ _
  have hlt : ∀ x ∈ before, x.block < W.heap.size := fun x hx => hW.lt x hx
  have hW' := hW
  obtain ⟨p, q, hA, hV, hpq, _, _⟩ := hW
  rw [hvars] at hV
  obtain ⟨rfl, rfl⟩ := trodVars_none hV
  rw [List.append_nil] at hpq
  subst hpq
  refine (walk W base args ds _ hval hlt hA).mono fun e W' ⟨he, hb⟩ => ⟨_, he, ?_⟩
  have hs : s.fn H (ds ++ []) = { results := [.lit (.bool true)], args := ds, vars := [] } := by rw [List.append_nil]; exact hspec H ds (trodAll_len hA)
  have hread' : ∀ t ∈ fn.params.toList, C.prog.readableRec t = true ∧ t < C.prog.types.size := fun t ht => by
    have := List.all_eq_true.1 hread t ht
    simpa using this
  refine ⟨ds, [], before, [], before, [], hW', ?_, ?_, ?_, hb.frame _, fun h => by cases h⟩
  · rw [hs, hres]; exact trodAll_mk1 (shut_bool hT true)
  · rw [hs]; exact args_stay hl hb hread' hA hlt
  · rw [hs, hvars]; exact (rfl : DataW.TrodVars enc C.prog W' _ [] [] [])

/-! ### what the arguments read as -/
section
variable {H : Type} {enc : TypeId × Value → H} {P : Program} {W : World}

theorem bounds_of {n : Int} (h : (Lit.int .i64 n).wf = true) : -9223372036854775808 ≤ n ∧ n ≤ 9223372036854775807 := by
  simp [Lit.wf, IntKind.min, IntKind.max, IntKind.signed, IntKind.bits] at h
  omega
theorem spot_none {w : World} {a : Addr} {v : Value} (h : w.cell? a = some v) : a = ⟨a.block, a.off, none⟩ := by
  obtain ⟨b, o, s⟩ := a
  cases s with
  | none => rfl
  | some s =>
    unfold World.cell? at h
    split at h
    · simp at h
    · cases h
theorem add_flat {b o i : Nat} : (⟨b, o, none⟩ : Addr).add i = ⟨b, o + i, none⟩ := by unfold Addr.add; split <;> simp_all

/-- a slice of structs, each field one cell: an address and a length, or nil; the cells, and each field's own reading -/
theorem open_structs {t e : TypeId} {fs : Array Field} {r : Reach} {b0 : Nat} {v : Value} {d : DataW H} {ps : List MemPlace} (ht : P.underlying t = some (.slice e)) (he : P.underlying e = some (.struct fs))
    (hone : oneCellFields P fs = true) (hC : P.cellsOf e = fs.size) (hpos : 0 < fs.size) (hv : Value.okWide P W r b0 t v) (h : DataW.Trod enc P W 0 (fun _ => true) true t v d ps) :
    ∃ (A : Option Addr) (n c : Nat), v = .slice A n c ∧ n ≤ maxLen ∧ (0 < n → ∃ b off, A = some ⟨b, off, none⟩ ∧ b < W.heap.size ∧
      ∀ i, i < n → ∀ (j : Nat) (f : Field), fs[j]? = some f → ∃ (u : Value) (y : DataW H × List MemPlace) (m : Nat), W.cell? ⟨b, off + i * fs.size + j, none⟩ = some u ∧ DataW.trod enc P W 0 (fun _ => true) true m f.type [u] = some y) := by
  obtain ⟨A, len, cap, rfl⟩ := okWide_slice ht hv
  obtain ⟨fuel, hf⟩ := h
  rcases open_slice ht hf with ⟨hcs, _⟩ | ⟨a, len', cap', m, k, D, Pl, hcs, _, hl, hm, hmm, hx, hi⟩
  · simp [Value.cells] at hcs
    obtain ⟨rfl, rfl, rfl⟩ := hcs
    exact ⟨none, 0, 0, rfl, Nat.zero_le _, fun h => absurd h (by omega)⟩
  · simp [Value.cells] at hcs
    obtain ⟨rfl, rfl, rfl⟩ := hcs
    refine ⟨some a, len, cap, rfl, by omega, fun hn => ?_⟩
    have hml : len ≤ m := by simp at hmm; omega
    have hcell : ∀ i, i < len → ∀ (j : Nat) (f : Field), fs[j]? = some f → ∃ (u : Value) (y : DataW H × List MemPlace) (q : Nat), W.cell? (a.add (i * fs.size + j)) = some u ∧ DataW.trod enc P W 0 (fun _ => true) true q f.type [u] = some y := by
      intro i hin j f hj
      obtain ⟨cs', hc, htr⟩ := hi i (by omega)
      rw [hC] at hc
      obtain ⟨ys, q, _, _, hlen, hyl, hfd⟩ := DataW.trod_struct he htr
      obtain ⟨_, _, hat⟩ := World.cells?_some hc
      obtain ⟨ho, hk⟩ := hone_of hone j f hj
      have hjl : j < fs.size := (Array.getElem?_eq_some_iff.1 hj).1
      rw [hC] at hlen
      have hjc : j < cs'.length := by omega
      have h1 := hfd j f hj
      rw [ho, hk, List.drop_eq_getElem_cons hjc, List.take_succ_cons, List.take_zero] at h1
      have hys : ys[j]? = some (ys[j]'(by omega)) := List.getElem?_eq_getElem (by omega)
      rw [hys] at h1
      refine ⟨cs'[j], _, q, ?_, h1⟩
      rw [← Go.Deep.add_add, hat j hjl, List.getElem?_eq_getElem hjc]
    obtain ⟨f0, hf0⟩ : ∃ f, fs[0]? = some f := ⟨fs[0], Array.getElem?_eq_getElem hpos⟩
    obtain ⟨u, _, _, hu, _⟩ := hcell 0 hn 0 f0 hf0
    have ha0 : a.add (0 * fs.size + 0) = a := by simp [Addr.add]
    rw [ha0] at hu
    have hsp := spot_none hu
    refine ⟨a.block, a.off, by rw [← hsp], World.block_lt_of_cell? W a hu, fun i hin j f hj => ?_⟩
    obtain ⟨u', y, q, hc, hy⟩ := hcell i hin j f hj
    refine ⟨u', y, q, ?_, hy⟩
    rw [hsp, add_flat] at hc
    rw [Nat.add_assoc]; exact hc

/-- a slice of integers -/
theorem open_int64s {t e : TypeId} {r : Reach} {b0 : Nat} {v : Value} {d : DataW H} {ps : List MemPlace} (ht : P.underlying t = some (.slice e)) (he : P.underlying e = some (.int .i64)) (hC : P.cellsOf e = 1)
    (hv : Value.okWide P W r b0 t v) (h : DataW.Trod enc P W 0 (fun _ => true) true t v d ps) :
    ∃ (A : Option Addr) (n c : Nat) (xs : List Int), v = .slice A n c ∧ n ≤ maxLen ∧ Sl W W.heap.size 1 icell A n xs ∧ ∀ x ∈ xs, -9223372036854775808 ≤ x ∧ x ≤ 9223372036854775807 := by
  obtain ⟨A, len, cap, rfl⟩ := okWide_slice ht hv
  obtain ⟨fuel, hf⟩ := h
  rcases open_slice1 ht hC hf with ⟨hcs, _⟩ | ⟨a, len', cap', m, k, V, D, Pl, hcs, _, hl, hm, hmm, hx, hi⟩
  · simp [Value.cells] at hcs
    obtain ⟨rfl, rfl, rfl⟩ := hcs
    exact ⟨none, 0, 0, [], rfl, Nat.zero_le _, Sl.nil_ _ _ _ _ _, fun x hx => by cases hx⟩
  · simp [Value.cells] at hcs
    obtain ⟨rfl, rfl, rfl⟩ := hcs
    have hml : len ≤ m := by simp at hmm; omega
    have hcell : ∀ i, i < len → ∃ x : Int, W.cell? (a.add i) = some (.int .i64 x) ∧ (Lit.int .i64 x).wf = true := by
      intro i hin
      obtain ⟨hc, htr⟩ := hi i (by omega)
      obtain ⟨x, hx, _, hwf⟩ := DataW.trod_int he htr
      injection hx with hx _
      exact ⟨x, by rw [hc, hx], hwf⟩
    let X : Nat → Int := fun i => if hin : i < len then (hcell i hin).choose else 0
    have hX : ∀ i, i < len → W.cell? (a.add i) = some (.int .i64 (X i)) ∧ (Lit.int .i64 (X i)).wf = true := by
      intro i hin
      simp only [X, hin, dite_true]
      exact (hcell i hin).choose_spec
    refine ⟨some a, len, cap, (List.range len).map X, rfl, by omega, ⟨by simp, fun hn => ?_⟩, fun x hx => ?_⟩
    · have h0 := (hX 0 hn).1
      have ha0 : a.add 0 = a := by simp [Addr.add]
      rw [ha0] at h0
      have hsp := spot_none h0
      refine ⟨a.block, a.off, by rw [← hsp], World.block_lt_of_cell? W a h0, fun i x hx j u hu => ?_⟩
      rw [List.getElem?_map] at hx
      obtain ⟨i', hi', rfl⟩ := Option.map_eq_some_iff.1 hx
      obtain ⟨hlt', hii⟩ := List.getElem?_eq_some_iff.1 hi'
      simp at hii hlt'
      subst hii
      match j, hu with
      | 0, hu =>
        simp [icell] at hu
        subst hu
        have := (hX i hlt').1
        rw [hsp, add_flat] at this
        simpa using this
      | j + 1, hu => simp [icell] at hu
    · obtain ⟨i, hi', rfl⟩ := List.mem_map.1 hx
      have hwf := (hX i (List.mem_range.1 hi')).2
      exact bounds_of hwf

def fits (n : Int) : Prop := -9223372036854775808 ≤ n ∧ n ≤ 9223372036854775807
def Q4.fits (q : Q4) : Prop := Go.Proofs.YtgbblcbpmpokdaaGreatDoor.fits q.a ∧ Go.Proofs.YtgbblcbpmpokdaaGreatDoor.fits q.b ∧ Go.Proofs.YtgbblcbpmpokdaaGreatDoor.fits q.c ∧ Go.Proofs.YtgbblcbpmpokdaaGreatDoor.fits q.d
/-- a struct of four integers, by value -/
theorem open_q4 {t : TypeId} {f0 f1 f2 f3 : Field} {r : Reach} {b0 : Nat} {v : Value} {d : DataW H} {ps : List MemPlace} (he : P.underlying t = some (.struct #[f0, f1, f2, f3]))
    (hone : oneCellFields P #[f0, f1, f2, f3] = true) (hC : P.cellsOf t = 4) (i0 : P.underlying f0.type = some (.int .i64)) (i1 : P.underlying f1.type = some (.int .i64)) (i2 : P.underlying f2.type = some (.int .i64)) (i3 : P.underlying f3.type = some (.int .i64))
    (hv : Value.okWide P W r b0 t v) (h : DataW.Trod enc P W 0 (fun _ => true) true t v d ps) : ∃ q : Q4, v = .agg #[.int .i64 q.a, .int .i64 q.b, .int .i64 q.c, .int .i64 q.d] := by
  obtain ⟨v0, v1, v2, v3, y0, y1, y2, y3, n, rfl, _, _, h0, h1, h2, h3⟩ := open_agg4 he hone hC hv h
  obtain ⟨x0, e0, _, _⟩ := DataW.trod_int i0 h0
  obtain ⟨x1, e1, _, _⟩ := DataW.trod_int i1 h1
  obtain ⟨x2, e2, _, _⟩ := DataW.trod_int i2 h2
  obtain ⟨x3, e3, _, _⟩ := DataW.trod_int i3 h3
  simp only [List.cons.injEq, and_true] at e0 e1 e2 e3
  subst e0; subst e1; subst e2; subst e3
  exact ⟨⟨x0, x1, x2, x3⟩, rfl⟩
/-- a slice of structs of four integers -/
theorem open_q4s {t e : TypeId} {f0 f1 f2 f3 : Field} {r : Reach} {b0 : Nat} {v : Value} {d : DataW H} {ps : List MemPlace} (ht : P.underlying t = some (.slice e)) (he : P.underlying e = some (.struct #[f0, f1, f2, f3]))
    (hone : oneCellFields P #[f0, f1, f2, f3] = true) (hC : P.cellsOf e = 4) (i0 : P.underlying f0.type = some (.int .i64)) (i1 : P.underlying f1.type = some (.int .i64)) (i2 : P.underlying f2.type = some (.int .i64)) (i3 : P.underlying f3.type = some (.int .i64))
    (hv : Value.okWide P W r b0 t v) (h : DataW.Trod enc P W 0 (fun _ => true) true t v d ps) :
    ∃ (A : Option Addr) (n c : Nat) (es : List Q4), v = .slice A n c ∧ n ≤ maxLen ∧ Sl W W.heap.size 4 Q4.cells A n es ∧ ∀ q ∈ es, q.fits := by
  obtain ⟨A, n, c, rfl, hm, hat⟩ := open_structs ht he hone (by rw [hC]; rfl) (by simp) hv h
  rcases Nat.eq_zero_or_pos n with hz | hpos
  · subst hz
    exact ⟨A, 0, c, [], rfl, hm, Sl.nil_ _ _ _ _ _, fun q hq => by cases hq⟩
  · obtain ⟨b, off, rfl, hb, hcell⟩ := hat hpos
    have hint : ∀ i, i < n → ∀ (j : Nat) (f : Field), (#[f0, f1, f2, f3] : Array Field)[j]? = some f → P.underlying f.type = some (.int .i64) → ∃ x : Int, W.cell? ⟨b, off + i * 4 + j, none⟩ = some (.int .i64 x) ∧ Go.Proofs.YtgbblcbpmpokdaaGreatDoor.fits x := by
      intro i hi j f hj hf
      obtain ⟨u, y, m, hc, hy⟩ := hcell i hi j f hj
      obtain ⟨x, hx, _, hwf⟩ := DataW.trod_int hf hy
      injection hx with hx _
      exact ⟨x, by rw [← hx]; exact hc, bounds_of hwf⟩
    have hq : ∀ i, i < n → ∃ q : Q4, (∀ j v, q.cells[j]? = some v → W.cell? ⟨b, off + i * 4 + j, none⟩ = some v) ∧ q.fits := by
      intro i hi
      obtain ⟨x0, h0, k0⟩ := hint i hi 0 f0 rfl i0
      obtain ⟨x1, h1, k1⟩ := hint i hi 1 f1 rfl i1
      obtain ⟨x2, h2, k2⟩ := hint i hi 2 f2 rfl i2
      obtain ⟨x3, h3, k3⟩ := hint i hi 3 f3 rfl i3
      refine ⟨⟨x0, x1, x2, x3⟩, fun j v hv => ?_, k0, k1, k2, k3⟩
      match j, hv with
      | 0, hv => simp [Q4.cells] at hv; subst hv; exact h0
      | 1, hv => simp [Q4.cells] at hv; subst hv; exact h1
      | 2, hv => simp [Q4.cells] at hv; subst hv; exact h2
      | 3, hv => simp [Q4.cells] at hv; subst hv; exact h3
      | j + 4, hv => simp [Q4.cells] at hv
    let X : Nat → Q4 := fun i => if hi : i < n then (hq i hi).choose else ⟨0, 0, 0, 0⟩
    have hX : ∀ i, i < n → (∀ j v, (X i).cells[j]? = some v → W.cell? ⟨b, off + i * 4 + j, none⟩ = some v) ∧ (X i).fits := by
      intro i hi
      simp only [X, hi, dite_true]
      exact (hq i hi).choose_spec
    refine ⟨_, n, c, (List.range n).map X, rfl, hm, ⟨by simp, fun _ => ⟨b, off, rfl, hb, fun i q hqi j v hv => ?_⟩⟩, fun q hq => ?_⟩
    · rw [List.getElem?_map] at hqi
      obtain ⟨i', hi', rfl⟩ := Option.map_eq_some_iff.1 hqi
      obtain ⟨hlt', hii⟩ := List.getElem?_eq_some_iff.1 hi'
      simp at hii hlt'
      subst hii
      exact (hX i hlt').1 j v hv
    · obtain ⟨i, hi, rfl⟩ := List.mem_map.1 hq
      exact (hX i (List.mem_range.1 hi)).2
end

end Go.Proofs.YtgbblcbpmpokdaaGreatDoor

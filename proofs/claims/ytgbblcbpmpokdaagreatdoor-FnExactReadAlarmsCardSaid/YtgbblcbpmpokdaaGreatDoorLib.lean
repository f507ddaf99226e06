/-
  What this text proves: small general lemmas that the walks of this seat share (no function of the program is named here).
  Conditions: none beyond those that each lemma states.
-/
import Derived.Test.YtgbblcbpmpokdaaGreatDoorRows
import Derived.WalkKit
import Derived.WalkSpells
import Derived.WalkLawsBesides
import Derived.Lib.Hide
import Derived.Lib.QuietBelow
import Derived.BigQuiet
namespace Go.Proofs.YtgbblcbpmpokdaaGreatDoor
open Go.RowKit Go.Sort

/-! ### results -/
theorem ret_bool {a b : Bool} (h : a = b) : Ending.returned (.bool a) = .returned (.bool b) := by rw [h]
theorem ret_int {k : IntKind} {a b : Int} (h : a = b) : Ending.returned (.int k a) = .returned (.int k b) := by rw [h]

/-- lo ≤ n ≤ hi, as a Bool that the walk does not open -/
def inR (n lo hi : Int) : Bool := decide (lo ≤ n) && decide (n ≤ hi)
theorem inR_iff {n lo hi : Int} : inR n lo hi = true ↔ lo ≤ n ∧ n ≤ hi := by simp [inR]
theorem inR_not {n lo hi : Int} : inR n lo hi = false ↔ n < lo ∨ hi < n := by
  unfold inR
  by_cases h1 : lo ≤ n <;> by_cases h2 : n ≤ hi <;> simp [h1, h2] <;> omega

theorem tdiv_neg_ {n d : Int} (h : n < 0) : n.tdiv d = -((-n) / d) := by
  have h1 : n.tdiv d = -((-n).tdiv d) := by rw [Int.neg_tdiv]; omega
  rw [h1, Int.tdiv_eq_ediv_of_nonneg (by omega)]
theorem tmod_neg_ {n d : Int} (h : n < 0) : n.tmod d = -((-n) % d) := by
  have h1 : n.tmod d = -((-n).tmod d) := by rw [Int.neg_tmod]; omega
  rw [h1, Int.tmod_eq_emod_of_nonneg (by omega)]

/-! ### worlds -/
theorem below_of_class {w w' : World} (h : ∃ p : Regrown, w' = grow (redrawn w p.d) p.os) : Below w.heap.size w w' := by
  obtain ⟨p, rfl⟩ := h; exact below_regrown w p.d p.os
theorem below_on {B : Nat} {a b c : World} (h : Below B a b) (k : Below b.heap.size b c) (hB : B ≤ a.heap.size) : Below B a c :=
  h.trans (k.mono (Nat.le_trans hB h.size))
theorem below_al {v w : World} (h : Below v.heap.size v w) (o : Obj) : Below v.heap.size v (w.alloc o) := h.alloc h.size o
theorem below_dr {B : Nat} {v w : World} (h : Below B v w) : Below B v w.drew := h.drew
theorem below_drN {B : Nat} {v w : World} (h : Below B v w) (n : Nat) : Below B v (w.drewN n) := ⟨h.os, h.tape, h.output, h.size, h.block⟩
theorem below_then {v w u : World} (h : Below v.heap.size v w) (k : Below w.heap.size w u) : Below v.heap.size v u := below_on h k (Nat.le_refl _)
/-- what was there reads as it did: laid behind a call, the walk uses both by itself -/
theorem below_reads {w w' : World} (h : Below w.heap.size w w') : (∀ b o, b < w.heap.size → w'.cell? ⟨b, o, none⟩ = w.cell? ⟨b, o, none⟩) ∧ (∀ b o, b < w.heap.size → w'.frozen? ⟨b, o, none⟩ = w.frozen? ⟨b, o, none⟩) :=
  ⟨fun b o hb => h.cell (p := ⟨b, o, none⟩) hb, fun b o hb => h.frozen (p := ⟨b, o, none⟩) hb⟩
theorem calls_below {P : Program} {f : FuncId} {args : Array Value} {W : World} {v : Value} (h : Calls P f args W fun e w' => e = .returned v ∧ W = w') : Calls P f args W fun e w' => e = .returned v ∧ Below W.heap.size W w' :=
  h.mono fun _ _ ⟨he, hw⟩ => ⟨he, hw ▸ Below.refl _ _⟩
theorem class_size (w : World) (d : Nat) (os : Array Obj) : w.heap.size ≤ (grow (redrawn w d) os).heap.size := (below_regrown w d os).size

/-! ### captured variables: boxes of one cell -/
theorem box_new {w w1 : World} {v : Value} {E : Nat} (hb : Below (w.alloc (.cells #[v] E)).heap.size (w.alloc (.cells #[v] E)) w1) : w1.cell? ⟨w.heap.size, 0, none⟩ = some v := by
  rw [hb.cell (p := ⟨w.heap.size, 0, none⟩) (by simp)]
  exact cell_of_row _ _ 0 _ _ _ (heap_alloc_new w _)
theorem cell_on {w w1 : World} {g o : Nat} {v : Value} (x : w.cell? ⟨g, o, none⟩ = some v) (hb : Below w.heap.size w w1) (hg : g < w.heap.size) : w1.cell? ⟨g, o, none⟩ = some v :=
  (hb.cell (p := ⟨g, o, none⟩) hg).trans x
theorem below_one {w w1 : World} {o : Obj} (hb : Below (w.alloc o).heap.size (w.alloc o) w1) : Below w.heap.size w w1 :=
  ((Below.refl _ w).alloc (Nat.le_refl _) o).trans (hb.mono (by simp))
theorem below_up {w w1 : World} {o o' : Obj} (hb : Below ((w.alloc o).alloc o').heap.size ((w.alloc o).alloc o') w1) : Below (w.alloc o).heap.size (w.alloc o) w1 := below_one hb
theorem boxes1 {w w1 : World} {v0 : Value} {E0 : Nat} (hb : Below (w.alloc (.cells #[v0] E0)).heap.size (w.alloc (.cells #[v0] E0)) w1) :
    w1.cell? ⟨w.heap.size, 0, none⟩ = some v0 ∧ w.heap.size < w1.heap.size ∧ Below w.heap.size w w1 :=
  ⟨box_new hb, by have := hb.size; simp at this; omega, below_one hb⟩
theorem boxes2 {w w1 : World} {v0 v1 : Value} {E0 E1 : Nat} (hb : Below ((w.alloc (.cells #[v0] E0)).alloc (.cells #[v1] E1)).heap.size ((w.alloc (.cells #[v0] E0)).alloc (.cells #[v1] E1)) w1) :
    w1.cell? ⟨w.heap.size, 0, none⟩ = some v0 ∧ w1.cell? ⟨w.heap.size + 1, 0, none⟩ = some v1 ∧ w.heap.size + 1 < w1.heap.size ∧ Below w.heap.size w w1 :=
  ⟨box_new (below_one hb), by simpa using box_new hb, by have := hb.size; simp at this; omega, below_one (below_one hb)⟩
theorem boxes3 {w w1 : World} {v0 v1 v2 : Value} {E0 E1 E2 : Nat} (hb : Below (((w.alloc (.cells #[v0] E0)).alloc (.cells #[v1] E1)).alloc (.cells #[v2] E2)).heap.size (((w.alloc (.cells #[v0] E0)).alloc (.cells #[v1] E1)).alloc (.cells #[v2] E2)) w1) :
    w1.cell? ⟨w.heap.size, 0, none⟩ = some v0 ∧ w1.cell? ⟨w.heap.size + 1, 0, none⟩ = some v1 ∧ w1.cell? ⟨w.heap.size + 1 + 1, 0, none⟩ = some v2 ∧ w.heap.size + 1 + 1 < w1.heap.size ∧ Below w.heap.size w w1 :=
  ⟨box_new (below_one (below_one hb)), by simpa using box_new (below_one hb), by simpa using box_new hb, by have := hb.size; simp at this; omega, below_one (below_one (below_one hb))⟩
theorem boxes4 {w w1 : World} {v0 v1 v2 v3 : Value} {E0 E1 E2 E3 : Nat} (hb : Below ((((w.alloc (.cells #[v0] E0)).alloc (.cells #[v1] E1)).alloc (.cells #[v2] E2)).alloc (.cells #[v3] E3)).heap.size ((((w.alloc (.cells #[v0] E0)).alloc (.cells #[v1] E1)).alloc (.cells #[v2] E2)).alloc (.cells #[v3] E3)) w1) :
    w1.cell? ⟨w.heap.size, 0, none⟩ = some v0 ∧ w1.cell? ⟨w.heap.size + 1, 0, none⟩ = some v1 ∧ w1.cell? ⟨w.heap.size + 1 + 1, 0, none⟩ = some v2 ∧ w1.cell? ⟨w.heap.size + 1 + 1 + 1, 0, none⟩ = some v3 ∧ w.heap.size + 1 + 1 + 1 < w1.heap.size ∧ Below w.heap.size w w1 :=
  ⟨box_new (below_one (below_one (below_one hb))), by simpa using box_new (below_one (below_one hb)), by simpa using box_new (below_one hb), by simpa using box_new hb, by have := hb.size; simp at this; omega, below_one (below_one (below_one (below_one hb)))⟩

/-! ### lists of cells in memory -/
/-- the cells of es, each element laid out by f in sz cells, lie in block b from off on -/
def Has {α : Type} (w : World) (b off sz : Nat) (f : α → List Value) (es : List α) : Prop :=
  ∀ k e, es[k]? = some e → ∀ j v, (f e)[j]? = some v → w.cell? ⟨b, off + k * sz + j, none⟩ = some v

/-- the slice .slice A n c reads as es; nothing is said of its address where it is empty -/
structure Sl {α : Type} (w : World) (B sz : Nat) (f : α → List Value) (A : Option Addr) (n : Nat) (es : List α) : Prop where
  len : es.length = n
  at_ : 0 < n → ∃ b off, A = some ⟨b, off, none⟩ ∧ b < B ∧ Has w b off sz f es

section
variable {α : Type} {w w' : World} {B B' b off sz n : Nat} {f : α → List Value} {A : Option Addr} {es : List α}
theorem Has.keep (h : Has w b off sz f es) (hk : ∀ o, w'.cell? ⟨b, o, none⟩ = w.cell? ⟨b, o, none⟩) : Has w' b off sz f es :=
  fun k e he j v hv => (hk _).trans (h k e he j v hv)
theorem Has.below (h : Has w b off sz f es) (hb : Below B w w') (hB : b < B) : Has w' b off sz f es :=
  h.keep fun o => hb.cell (p := ⟨b, o, none⟩) hB
theorem Has.cls (h : Has w b off sz f es) (hB : b < w.heap.size) (d : Nat) (os : Array Obj) : Has (grow (redrawn w d) os) b off sz f es :=
  h.below (below_regrown w d os) hB
theorem Sl.keep (h : Sl w B sz f A n es) (hk : ∀ p : Addr, p.block < B → w'.cell? p = w.cell? p) : Sl w' B sz f A n es :=
  ⟨h.len, fun hn => by
    obtain ⟨b, off, e, hb, hc⟩ := h.at_ hn
    exact ⟨b, off, e, hb, hc.keep fun o => hk _ hb⟩⟩
theorem Sl.below (h : Sl w B sz f A n es) (hb : Below B w w') : Sl w' B sz f A n es := h.keep fun _ hp => hb.cell hp
theorem Sl.more (h : Sl w B sz f A n es) (hB : B ≤ B') : Sl w B' sz f A n es :=
  ⟨h.len, fun hn => by
    obtain ⟨b, off, e, hb, hc⟩ := h.at_ hn
    exact ⟨b, off, e, by omega, hc⟩⟩
/-- in the world behind a call that left all old blocks alone -/
theorem Sl.on (h : Sl w w.heap.size sz f A n es) (hb : Below w.heap.size w w') : Sl w' w'.heap.size sz f A n es := (h.below hb).more hb.size
theorem Sl.get (h : Sl w B sz f A n es) {k : Nat} (hk : k < n) : ∃ e, es[k]? = some e :=
  ⟨es[k]'(by have := h.len; omega), List.getElem?_eq_getElem _⟩
theorem Sl.nil_ (w : World) (B sz : Nat) (f : α → List Value) (A : Option Addr) : Sl w B sz f A 0 [] := ⟨rfl, fun h => absurd h (by omega)⟩
end

/-! ### rows of the call's own -/
theorem flat_get {α : Type} {f : α → List Value} {sz : Nat} (hf : ∀ e, (f e).length = sz) : ∀ (es : List α) (k j : Nat) (e : α) (v : Value), es[k]? = some e → (f e)[j]? = some v → (es.flatMap f)[k * sz + j]? = some v := by
  intro es
  induction es with
  | nil => intro k j e v he; simp at he
  | cons x es ih =>
    intro k j e v he hv
    cases k with
    | zero =>
      simp only [List.getElem?_cons_zero, Option.some.injEq] at he
      subst he
      have hj : j < (f x).length := (List.getElem?_eq_some_iff.1 hv).1
      simp only [Nat.zero_mul, Nat.zero_add, List.flatMap_cons]
      rw [List.getElem?_append_left hj]; exact hv
    | succ k =>
      simp only [List.getElem?_cons_succ] at he
      have := ih k j e v he hv
      simp only [List.flatMap_cons]
      rw [List.getElem?_append_right (by rw [hf x, Nat.add_mul]; omega), hf x, ← this]
      congr 1; rw [Nat.add_mul]; omega
theorem flat_len {α : Type} {f : α → List Value} {sz : Nat} (hf : ∀ e, (f e).length = sz) (es : List α) : (es.flatMap f).length = es.length * sz := by
  induction es with
  | nil => simp
  | cons x es ih => simp only [List.flatMap_cons, List.length_append, List.length_cons, hf x, ih, Nat.add_mul]; omega

/-- the slice v is the call's own (its block lies from base on, or it is nil) and reads as es -/
def Own {α : Type} (w : World) (base : Nat) (E : TypeId) (sz : Nat) (f : α → List Value) (v : Value) (es : List α) : Prop :=
  w.ownsRow base E sz v es.length (es.flatMap f)

section
variable {α : Type} {w w' : World} {base E sz : Nat} {f : α → List Value} {v : Value} {es : List α}
theorem own_shape (h : Own w base E sz f v es) : ∃ A n c, v = .slice A n c ∧ es.length = n ∧ n ≤ c := by
  rcases h.2 with ⟨rfl, h0⟩ | ⟨g, cap, cur, rfl, _, _, hc, _⟩
  · exact ⟨none, 0, 0, rfl, h0, Nat.le_refl _⟩
  · exact ⟨_, _, _, rfl, rfl, hc⟩
theorem own_sl {A : Option Addr} {n c : Nat} (h : Own w base E sz f (.slice A n c) es) (hf : ∀ e, (f e).length = sz) : Sl w w.heap.size sz f A n es := by
  have hl : es.length = n := by obtain ⟨A', n', c', he, hl, _⟩ := own_shape h; injection he with _ h2 _; omega
  refine ⟨hl, fun hn => ?_⟩
  rcases h.2 with ⟨h1, h0⟩ | ⟨g, cap, cur, h1, hb, hh, _⟩
  · omega
  · injection h1 with h1 _ _
    subst h1
    refine ⟨g, 0, rfl, (Array.getElem?_eq_some_iff.1 hh).1, fun k e he j u hu => ?_⟩
    have hx := World.ownsRow.cells h (g := g) rfl (k * sz + j) u (flat_get hf es k j e u he hu)
    have hadd : (⟨g, 0, none⟩ : Addr).add (k * sz + j) = ⟨g, k * sz + j, none⟩ := by unfold Addr.add; split <;> simp_all
    rw [hadd] at hx
    simpa [Nat.zero_add] using hx
theorem Own.below {B : Nat} (h : Own w base E sz f v es) (hb : Below B w w') (hB : w.heap.size ≤ B) : Own w' base E sz f v es := by
  refine ⟨h.1, ?_⟩
  rcases h.2 with h2 | ⟨g, cap, cur, hv, hg, hh, r⟩
  · exact .inl h2
  · exact .inr ⟨g, cap, cur, hv, hg, (hb.block g (by have := (Array.getElem?_eq_some_iff.1 hh).1; omega)).trans hh, r⟩
theorem Own.base_le {base' : Nat} (h : Own w base E sz f v es) (hb : base' ≤ base) : Own w base' E sz f v es := by
  refine ⟨h.1, ?_⟩
  rcases h.2 with h2 | ⟨g, cap, cur, hv, hg, r⟩
  · exact .inl h2
  · exact .inr ⟨g, cap, cur, hv, by omega, r⟩
theorem own_nil (w : World) (base E sz : Nat) (f : α → List Value) : Own w base E sz f (.slice none 0 0) ([] : List α) := ⟨by simp, .inl ⟨rfl, rfl⟩⟩
theorem own_new_empty (w : World) (base E sz : Nat) (f : α → List Value) (hb : base ≤ w.heap.size) : Own (w.alloc (.cells #[] E)) base E sz f (.slice (some ⟨w.heap.size, 0, none⟩) 0 0) ([] : List α) :=
  ⟨by simp, .inr ⟨w.heap.size, 0, #[], rfl, hb, heap_alloc_new w _, Nat.le_refl _, Nat.zero_le _, by simp, by simp⟩⟩
end

/-! ### lists whose members are good and whose neighbours are in order -/
def okList {α : Type} (ok : α → Bool) (le : α → α → Bool) (es : List α) : Bool :=
  es.all ok && (List.range es.length).all fun k => match es[k]?, es[k+1]? with | some e, some e' => le e e' | _, _ => true
section
variable {α : Type} {ok : α → Bool} {le : α → α → Bool} {es : List α}
theorem all_iff_get : es.all ok = true ↔ ∀ (k : Nat) e, es[k]? = some e → ok e = true := by
  rw [List.all_eq_true]
  constructor
  · intro h k e he; exact h e (List.mem_of_getElem? he)
  · intro h e he; obtain ⟨k, hk, rfl⟩ := List.mem_iff_getElem.1 he; exact h k _ (List.getElem?_eq_getElem hk)
theorem all_no {k : Nat} {e : α} (he : es[k]? = some e) (h : ok e = false) : es.all ok = false := by
  cases hb : es.all ok with
  | false => rfl
  | true => rw [all_iff_get] at hb; rw [hb k e he] at h; cases h
theorem okList_iff : okList ok le es = true ↔ (∀ (k : Nat) e, es[k]? = some e → ok e = true) ∧ ∀ (k : Nat) e e', es[k]? = some e → es[k+1]? = some e' → le e e' = true := by
  unfold okList
  rw [Bool.and_eq_true, all_iff_get, List.all_eq_true]
  refine and_congr Iff.rfl ⟨fun h k e e' he he' => ?_, fun h k _ => ?_⟩
  · have := h k (List.mem_range.2 (List.getElem?_eq_some_iff.1 he).1)
    rw [he, he'] at this; exact this
  · cases he : es[k]? with
    | none => rfl
    | some e =>
      cases he' : es[k+1]? with
      | none => rfl
      | some e' => exact h k e e' he he'
theorem okList_no1 {k : Nat} {e : α} (he : es[k]? = some e) (h : ok e = false) : okList ok le es = false := by
  cases hb : okList ok le es with
  | false => rfl
  | true => rw [okList_iff] at hb; rw [hb.1 k e he] at h; cases h
theorem okList_no2 {k : Nat} {e e' : α} (he : es[k]? = some e) (he' : es[k+1]? = some e') (h : le e e' = false) : okList ok le es = false := by
  cases hb : okList ok le es with
  | false => rfl
  | true => rw [okList_iff] at hb; rw [hb.2 k e e' he he'] at h; cases h
theorem okList_all (h : ∀ (k : Nat) e e', es[k]? = some e → es[k+1]? = some e' → le e e' = true) : okList ok le es = es.all ok := by
  rw [Bool.eq_iff_iff, okList_iff, all_iff_get]
  exact ⟨fun x => x.1, fun x => ⟨x, h⟩⟩
/-- the first k are good and in order -/
def okTo (ok : α → Bool) (le : α → α → Bool) (es : List α) (k : Nat) : Prop :=
  (∀ j e, j < k → es[j]? = some e → ok e = true) ∧ ∀ j e e', j + 1 < k → es[j]? = some e → es[j+1]? = some e' → le e e' = true
theorem okTo_zero : okTo ok le es 0 := ⟨fun j e h => absurd h (by omega), fun j e e' h => absurd h (by omega)⟩
theorem okTo_succ {k : Nat} {e : α} (h : okTo ok le es k) (he : es[k]? = some e) (hok : ok e = true) (hle : ∀ e', 0 < k → es[k-1]? = some e' → le e' e = true) : okTo ok le es (k + 1) := by
  refine ⟨fun j x hj hx => ?_, fun j x x' hj hx hx' => ?_⟩
  · rcases Nat.lt_or_ge j k with h1 | h1
    · exact h.1 j x h1 hx
    · have : j = k := by omega
      subst this; rw [he] at hx; injection hx with hx; subst hx; exact hok
  · rcases Nat.lt_or_ge (j + 1) k with h1 | h1
    · exact h.2 j x x' h1 hx hx'
    · have : j + 1 = k := by omega
      subst this; rw [he] at hx'; injection hx' with hx'; subst hx'; exact hle x (by omega) (by simpa using hx)
theorem okTo_all {n : Nat} (h : okTo ok le es n) (hn : es.length = n) : okList ok le es = true := by
  rw [okList_iff]
  have hlt : ∀ {j : Nat} {e : α}, es[j]? = some e → j < n := fun he => hn ▸ (List.getElem?_eq_some_iff.1 he).1
  exact ⟨fun k e he => h.1 k e (hlt he) he, fun k e e' he he' => h.2 k e e' (hlt he') he he'⟩
end

/-! ### sums over a list -/
def sumBy {α : Type} (f : α → Int) (es : List α) : Int := (es.map f).sum
section
variable {α : Type} {f : α → Int} {es : List α}
theorem sumBy_nil : sumBy f [] = 0 := rfl
theorem sumBy_zero : sumBy f (es.take 0) = 0 := rfl
theorem sumBy_append (es fs : List α) : sumBy f (es ++ fs) = sumBy f es + sumBy f fs := by simp [sumBy]
theorem sumBy_succ {k : Nat} {e : α} (he : es[k]? = some e) : sumBy f (es.take (k + 1)) = sumBy f (es.take k) + f e := by
  obtain ⟨hk, hx⟩ := List.getElem?_eq_some_iff.1 he
  rw [List.take_succ_eq_append_getElem hk, sumBy_append, hx]
  simp [sumBy]
theorem sumBy_bound {B : Int} (hB : ∀ e ∈ es, 0 ≤ f e ∧ f e ≤ B) (k : Nat) : 0 ≤ sumBy f (es.take k) ∧ sumBy f (es.take k) ≤ (es.take k).length * B := by
  have : ∀ l : List α, (∀ e ∈ l, 0 ≤ f e ∧ f e ≤ B) → 0 ≤ sumBy f l ∧ sumBy f l ≤ l.length * B := by
    intro l
    induction l with
    | nil => intro _; simp [sumBy]
    | cons x l ih =>
      intro h
      have h1 := h x (List.mem_cons.2 (.inl rfl))
      have h2 := ih fun e he => h e (List.mem_cons.2 (.inr he))
      have : sumBy f (x :: l) = f x + sumBy f l := by simp [sumBy]
      rw [this]
      have e2 : ((x :: l).length : Int) * B = l.length * B + B := by simp [Int.add_mul]
      omega
  exact this _ fun e he => hB e (List.mem_of_mem_take he)
end

/-! ### make, and rows that are filled -/
theorem make_all {P : Program} {t e : TypeId} {i : TypeInfo} {z : Value} (ht : P.underlying t = some (.slice e)) (hi : P.info? e = some i) (hz : i.zero = some z) (n : Nat) (hb : i.bytes * n ≤ 281474976710656) (h63 : n ≤ 1099511627776) (w : World) :
    (Instr.makeSlice t (.int .i64 (n : Int)) (.int .i64 (n : Int))).run P w = .ok (.slice (some ⟨w.heap.size, 0, none⟩) n n) (w.alloc (.cells (madeCells z.cells (n * i.size)) e)) := by
  have hb' : (i.bytes : Int) * (n : Int) ≤ 281474976710656 := by
    have h : ((i.bytes * n : Nat) : Int) ≤ 281474976710656 := by omega
    rwa [Int.natCast_mul] at h
  have := run_make (P := P) w t e i z ht hi hz .i64 .i64 n n (by omega) (Int.le_refl _) hb' (by omega)
  simpa using this

/-- block g is a row of the call's own: N cells of type E, none frozen, the first ones are xs -/
def Row (w : World) (g : Nat) (E N : Nat) (xs : List Value) : Prop :=
  ∃ cur : Array Value, w.heap[g]? = some (.cells cur E (0, 0)) ∧ cur.size = N ∧ cur.toList.take xs.length = xs
section
variable {w w' : World} {g E N : Nat} {xs : List Value}
theorem Row.lt (h : Row w g E N xs) : g < w.heap.size := by
  obtain ⟨cur, hh, _⟩ := h; exact (Array.getElem?_eq_some_iff.1 hh).1
theorem Row.fits (h : Row w g E N xs) : xs.length ≤ N := by
  obtain ⟨cur, _, hs, ht⟩ := h
  have := congrArg List.length ht
  simp only [List.length_take, Array.length_toList] at this
  omega
theorem Row.below {B : Nat} (h : Row w g E N xs) (hb : Below B w w') (hB : g < B) : Row w' g E N xs := by
  obtain ⟨cur, hh, r⟩ := h; exact ⟨cur, (hb.block g hB).trans hh, r⟩
theorem Row.on (h : Row w g E N xs) (hb : Below w.heap.size w w') : Row w' g E N xs := h.below hb h.lt
theorem Row.keep (h : Row w g E N xs) (hb : w'.heap[g]? = w.heap[g]?) : Row w' g E N xs := by
  obtain ⟨cur, hh, r⟩ := h; exact ⟨cur, hb.trans hh, r⟩
theorem Row.cell (h : Row w g E N xs) {i : Nat} (hi : i < N) : ∃ v, w.cell? ⟨g, i, none⟩ = some v := by
  obtain ⟨cur, hh, hs, _⟩ := h
  exact ⟨cur[i]'(by omega), by rw [cell_of_row w g i cur E (0, 0) hh]; exact Array.getElem?_eq_getElem (by omega)⟩
theorem Row.frozen (h : Row w g E N xs) (i : Nat) : w.frozen? ⟨g, i, none⟩ = false := by
  obtain ⟨cur, hh, _⟩ := h; simp [World.frozen?, hh]
theorem Row.new (w : World) (z : Array Value) (E N : Nat) : Row (w.alloc (.cells (madeCells z N) E)) w.heap.size E N [] :=
  ⟨_, heap_alloc_new w _, size_madeCells _ _, by simp⟩
/-- one cell more is written, behind those that are known -/
theorem Row.push (h : Row w g E N xs) (v : Value) (hlt : xs.length < N) : Row (w.setCell ⟨g, xs.length, none⟩ v) g E N (xs ++ [v]) := by
  obtain ⟨cur, hh, hs, ht⟩ := h
  refine ⟨cur.setIfInBounds xs.length v, ?_, by simpa using hs, ?_⟩
  · simp [World.setCell, Array.getElem?_modify, hh]
  · have hl : xs.length < cur.toList.length := by simpa [hs] using hlt
    rw [Array.toList_setIfInBounds, List.length_append, List.length_singleton, List.take_succ_eq_append_getElem (by simpa using hl)]
    rw [List.take_set_of_le (Nat.le_refl _), ht]
    simp
theorem Row.own {α : Type} {f : α → List Value} {es : List α} {sz : Nat} {base : Nat} (h : Row w g E (es.length * sz) (es.flatMap f)) (hf : ∀ e, (f e).length = sz) (hb : base ≤ g) (hm : es.length ≤ maxLen) :
    Own w base E sz f (.slice (some ⟨g, 0, none⟩) es.length es.length) es := by
  obtain ⟨cur, hh, hs, ht⟩ := h
  rw [flat_len hf] at ht
  exact ⟨flat_len hf es, .inr ⟨g, es.length, cur, rfl, hb, hh, Nat.le_refl _, hm, hs, ht⟩⟩
end

theorem take_flat {α : Type} {f : α → List Value} {es : List α} {k : Nat} {e : α} (he : es[k]? = some e) : (es.take (k + 1)).flatMap f = (es.take k).flatMap f ++ f e := by
  obtain ⟨hk, hx⟩ := List.getElem?_eq_some_iff.1 he
  rw [List.take_succ_eq_append_getElem hk, List.flatMap_append, hx]
  simp
theorem take_flat_len {α : Type} {f : α → List Value} {sz : Nat} (hf : ∀ e, (f e).length = sz) {es : List α} {k : Nat} (hk : k ≤ es.length) : ((es.take k).flatMap f).length = k * sz := by
  rw [flat_len hf, List.length_take, Nat.min_eq_left hk]
theorem below_st {v w : World} (h : Below v.heap.size v w) (p : Addr) (hp : v.heap.size ≤ p.block) (u : Value) : Below v.heap.size v (w.setCell p u) := h.setCell hp u
theorem Row.push1 {w : World} {g E N o : Nat} {xs : List Value} (h : Row w g E N xs) (ho : xs.length = o) (v : Value) (hlt : o < N) : Row (w.setCell ⟨g, o, none⟩ v) g E N (xs ++ [v]) := by
  subst ho; exact h.push v hlt
theorem Row.push3 {w : World} {g E N o : Nat} {xs : List Value} (h : Row w g E N xs) (ho : xs.length = o) (v0 v1 v2 : Value) (hlt : o + 2 < N) :
    Row (((w.setCell ⟨g, o, none⟩ v0).setCell ⟨g, o + 1, none⟩ v1).setCell ⟨g, o + 2, none⟩ v2) g E N (xs ++ [v0, v1, v2]) := by
  have := ((h.push1 ho v0 (by omega)).push1 (o := o + 1) (by simp [ho]) v1 (by omega)).push1 (o := o + 2) (by simp [ho]) v2 (by omega)
  simpa using this
theorem Row.push4 {w : World} {g E N o : Nat} {xs : List Value} (h : Row w g E N xs) (ho : xs.length = o) (v0 v1 v2 v3 : Value) (hlt : o + 3 < N) :
    Row ((((w.setCell ⟨g, o, none⟩ v0).setCell ⟨g, o + 1, none⟩ v1).setCell ⟨g, o + 2, none⟩ v2).setCell ⟨g, o + 3, none⟩ v3) g E N (xs ++ [v0, v1, v2, v3]) := by
  have := (h.push3 ho v0 v1 v2 (by omega)).push1 (o := o + 3) (by simp [ho]) v3 (by omega)
  simpa using this

/-! ### marks: k, k + 1, .. written into all cells -/
def marks (k : Int) (m : Nat) : List Value := (List.range m).map fun (j : Nat) => .int .i64 (k + j)
theorem marks_len (k : Int) (m : Nat) : (marks k m).length = m := by simp [marks]
theorem marks_succ (k : Int) (m : Nat) : marks k (m + 1) = marks k m ++ [.int .i64 (k + m)] := by simp [marks, List.range_succ]
theorem marks_add4 (k : Int) (m : Nat) : marks k (m + 4) = marks k m ++ [.int .i64 (k + m), .int .i64 (k + m + 1), .int .i64 (k + m + 2), .int .i64 (k + m + 3)] := by
  rw [marks_succ, marks_succ, marks_succ, marks_succ]
  simp [Int.add_assoc]
theorem marks_add3 (k : Int) (m : Nat) : marks k (m + 3) = marks k m ++ [.int .i64 (k + m), .int .i64 (k + m + 1), .int .i64 (k + m + 2)] := by
  rw [marks_succ, marks_succ, marks_succ]
  simp [Int.add_assoc]
theorem marks_step1 (k0 : Int) (k : Nat) : marks k0 (k + 1) = marks k0 k ++ [.int .i64 (k0 + k)] := marks_succ k0 k
theorem marks_step4 (k0 : Int) (k : Nat) : marks k0 ((k + 1) * 4) = marks k0 (k * 4) ++ [.int .i64 (k0 + (k : Int) * 4), .int .i64 (k0 + (k : Int) * 4 + 1), .int .i64 (k0 + (k : Int) * 4 + 1 + 1), .int .i64 (k0 + (k : Int) * 4 + 1 + 1 + 1)] := by
  rw [show (k + 1) * 4 = k * 4 + 4 from by omega, marks_add4]
  simp [Int.add_assoc]
theorem marks_step3 (k0 : Int) (k : Nat) : marks k0 ((k + 1) * 3) = marks k0 (k * 3) ++ [.int .i64 (k0 + (k : Int) * 3), .int .i64 (k0 + (k : Int) * 3 + 1), .int .i64 (k0 + (k : Int) * 3 + 1 + 1)] := by
  rw [show (k + 1) * 3 = k * 3 + 3 from by omega, marks_add3]
  simp [Int.add_assoc]
theorem marks_get (k : Int) (m j : Nat) (h : j < m) : (marks k m)[j]? = some (.int .i64 (k + j)) := by simp [marks, h]
/-- what is owned, laid open: nothing, or one block -/
theorem owns_block {w : World} {base E sz n : Nat} {v : Value} {xs : List Value} (h : w.ownsRow base E sz v n xs) (hn : 0 < n) :
    ∃ g cap, v = .slice (some ⟨g, 0, none⟩) n cap ∧ base ≤ g ∧ n ≤ cap ∧ cap ≤ maxLen ∧ Row w g E (cap * sz) xs := by
  rcases h.2 with ⟨_, h0⟩ | ⟨g, cap, cur, hv, hb, hh, hc, hm, hs, ht⟩
  · omega
  · exact ⟨g, cap, hv, hb, hc, hm, cur, hh, hs, by rw [h.1]; exact ht⟩
theorem owns_of_row {w : World} {base E sz n g cap : Nat} {xs : List Value} (h : Row w g E (cap * sz) xs) (hb : base ≤ g) (hc : n ≤ cap) (hm : cap ≤ maxLen) (hl : xs.length = n * sz) :
    w.ownsRow base E sz (.slice (some ⟨g, 0, none⟩) n cap) n xs := by
  obtain ⟨cur, hh, hs, ht⟩ := h
  exact ⟨hl, .inr ⟨g, cap, cur, rfl, hb, hh, hc, hm, hs, by rw [← hl]; exact ht⟩⟩
theorem Row.at_ {w : World} {g E N : Nat} {xs : List Value} (h : Row w g E N xs) {i : Nat} {v : Value} (hi : xs[i]? = some v) : w.cell? ⟨g, i, none⟩ = some v := by
  obtain ⟨cur, hh, hs, ht⟩ := h
  rw [cell_of_row w g i cur E (0, 0) hh]
  rw [← ht, List.getElem?_take] at hi
  split at hi
  · simpa using hi
  · cases hi
theorem Row.start {w : World} {g E N : Nat} {xs : List Value} (h : Row w g E N xs) : Row w g E N [] := by
  obtain ⟨cur, hh, hs, _⟩ := h; exact ⟨cur, hh, hs, by simp⟩
theorem only_st {v w : World} {g : Nat} (h : v.grownBy w (some g)) (o : Nat) (u : Value) : v.grownBy (w.setCell ⟨g, o, none⟩ u) (some g) :=
  ⟨h.os, h.tape, h.output, by simpa [World.setCell] using h.size, fun i hi hne => (Below.heap_setCell w _ u i (fun e => hne (by rw [e]))).trans (h.block i hi hne)⟩
theorem only_below {v w u : World} {row : Option Nat} (h : v.grownBy w row) (k : Below w.heap.size w u) : v.grownBy u row :=
  ⟨k.os.trans h.os, k.tape.trans h.tape, k.output.trans h.output, Nat.le_trans h.size k.size, fun i hi hne => (k.block i (Nat.lt_of_lt_of_le hi h.size)).trans (h.block i hi hne)⟩

/-! ### lists of integers -/
def icell (x : Int) : List Value := [.int .i64 x]
theorem icell_len (x : Int) : (icell x).length = 1 := rfl
theorem icell_flat (xs : List Int) : xs.flatMap icell = xs.map (Value.int .i64) := by
  induction xs with
  | nil => rfl
  | cons x xs ih => simp [icell, ih]
theorem Has.i1 {w : World} {b off k : Nat} {xs : List Int} {x : Int} (h : Has w b off 1 icell xs) (hx : xs[k]? = some x) : w.cell? ⟨b, off + k, none⟩ = some (.int .i64 x) := by
  have := h k x hx 0 _ rfl
  simpa using this
theorem Has.i1c {w : World} {b off k : Nat} {xs : List Int} {x : Int} (h : Has w b off 1 icell xs) (hB : b < w.heap.size) (hx : xs[k]? = some x) (d : Nat) (os : Array Obj) : (grow (redrawn w d) os).cell? ⟨b, off + k, none⟩ = some (.int .i64 x) :=
  (h.cls hB d os).i1 hx
def ieq (xs ys : List Int) : Bool := decide (xs = ys)
theorem ieq_self (xs : List Int) : ieq xs xs = true := by simp [ieq]
theorem ieq_yes {xs ys : List Int} (hl : xs.length = ys.length) (h : ∀ k, k < xs.length → ∀ x y, xs[k]? = some x → ys[k]? = some y → x = y) : ieq xs ys = true := by
  simp only [ieq, decide_eq_true_eq]
  apply List.ext_getElem hl
  intro k h1 h2
  exact h k h1 _ _ (List.getElem?_eq_getElem h1) (List.getElem?_eq_getElem h2)
theorem ieq_no {xs ys : List Int} {k : Nat} {x y : Int} (hx : xs[k]? = some x) (hy : ys[k]? = some y) (h : x ≠ y) : ieq xs ys = false := by
  simp only [ieq, decide_eq_false_iff_not]
  rintro rfl
  rw [hx] at hy; injection hy with hy; exact h hy
theorem ieq_len {xs ys : List Int} (h : xs.length ≠ ys.length) : ieq xs ys = false := by
  simp only [ieq, decide_eq_false_iff_not]
  rintro rfl; exact h rfl

/-- the indices below n that p marks -/
def idxs (p : Nat → Bool) (n : Nat) : List Int := ((List.range n).filter p).map Int.ofNat
theorem idxs_yes {p : Nat → Bool} {k : Nat} (h : p k = true) : idxs p (k + 1) = idxs p k ++ [(k : Int)] := by
  simp [idxs, List.range_succ, h]
theorem idxs_no {p : Nat → Bool} {k : Nat} (h : p k = false) : idxs p (k + 1) = idxs p k := by
  simp [idxs, List.range_succ, h]
theorem idxs_len (p : Nat → Bool) (n : Nat) : (idxs p n).length ≤ n := by
  unfold idxs; rw [List.length_map]; have := List.length_filter_le p (List.range n); simpa using this
theorem idxs_mem {p : Nat → Bool} {n : Nat} {x : Int} (h : x ∈ idxs p n) : ∃ k : Nat, x = k ∧ k < n ∧ p k = true := by
  unfold idxs at h
  obtain ⟨k, hk, rfl⟩ := List.mem_map.1 h
  obtain ⟨h1, h2⟩ := List.mem_filter.1 hk
  exact ⟨k, rfl, List.mem_range.1 h1, h2⟩

/-! ### four integers -/
structure Q4 where
  a : Int
  b : Int
  c : Int
  d : Int
def Q4.cells (q : Q4) : List Value := [.int .i64 q.a, .int .i64 q.b, .int .i64 q.c, .int .i64 q.d]
theorem Q4.cells_len (q : Q4) : q.cells.length = 4 := rfl
def q4eq (p q : Q4) : Bool := p.a == q.a && p.b == q.b && p.c == q.c && p.d == q.d
theorem q4eq_iff {p q : Q4} : q4eq p q = true ↔ p = q := by
  cases p; cases q; simp [q4eq, and_assoc]
theorem q4eq_self (p : Q4) : q4eq p p = true := q4eq_iff.2 rfl
theorem q4eq_comm (p q : Q4) : q4eq p q = q4eq q p := by
  rw [Bool.eq_iff_iff, q4eq_iff, q4eq_iff]; exact eq_comm
def q4all : List Q4 → List Q4 → Bool
  | [], [] => true
  | p :: ps, q :: qs => q4eq p q && q4all ps qs
  | _, _ => false
theorem q4all_iff : ∀ {es fs : List Q4}, q4all es fs = true ↔ es = fs := by
  intro es
  induction es with
  | nil => intro fs; cases fs <;> simp [q4all]
  | cons p ps ih => intro fs; cases fs <;> simp [q4all, ih, q4eq_iff]
theorem q4all_yes {es fs : List Q4} (hl : es.length = fs.length) (h : ∀ k, k < es.length → ∀ p q, es[k]? = some p → fs[k]? = some q → q4eq p q = true) : q4all es fs = true := by
  rw [q4all_iff]
  apply List.ext_getElem hl
  intro k h1 h2
  exact q4eq_iff.1 (h k h1 _ _ (List.getElem?_eq_getElem h1) (List.getElem?_eq_getElem h2))
theorem q4all_no {es fs : List Q4} {k : Nat} {p q : Q4} (hp : es[k]? = some p) (hq : fs[k]? = some q) (h : q4eq p q = false) : q4all es fs = false := by
  cases hb : q4all es fs with
  | false => rfl
  | true => rw [q4all_iff] at hb; subst hb; rw [hp] at hq; injection hq with hq; subst hq; rw [q4eq_self] at h; cases h
theorem q4all_len {es fs : List Q4} (h : es.length ≠ fs.length) : q4all es fs = false := by
  cases hb : q4all es fs with
  | false => rfl
  | true => rw [q4all_iff] at hb; subst hb; exact absurd rfl h
theorem Has.q4 {w : World} {b off k : Nat} {es : List Q4} {e : Q4} (h : Has w b off 4 Q4.cells es) (he : es[k]? = some e) :
    w.cell? ⟨b, off + k * 4, none⟩ = some (.int .i64 e.a) ∧ w.cell? ⟨b, off + k * 4 + 1, none⟩ = some (.int .i64 e.b) ∧ w.cell? ⟨b, off + k * 4 + 2, none⟩ = some (.int .i64 e.c) ∧ w.cell? ⟨b, off + k * 4 + 3, none⟩ = some (.int .i64 e.d) :=
  ⟨h k e he 0 _ rfl, h k e he 1 _ rfl, h k e he 2 _ rfl, h k e he 3 _ rfl⟩
theorem Has.q4c {w : World} {b off k : Nat} {es : List Q4} {e : Q4} (h : Has w b off 4 Q4.cells es) (hB : b < w.heap.size) (he : es[k]? = some e) :
    (∀ d os, (grow (redrawn w d) os).cell? ⟨b, off + k * 4, none⟩ = some (.int .i64 e.a)) ∧ (∀ d os, (grow (redrawn w d) os).cell? ⟨b, off + k * 4 + 1, none⟩ = some (.int .i64 e.b)) ∧
    (∀ d os, (grow (redrawn w d) os).cell? ⟨b, off + k * 4 + 2, none⟩ = some (.int .i64 e.c)) ∧ (∀ d os, (grow (redrawn w d) os).cell? ⟨b, off + k * 4 + 3, none⟩ = some (.int .i64 e.d)) :=
  ⟨fun d os => ((h.cls hB d os).q4 he).1, fun d os => ((h.cls hB d os).q4 he).2.1, fun d os => ((h.cls hB d os).q4 he).2.2.1, fun d os => ((h.cls hB d os).q4 he).2.2.2⟩
/-- the same behind one new block -/
theorem Has.q4ca {w : World} {b off k : Nat} {es : List Q4} {e : Q4} (h : Has w b off 4 Q4.cells es) (hB : b < w.heap.size) (he : es[k]? = some e) :
    (∀ o d os, (grow (redrawn (w.alloc o) d) os).cell? ⟨b, off + k * 4, none⟩ = some (.int .i64 e.a)) ∧ (∀ o d os, (grow (redrawn (w.alloc o) d) os).cell? ⟨b, off + k * 4 + 1, none⟩ = some (.int .i64 e.b)) ∧
    (∀ o d os, (grow (redrawn (w.alloc o) d) os).cell? ⟨b, off + k * 4 + 2, none⟩ = some (.int .i64 e.c)) ∧ (∀ o d os, (grow (redrawn (w.alloc o) d) os).cell? ⟨b, off + k * 4 + 3, none⟩ = some (.int .i64 e.d)) := by
  have hk : ∀ o d os, Has (grow (redrawn (w.alloc o) d) os) b off 4 Q4.cells es := fun o d os =>
    (h.below ((Below.refl w.heap.size w).alloc (Nat.le_refl _) o) hB).cls (by simp; omega) d os
  exact ⟨fun o d os => ((hk o d os).q4 he).1, fun o d os => ((hk o d os).q4 he).2.1, fun o d os => ((hk o d os).q4 he).2.2.1, fun o d os => ((hk o d os).q4 he).2.2.2⟩
/-- a block of four that was just laid, behind a call -/
theorem box4k {w w1 : World} {v0 v1 v2 v3 : Value} {E : Nat} (hb : Below (w.alloc (.cells #[v0, v1, v2, v3] E)).heap.size (w.alloc (.cells #[v0, v1, v2, v3] E)) w1) :
    w1.cell? ⟨w.heap.size, 0, none⟩ = some v0 ∧ w1.cell? ⟨w.heap.size, 1, none⟩ = some v1 ∧ w1.cell? ⟨w.heap.size, 2, none⟩ = some v2 ∧ w1.cell? ⟨w.heap.size, 3, none⟩ = some v3 := by
  have hc : ∀ i, w1.cell? ⟨w.heap.size, i, none⟩ = #[v0, v1, v2, v3][i]? := fun i => by
    rw [hb.cell (p := ⟨w.heap.size, i, none⟩) (by simp)]
    exact cell_of_row _ _ i _ _ _ (heap_alloc_new w _)
  exact ⟨hc 0, hc 1, hc 2, hc 3⟩
/-- a block of four that was just laid, in every world of the class behind it -/
theorem box4c (w : World) (v0 v1 v2 v3 : Value) (E d : Nat) (os : Array Obj) :
    (grow (redrawn (w.alloc (.cells #[v0, v1, v2, v3] E)) d) os).cell? ⟨w.heap.size, 0, none⟩ = some v0 ∧ (grow (redrawn (w.alloc (.cells #[v0, v1, v2, v3] E)) d) os).cell? ⟨w.heap.size, 1, none⟩ = some v1 ∧
    (grow (redrawn (w.alloc (.cells #[v0, v1, v2, v3] E)) d) os).cell? ⟨w.heap.size, 2, none⟩ = some v2 ∧ (grow (redrawn (w.alloc (.cells #[v0, v1, v2, v3] E)) d) os).cell? ⟨w.heap.size, 3, none⟩ = some v3 := by
  have hb := below_regrown (w.alloc (.cells #[v0, v1, v2, v3] E)) d os
  have hc : ∀ i, (grow (redrawn (w.alloc (.cells #[v0, v1, v2, v3] E)) d) os).cell? ⟨w.heap.size, i, none⟩ = #[v0, v1, v2, v3][i]? := fun i => by
    rw [hb.cell (p := ⟨w.heap.size, i, none⟩) (by simp)]
    exact cell_of_row _ _ i _ _ _ (heap_alloc_new w _)
  exact ⟨hc 0, hc 1, hc 2, hc 3⟩

end Go.Proofs.YtgbblcbpmpokdaaGreatDoor

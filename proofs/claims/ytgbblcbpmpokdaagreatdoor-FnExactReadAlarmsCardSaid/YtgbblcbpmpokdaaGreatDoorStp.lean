/-
  What this text proves: append of a whole list onto a slice of the call's own, at a step of a region that draws its order; sub-slices in the words of the text Lib.
  Conditions: those that each lemma states.
-/
import Derived.Test.YtgbblcbpmpokdaaGreatDoorApp
import Derived.Deep.RegionHeld3
import Derived.Deep.AppendLies
namespace Go.Proofs.YtgbblcbpmpokdaaGreatDoor
open Go.RowKit

theorem run_app {P : Program} {W : World} (t ty : TypeId) {α : Type} {f : α → List Value}
    (base : Nat) (E : TypeId) (i : TypeInfo) (z : Value) (sz bytes : Nat) (ht : P.underlying t = some (.slice E)) (hi : P.info? E = some i) (hz : i.zero = some z)
    (hsize : i.size = sz) (hby : i.bytes = bytes) (hzs : z.cells.size = sz) (hsz : 0 < sz) (hf : ∀ e, (f e).length = sz) (h1 : ∀ e u, u ∈ f e → u.oneCell' = true)
    (v : Value) (es fs : List α) (hown : Own W base E sz f v es) (B : Nat) (A : Option Addr) (m c : Nat) (hsl : Sl W B sz f A m fs)
    (hlen : es.length ≤ 2097152) (hm : m ≤ 2097152) (hbytes : bytes ≤ 1024) (hbase : base ≤ W.heap.size) :
    ∃ v' w', (Builtin.append_ #[t, t] ty #[v, .slice A m c]).run P W = .ok v' w' ∧ Own w' base E sz f v' (es ++ fs) ∧ W.grownBy w' v.ownBlock := by
  have hl := hsl.len
  cases A with
  | none =>
    have hm0 : m = 0 := by
      rcases Nat.eq_zero_or_pos m with h0 | h0
      · exact h0
      · obtain ⟨b, off, e, _⟩ := hsl.at_ h0; cases e
    subst hm0
    have hfs : fs = [] := List.eq_nil_of_length_eq_zero hl
    subst hfs
    exact ⟨v, W, run_append_empty W ht hi hown c, by simpa using hown, World.grownBy.refl W _⟩
  | some ad =>
    obtain ⟨v', w', hr, h2, h3, _, _⟩ := run_append_own_at (P := P) W base t ty E i z sz bytes ht hi hz hsize hby hzs hsz v es.length (es.flatMap f) hown ad m c (fs.flatMap f) (by rw [flat_len hf, hl]) (by
      intro j u hj
      rcases Nat.eq_zero_or_pos m with h0 | h0
      · subst h0
        have hfs : fs = [] := List.eq_nil_of_length_eq_zero hl
        subst hfs
        simp at hj
      · obtain ⟨b, off, e, hb, H⟩ := hsl.at_ h0
        injection e with e
        subst e
        have hjl : j < (fs.flatMap f).length := (List.getElem?_eq_some_iff.1 hj).1
        rw [flat_len hf] at hjl
        have hk : j / sz < fs.length := Nat.div_lt_of_lt_mul (by rw [Nat.mul_comm]; exact hjl)
        have hr : j % sz < sz := Nat.mod_lt _ hsz
        have hjj : j / sz * sz + j % sz = j := by rw [Nat.mul_comm]; exact Nat.div_add_mod j sz
        have hv : (f fs[j / sz])[j % sz]? = some ((f fs[j / sz])[j % sz]'(by rw [hf]; exact hr)) := List.getElem?_eq_getElem _
        have hg := flat_get hf fs (j / sz) (j % sz) _ _ (List.getElem?_eq_getElem hk) hv
        rw [hjj, hj] at hg
        injection hg with hg
        have hc := H (j / sz) _ (List.getElem?_eq_getElem hk) (j % sz) _ hv
        have hadd : (⟨b, off, none⟩ : Addr).add j = ⟨b, off + j, none⟩ := by unfold Addr.add; split <;> simp_all
        rw [hadd, hg, ← hc, Nat.add_assoc, hjj])
      (fun u hu => by obtain ⟨e, _, he⟩ := List.mem_flatMap.1 hu; exact h1 e u he) (by unfold maxLen; omega) (by
        have : (es.length + m) * bytes ≤ 4194304 * 1024 := Nat.mul_le_mul (by omega) hbytes
        omega) hbase
    refine ⟨v', w', hr, ?_, h3⟩
    unfold Own
    rw [List.length_append, List.flatMap_append, hl]; exact h2

/-- at a step of a region that draws its order -/
theorem step_app {P : Program} {W : World} {ops : Array Oper} {o : Oper} {a : Act} {K : Act → World → Prop} {Q : Exit → Act → World → Prop} {X : Prop} (hgd : o.guard = none) (s x : Operand) (t : TypeId)
    (ho : o.op = .call { callee := .builtin .append, args := #[s, x], argTypes := #[t, t] }) {α : Type} {f : α → List Value}
    (base : Nat) (E : TypeId) (i : TypeInfo) (z : Value) (sz bytes : Nat) (ht : P.underlying t = some (.slice E)) (hi : P.info? E = some i) (hz : i.zero = some z)
    (hsize : i.size = sz) (hby : i.bytes = bytes) (hzs : z.cells.size = sz) (hsz : 0 < sz) (hf : ∀ e, (f e).length = sz) (h1 : ∀ e u, u ∈ f e → u.oneCell' = true)
    (v : Value) (es fs : List α) (hs : a.eval s = v) (hown : Own W base E sz f v es) (B : Nat) (A : Option Addr) (m c : Nat) (hx : a.eval x = .slice A m c) (hsl : Sl W B sz f A m fs)
    (hlen : es.length ≤ 2097152) (hm : m ≤ 2097152) (hbytes : bytes ≤ 1024) (hbase : base ≤ W.heap.size)
    (h : ∀ v' w', Own w' base E sz f v' (es ++ fs) → W.grownBy w' v.ownBlock → K (a.put o.dst v') w') :
    if Region.wanted o (yielded ops a.tmps) = true then Oper.wp P o a W K Q else X := by
  have hw : Region.wanted o (yielded ops a.tmps) = true := by simp [Region.wanted, hgd]
  rw [if_pos hw]
  obtain ⟨v', w', hr, h2, h3⟩ := run_app (P := P) (W := W) t o.type base E i z sz bytes ht hi hz hsize hby hzs hsz hf h1 v es fs hown B A m c hsl hlen hm hbytes hbase
  unfold Oper.wp execOp
  simp only [ho, resolve, invoke, builtin, Sem.run_bind, Sem.run_pure, Result.andThen_ok, List.map_toArray, List.map_cons, List.map_nil, hs, hx, hr]
  exact h v' w' h2 h3

/-! ### a part of a slice -/
theorem Sl.part {α : Type} {w : World} {B sz : Nat} {f : α → List Value} {A : Option Addr} {n : Nat} {es : List α} (h : Sl w B sz f A n es) (lo hi m : Nat) (h1 : lo ≤ hi) (h2 : hi ≤ n) (h3 : hi ≤ m) :
    Sl w B sz f (if m = lo then A else A.map (·.add (lo * sz))) (hi - lo) ((es.take hi).drop lo) := by
  refine ⟨by rw [List.length_drop, List.length_take, h.len]; omega, fun hpos => ?_⟩
  obtain ⟨b, off, rfl, hb, H⟩ := h.at_ (by omega)
  have hadd : (⟨b, off, none⟩ : Addr).add (lo * sz) = ⟨b, off + lo * sz, none⟩ := by unfold Addr.add; split <;> simp_all
  refine ⟨b, off + lo * sz, by rw [if_neg (by omega)]; simp [hadd], hb, fun k e he j v hv => ?_⟩
  have hk : k < ((es.take hi).drop lo).length := (List.getElem?_eq_some_iff.1 he).1
  rw [List.length_drop, List.length_take] at hk
  rw [List.getElem?_drop, List.getElem?_take_of_lt (by omega)] at he
  have := H (lo + k) e he j v hv
  rw [← this, Nat.add_mul]
  congr 2; omega
theorem Sl.front {α : Type} {w : World} {B sz : Nat} {f : α → List Value} {A : Option Addr} {n : Nat} {es : List α} (h : Sl w B sz f A n es) (hi : Nat) (h2 : hi ≤ n) : Sl w B sz f A hi (es.take hi) := by
  refine ⟨by rw [List.length_take, h.len]; omega, fun hpos => ?_⟩
  obtain ⟨b, off, rfl, hb, H⟩ := h.at_ (by omega)
  refine ⟨b, off, rfl, hb, fun k e he j v hv => ?_⟩
  have hk : k < (es.take hi).length := (List.getElem?_eq_some_iff.1 he).1
  rw [List.length_take] at hk
  rw [List.getElem?_take_of_lt (by omega)] at he
  exact H k e he j v hv
theorem Sl.back {α : Type} {w : World} {B sz : Nat} {f : α → List Value} {A : Option Addr} {n : Nat} {es : List α} (h : Sl w B sz f A n es) (lo m : Nat) (h1 : lo ≤ n) (h3 : n ≤ m) :
    Sl w B sz f (if m = lo then A else A.map (·.add (lo * sz))) (n - lo) (es.drop lo) := by
  have := h.part lo n m h1 (Nat.le_refl _) h3
  rwa [List.take_of_length_le (by rw [h.len]; omega)] at this
end Go.Proofs.YtgbblcbpmpokdaaGreatDoor

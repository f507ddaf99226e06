/- Walks over functions of this seat, by contract. Conditions: those that each theorem states. -/
import Derived.Test.YtogjkcakoahpiaaN2
import Derived.Test.YtogjkcakoahpiaaTi
import Derived.Deep.RegionLaw
import Derived.Deep.DeepCutAuto
import Derived.Deep.LoopGhost
namespace Go.Proofs.Ytogjkcakoahpiaa
open Go.RowKit Go.Sort

def bcell (x : Bool) : List Value := [.bool x]
theorem bcell_len (x : Bool) : (bcell x).length = 1 := rfl
theorem Has.b1 {w : World} {b off k : Nat} {xs : List Bool} {x : Bool} (h : Has w b off 1 bcell xs) (hx : xs[k]? = some x) : w.cell? ⟨b, off + k, none⟩ = some (.bool x) := by
  have := h k x hx 0 _ rfl
  simpa using this
theorem own_b0 {w : World} {base E g n c k : Nat} {xs : List Bool} {x : Bool} (h : Own w base E 1 bcell (.slice (some ⟨g, 0, none⟩) n c) xs) (hx : xs[k]? = some x) : w.cell? ⟨g, k, none⟩ = some (.bool x) := by
  have := (own_has h bcell_len).b1 hx; rwa [Nat.zero_add] at this
theorem own_i0 {w : World} {base E g n c k : Nat} {xs : List Int} {x : Int} (h : Own w base E 1 icell (.slice (some ⟨g, 0, none⟩) n c) xs) (hx : xs[k]? = some x) : w.cell? ⟨g, k, none⟩ = some (.int .i64 x) := by
  have := (own_has h icell_len).i1 hx; rwa [Nat.zero_add] at this
theorem own_bset {w : World} {base E g n c k : Nat} {xs : List Bool} (h : Own w base E 1 bcell (.slice (some ⟨g, 0, none⟩) n c) xs) (hk : k < xs.length) (x : Bool) : Own (w.setCell ⟨g, k, none⟩ (.bool x)) base E 1 bcell (.slice (some ⟨g, 0, none⟩) n c) (xs.set k x) := by
  have := Own.store bcell_len h (k := k) (j := 0) (e := xs[k]) (e' := x) (u := .bool x) (List.getElem?_eq_getElem hk) (by omega) rfl
  simpa using this
theorem own_iset {w : World} {base E g n c k : Nat} {xs : List Int} (h : Own w base E 1 icell (.slice (some ⟨g, 0, none⟩) n c) xs) (hk : k < xs.length) (x : Int) : Own (w.setCell ⟨g, k, none⟩ (.int .i64 x)) base E 1 icell (.slice (some ⟨g, 0, none⟩) n c) (xs.set k x) := by
  have := Own.store icell_len h (k := k) (j := 0) (e := xs[k]) (e' := x) (u := .int .i64 x) (List.getElem?_eq_getElem hk) (by omega) rfl
  simpa using this
theorem own_oset {W : World} {b E s g h n c : Nat} {α : Type} {f : α → List Value} {l : List α} (ho : Own W b E s f (.slice (some ⟨h, 0, none⟩) n c) l) (hne : h ≠ g) (o : Nat) (u : Value) : Own (W.setCell ⟨g, o, none⟩ u) b E s f (.slice (some ⟨h, 0, none⟩) n c) l := by
  refine ⟨ho.1, ?_⟩
  rcases ho.2 with h2 | ⟨g', cap, cur, hv, hg, hh, r⟩
  · exact .inl h2
  · refine .inr ⟨g', cap, cur, hv, hg, ?_, r⟩
    have e1 : h = g' := by injection hv with hv; injection hv with hv; injection hv
    subst e1
    have : (W.setCell ⟨g, o, none⟩ u).heap[h]? = W.heap[h]? := Below.heap_setCell W _ u h hne
    rw [this]; exact hh
theorem cell_ra {w : World} {g o : Nat} {v : Value} (x : w.cell? ⟨g, o, none⟩ = some v) (hg : g < w.heap.size) : ∀ ob d os, (grow (redrawn (w.alloc ob) d) os).cell? ⟨g, o, none⟩ = some v := fun ob d os =>
  cell_regrown (cell_on x (below_al (Below.refl _ _) ob) hg) d os
theorem free_on {w w1 : World} {g o : Nat} (x : w.frozen? ⟨g, o, none⟩ = false) (hb : Below w.heap.size w w1) (hg : g < w.heap.size) : w1.frozen? ⟨g, o, none⟩ = false :=
  (hb.frozen (p := ⟨g, o, none⟩) hg).trans x
/-- the junctions that were reached, as the reference keeps them -/
structure WSt (wr : World) (B g sb bb Jn : Nat) (ds : List Q3) (fl : List Int) (src : Int) (L : List Int) (how : Int → Nat) (sl : List Bool) (bl : List Int) : Prop where
  tree : Tree ds fl src L how
  inn : ∀ v ∈ L, 0 ≤ v ∧ v < (Jn : Int)
  sll : sl.length = Jn
  bll : bl.length = Jn
  seen : ∀ v : Nat, v < Jn → sl[v]? = some (decide ((v : Int) ∈ L))
  via : ∀ (v : Nat) d, (v : Int) ∈ L → (v : Int) ≠ src → ds[how v]? = some d → bl[v]? = some (if d.b = (v : Int) then (how v : Int) else (how v : Int) - (ds.length : Int))
  so : Own wr B 4 1 bcell (.slice (some ⟨sb, 0, none⟩) Jn Jn) sl
  bo : Own wr B 3 1 icell (.slice (some ⟨bb, 0, none⟩) Jn Jn) bl
  g0 : wr.cell? ⟨g, 0, none⟩ = some (.slice (some ⟨sb, 0, none⟩) Jn Jn)
  g1 : wr.cell? ⟨g, 1, none⟩ = some (.slice (some ⟨bb, 0, none⟩) Jn Jn)
  ne : sb ≠ bb ∧ g ≠ sb ∧ g ≠ bb
  gb : B ≤ g ∧ g < wr.heap.size ∧ B ≤ sb ∧ sb < wr.heap.size ∧ B ≤ bb ∧ bb < wr.heap.size
section
variable {wr wx : World} {B g sb bb Jn : Nat} {ds : List Q3} {fl : List Int} {src : Int} {L : List Int} {how : Int → Nat} {sl : List Bool} {bl : List Int}
theorem WSt.on (h : WSt wr B g sb bb Jn ds fl src L how sl bl) (hb : Below wr.heap.size wr wx) : WSt wx B g sb bb Jn ds fl src L how sl bl :=
  ⟨h.tree, h.inn, h.sll, h.bll, h.seen, h.via, h.so.below hb (Nat.le_refl _), h.bo.below hb (Nat.le_refl _), cell_on h.g0 hb h.gb.2.1, cell_on h.g1 hb h.gb.2.1, h.ne,
    h.gb.1, Nat.lt_of_lt_of_le h.gb.2.1 hb.size, h.gb.2.2.1, Nat.lt_of_lt_of_le h.gb.2.2.2.1 hb.size, h.gb.2.2.2.2.1, Nat.lt_of_lt_of_le h.gb.2.2.2.2.2 hb.size⟩
theorem WSt.len (h : WSt wr B g sb bb Jn ds fl src L how sl bl) : L.length ≤ Jn := pigeon Jn L h.tree.nodup h.inn
/-- one junction more, by ditch k, along it or against it -/
theorem WSt.more (h : WSt wr B g sb bb Jn ds fl src L how sl bl) {k : Nat} {d : Q3} {f u : Int} {v : Nat} (hd : ds[k]? = some d) (hf : fl[k]? = some f) (hu : u ∈ L) (hv : (v : Int) ∉ L) (hJ : v < Jn)
    (hc : (d.a = u ∧ d.b = (v : Int) ∧ f < d.c) ∨ (d.b = u ∧ d.a = (v : Int) ∧ 0 < f)) {x : Int} (hx : x = if d.b = (v : Int) then (k : Int) else (k : Int) - (ds.length : Int))
    (so : Own wx B 4 1 bcell (.slice (some ⟨sb, 0, none⟩) Jn Jn) (sl.set v true)) (bo : Own wx B 3 1 icell (.slice (some ⟨bb, 0, none⟩) Jn Jn) (bl.set v x))
    (g0 : wx.cell? ⟨g, 0, none⟩ = some (.slice (some ⟨sb, 0, none⟩) Jn Jn)) (g1 : wx.cell? ⟨g, 1, none⟩ = some (.slice (some ⟨bb, 0, none⟩) Jn Jn)) (hs : wr.heap.size ≤ wx.heap.size) :
    WSt wx B g sb bb Jn ds fl src (L ++ [(v : Int)]) (fun y => if y = (v : Int) then k else how y) (sl.set v true) (bl.set v x) := by
  have hsrc : src ≠ (v : Int) := fun e => hv (e ▸ h.tree.src_in)
  refine ⟨h.tree.more hd hf hu hv hc, fun y hy => ?_, by rw [List.length_set]; exact h.sll, by rw [List.length_set]; exact h.bll, fun y hy => ?_, fun y d' hy hys hd' => ?_, so, bo, g0, g1, h.ne,
    h.gb.1, Nat.lt_of_lt_of_le h.gb.2.1 hs, h.gb.2.2.1, Nat.lt_of_lt_of_le h.gb.2.2.2.1 hs, h.gb.2.2.2.2.1, Nat.lt_of_lt_of_le h.gb.2.2.2.2.2 hs⟩
  · rcases List.mem_append.1 hy with hy | hy
    · exact h.inn y hy
    · have : y = (v : Int) := by simpa using hy
      omega
  · by_cases e : v = y
    · subst e
      rw [List.getElem?_set_self (by rw [h.sll]; exact hJ)]; simp
    · rw [List.getElem?_set_ne e, h.seen y hy]
      have e' : ¬ ((y : Int) = (v : Int)) := by omega
      simp [e']
  · by_cases e : v = y
    · subst e
      simp only [if_true] at hd' ⊢
      rw [hd] at hd'; injection hd' with hd'; subst hd'
      rw [List.getElem?_set_self (by rw [h.bll]; exact hJ), hx]
    · have e' : ¬ ((y : Int) = (v : Int)) := by omega
      simp only [if_neg e'] at hd' ⊢
      rw [List.getElem?_set_ne e]
      refine h.via y d' ?_ hys hd'
      rcases List.mem_append.1 hy with hy | hy
      · exact hy
      · exact absurd (by simpa using hy) e'
end
/-- what is closed as far as ditch k -/
def ClosedTo (ds : List Q3) (fl : List Int) (L : List Int) (k : Nat) : Prop :=
  ∀ (j : Nat) d f, j < k → ds[j]? = some d → fl[j]? = some f → (f < d.c → d.a ∈ L → d.b ∈ L) ∧ (0 < f → d.b ∈ L → d.a ∈ L)
theorem closed_res {ds : List Q3} {fl : List Int} {L : List Int} (h : ClosedTo ds fl L ds.length) (u v : Int) (hu : u ∈ L) (hr : Res ds fl u v) : v ∈ L := by
  obtain ⟨k, d, f, hd, hf, hc⟩ := hr
  obtain ⟨h1, h2⟩ := h k d f (List.getElem?_eq_some_iff.1 hd).1 hd hf
  rcases hc with ⟨rfl, rfl, c⟩ | ⟨rfl, rfl, c⟩
  · exact h1 c hu
  · exact h2 c hu
theorem info_bool : (Try.prog.info? 4).map (fun i => (i.zero, i.size, i.bytes)) = some (some (.bool false), 1, 1) := by kernel_rfl
theorem info_int : (Try.prog.info? 3).map (fun i => (i.zero, i.size, i.bytes)) = some (some (.int .i64 0), 1, 8) := by kernel_rfl

end Go.Proofs.Ytogjkcakoahpiaa

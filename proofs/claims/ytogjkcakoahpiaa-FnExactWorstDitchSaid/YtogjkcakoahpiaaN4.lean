/- Walks over functions of this seat, by contract. Conditions: those that each theorem states. -/
import Derived.Test.YtogjkcakoahpiaaN3
namespace Go.Proofs.Ytogjkcakoahpiaa
open Go.RowKit Go.Sort

theorem own_made {α : Type} {f : α → List Value} (w : World) (E N base : Nat) (z : Value) (x : α) (hf : f x = [z]) (hm : N ≤ 1048576) (hb : base ≤ w.heap.size) : Own (w.alloc (.cells (madeCells #[z] N) E)) base E 1 f (.slice (some ⟨w.heap.size, 0, none⟩) N N) (List.replicate N x) := by
  have hl : (List.replicate N x).flatMap f = List.replicate N z := by
    induction N with
    | zero => rfl
    | succ N ih => rw [List.replicate_succ, List.flatMap_cons, ih (by omega), hf]; rfl
  refine ⟨by rw [hl]; simp, .inr ⟨w.heap.size, N, _, by simp, hb, heap_alloc_new w _, by simp, by unfold maxLen; omega, by simp [size_madeCells], ?_⟩⟩
  rw [hl]
  apply List.ext_getElem
  · simp [madeCells]
  · intro i h1 h2
    simp [madeCells, Nat.mod_one]
/-- the two rows of the reference and the box that holds them, just made -/
structure Mk (w wx : World) (g sb bb Jn : Nat) : Prop where
  so : Own wx w.heap.size 4 1 bcell (.slice (some ⟨sb, 0, none⟩) Jn Jn) (List.replicate Jn false)
  bo : Own wx w.heap.size 3 1 icell (.slice (some ⟨bb, 0, none⟩) Jn Jn) (List.replicate Jn 0)
  g0 : wx.cell? ⟨g, 0, none⟩ = some (.slice (some ⟨sb, 0, none⟩) Jn Jn)
  g1 : wx.cell? ⟨g, 1, none⟩ = some (.slice (some ⟨bb, 0, none⟩) Jn Jn)
  ne : sb ≠ bb ∧ g ≠ sb ∧ g ≠ bb
  gb : w.heap.size ≤ g ∧ g < wx.heap.size ∧ w.heap.size ≤ sb ∧ sb < wx.heap.size ∧ w.heap.size ≤ bb ∧ bb < wx.heap.size
  bel : Below w.heap.size w wx
theorem mk_sb (w : World) (Jn : Nat) (hJ : Jn ≤ 10) (T : Nat) : Mk w (((w.alloc (.cells (madeCells #[.bool false] Jn) 4)).alloc (.cells (madeCells #[.int .i64 0] Jn) 3)).alloc (.cells #[.slice (some ⟨w.heap.size, 0, none⟩) Jn Jn, .slice (some ⟨w.heap.size + 1, 0, none⟩) Jn Jn] T)) (w.heap.size + 1 + 1) w.heap.size (w.heap.size + 1) Jn := by
  have hk := box2k (Below.refl (((w.alloc (.cells (madeCells #[.bool false] Jn) 4)).alloc (.cells (madeCells #[.int .i64 0] Jn) 3)).alloc (.cells #[.slice (some ⟨w.heap.size, 0, none⟩) Jn Jn, .slice (some ⟨w.heap.size + 1, 0, none⟩) Jn Jn] T)).heap.size (((w.alloc (.cells (madeCells #[.bool false] Jn) 4)).alloc (.cells (madeCells #[.int .i64 0] Jn) 3)).alloc (.cells #[.slice (some ⟨w.heap.size, 0, none⟩) Jn Jn, .slice (some ⟨w.heap.size + 1, 0, none⟩) Jn Jn] T)))
  refine ⟨?_, ?_, by simpa using hk.1, by simpa using hk.2, by omega, by simp; omega, below_al (below_al (below_al (Below.refl _ _) _) _) _⟩
  · exact own_alloc (own_alloc (own_made w 4 Jn w.heap.size (.bool false) false rfl (by omega) (Nat.le_refl _)) _) _
  · have := own_alloc (own_made (w.alloc (.cells (madeCells #[.bool false] Jn) 4)) 3 Jn w.heap.size (.int .i64 0) (0 : Int) (f := icell) rfl (by omega) (by simp)) (.cells #[.slice (some ⟨w.heap.size, 0, none⟩) Jn Jn, .slice (some ⟨w.heap.size + 1, 0, none⟩) Jn Jn] T)
    simpa using this
theorem mk_bs (w : World) (Jn : Nat) (hJ : Jn ≤ 10) (T : Nat) : Mk w (((w.alloc (.cells (madeCells #[.int .i64 0] Jn) 3)).alloc (.cells (madeCells #[.bool false] Jn) 4)).alloc (.cells #[.slice (some ⟨w.heap.size + 1, 0, none⟩) Jn Jn, .slice (some ⟨w.heap.size, 0, none⟩) Jn Jn] T)) (w.heap.size + 1 + 1) (w.heap.size + 1) w.heap.size Jn := by
  have hk := box2k (Below.refl (((w.alloc (.cells (madeCells #[.int .i64 0] Jn) 3)).alloc (.cells (madeCells #[.bool false] Jn) 4)).alloc (.cells #[.slice (some ⟨w.heap.size + 1, 0, none⟩) Jn Jn, .slice (some ⟨w.heap.size, 0, none⟩) Jn Jn] T)).heap.size (((w.alloc (.cells (madeCells #[.int .i64 0] Jn) 3)).alloc (.cells (madeCells #[.bool false] Jn) 4)).alloc (.cells #[.slice (some ⟨w.heap.size + 1, 0, none⟩) Jn Jn, .slice (some ⟨w.heap.size, 0, none⟩) Jn Jn] T)))
  refine ⟨?_, ?_, by simpa using hk.1, by simpa using hk.2, by omega, by simp; omega, below_al (below_al (below_al (Below.refl _ _) _) _) _⟩
  · have := own_alloc (own_made (w.alloc (.cells (madeCells #[.int .i64 0] Jn) 3)) 4 Jn w.heap.size (.bool false) false (f := bcell) rfl (by omega) (by simp)) (.cells #[.slice (some ⟨w.heap.size + 1, 0, none⟩) Jn Jn, .slice (some ⟨w.heap.size, 0, none⟩) Jn Jn] T)
    simpa using this
  · exact own_alloc (own_alloc (own_made w 3 Jn w.heap.size (.int .i64 0) (0 : Int) (f := icell) rfl (by omega) (Nat.le_refl _)) _) _
theorem Mk.drew {w wx : World} {g sb bb Jn : Nat} (h : Mk w wx g sb bb Jn) : Mk w wx.drew g sb bb Jn := ⟨h.so, h.bo, h.g0, h.g1, h.ne, h.gb, below_dr h.bel⟩
theorem wst_start {w wx : World} {g sb bb Jn sn : Nat} {ds : List Q3} {fl : List Int} (h : Mk w wx g sb bb Jn) (hs : sn < Jn) :
    WSt (wx.setCell ⟨sb, sn, none⟩ (.bool true)) w.heap.size g sb bb Jn ds fl (sn : Int) [(sn : Int)] (fun _ => 0) ((List.replicate Jn false).set sn true) (List.replicate Jn 0) := by
  refine ⟨Tree.start _ _ _ _, fun v hv => ?_, by simp, by simp, fun v hv => ?_, fun v d hv hne => ?_, own_bset h.so (by simpa using hs) true, own_oset h.bo (fun e => h.ne.1 e.symm) _ _, ?_, ?_, h.ne, ?_⟩
  · have : v = (sn : Int) := by simpa using hv
    omega
  · by_cases e : sn = v
    · subst e
      rw [List.getElem?_set_self (by simpa using hv)]; simp
    · have e' : ¬ (v : Int) = (sn : Int) := by omega
      rw [List.getElem?_set_ne e, List.getElem?_replicate, if_pos hv]
      simp [e']
  · exact absurd (by simpa using hv) hne
  · have hne : (⟨sb, sn, none⟩ : Addr) ≠ ⟨g, 0, none⟩ := fun e => by injection e with e1 _ _; exact h.ne.2.1 e1.symm
    exact (World.cell?_setCell_other wx _ _ _ hne).trans h.g0
  · have hne : (⟨sb, sn, none⟩ : Addr) ≠ ⟨g, 1, none⟩ := fun e => by injection e with e1 _ _; exact h.ne.2.1 e1.symm
    exact (World.cell?_setCell_other wx _ _ _ hne).trans h.g1
  · have := h.gb
    simpa [World.setCell] using this
/-- the memory of the reference's walk while it looks at one ditch, copied to block D -/
structure Pre (w wx : World) (g sb bb Jn D : Nat) (sl : List Bool) (bl : List Int) (a b c : Int) : Prop where
  so : Own wx w.heap.size 4 1 bcell (.slice (some ⟨sb, 0, none⟩) Jn Jn) sl
  bo : Own wx w.heap.size 3 1 icell (.slice (some ⟨bb, 0, none⟩) Jn Jn) bl
  g0 : wx.cell? ⟨g, 0, none⟩ = some (.slice (some ⟨sb, 0, none⟩) Jn Jn)
  g1 : wx.cell? ⟨g, 1, none⟩ = some (.slice (some ⟨bb, 0, none⟩) Jn Jn)
  d0 : wx.cell? ⟨D, 0, none⟩ = some (.int .i64 a)
  d1 : wx.cell? ⟨D, 1, none⟩ = some (.int .i64 b)
  d2 : wx.cell? ⟨D, 2, none⟩ = some (.int .i64 c)
  ne : sb ≠ bb ∧ g ≠ sb ∧ g ≠ bb ∧ sb < D ∧ bb < D ∧ g < D
  gb : w.heap.size ≤ g ∧ w.heap.size ≤ sb ∧ w.heap.size ≤ bb ∧ D < wx.heap.size
  bel : Below w.heap.size w wx
theorem ocell {w : World} {g o D i : Nat} {v u : Value} (x : w.cell? ⟨g, o, none⟩ = some v) (h : g ≠ D) : (w.setCell ⟨D, i, none⟩ u).cell? ⟨g, o, none⟩ = some v := by
  have hne : (⟨D, i, none⟩ : Addr) ≠ ⟨g, o, none⟩ := fun e => by injection e with e1 _ _; exact h e1.symm
  exact (World.cell?_setCell_other w _ _ u hne).trans x
section
variable {w wx wy : World} {g sb bb Jn D : Nat} {sl : List Bool} {bl : List Int} {a b c : Int}
theorem Pre.drew (h : Pre w wx g sb bb Jn D sl bl a b c) : Pre w wx.drew g sb bb Jn D sl bl a b c := ⟨h.so, h.bo, h.g0, h.g1, h.d0, h.d1, h.d2, h.ne, h.gb, below_dr h.bel⟩
theorem Pre.on (h : Pre w wx g sb bb Jn D sl bl a b c) (hb : Below wx.heap.size wx wy) : Pre w wy g sb bb Jn D sl bl a b c := by
  obtain ⟨n1, n2, n3, n4, n5, n6⟩ := h.ne
  obtain ⟨b1, b2, b3, b4⟩ := h.gb
  exact ⟨h.so.below hb (Nat.le_refl _), h.bo.below hb (Nat.le_refl _), cell_on h.g0 hb (by omega), cell_on h.g1 hb (by omega), cell_on h.d0 hb b4, cell_on h.d1 hb b4, cell_on h.d2 hb b4, h.ne,
    ⟨b1, b2, b3, Nat.lt_of_lt_of_le b4 hb.size⟩, below_then h.bel hb⟩
theorem Pre.setS (h : Pre w wx g sb bb Jn D sl bl a b c) {v : Nat} (hv : v < sl.length) : Pre w (wx.setCell ⟨sb, v, none⟩ (.bool true)) g sb bb Jn D (sl.set v true) bl a b c := by
  obtain ⟨n1, n2, n3, n4, n5, n6⟩ := h.ne
  obtain ⟨b1, b2, b3, b4⟩ := h.gb
  exact ⟨own_bset h.so hv true, own_oset h.bo (fun e => n1 e.symm) _ _, ocell h.g0 n2, ocell h.g1 n2, ocell h.d0 (by omega), ocell h.d1 (by omega), ocell h.d2 (by omega), h.ne, ⟨b1, b2, b3, by simpa [World.setCell] using b4⟩, below_st h.bel ⟨sb, v, none⟩ b2 _⟩
theorem Pre.setB (h : Pre w wx g sb bb Jn D sl bl a b c) {v : Nat} (hv : v < bl.length) (x : Int) : Pre w (wx.setCell ⟨bb, v, none⟩ (.int .i64 x)) g sb bb Jn D sl (bl.set v x) a b c := by
  obtain ⟨n1, n2, n3, n4, n5, n6⟩ := h.ne
  obtain ⟨b1, b2, b3, b4⟩ := h.gb
  exact ⟨own_oset h.so n1 _ _, own_iset h.bo hv x, ocell h.g0 n3, ocell h.g1 n3, ocell h.d0 (by omega), ocell h.d1 (by omega), ocell h.d2 (by omega), h.ne, ⟨b1, b2, b3, by simpa [World.setCell] using b4⟩, below_st h.bel ⟨bb, v, none⟩ b3 _⟩
theorem Pre.of {wr : World} {ds : List Q3} {fl L : List Int} {src : Int} {how : Int → Nat} {E : Nat} (h : WSt wr w.heap.size g sb bb Jn ds fl src L how sl bl) (hb : Below (wr.alloc (.cells #[.int .i64 a, .int .i64 b, .int .i64 c] E)).heap.size (wr.alloc (.cells #[.int .i64 a, .int .i64 b, .int .i64 c] E)) wx) (hw : Below w.heap.size w wr) :
    Pre w wx g sb bb Jn wr.heap.size sl bl a b c := by
  have hb1 := below_then (below_al (Below.refl _ wr) (.cells #[.int .i64 a, .int .i64 b, .int .i64 c] E)) hb
  have h1 := h.on hb1
  obtain ⟨b1, b2, b3, b4, b5, b6⟩ := h.gb
  obtain ⟨z0, z1, z2⟩ := box3k hb
  exact ⟨h1.so, h1.bo, h1.g0, h1.g1, z0, z1, z2, ⟨h.ne.1, h.ne.2.1, h.ne.2.2, b4, b6, b2⟩, ⟨b1, b3, b5, by have := hb.size; simp at this; omega⟩, below_then hw hb1⟩
theorem Pre.wst {wr : World} {ds : List Q3} {fl L : List Int} {src : Int} {how : Int → Nat} (h : WSt wr w.heap.size g sb bb Jn ds fl src L how sl bl) (p : Pre w wx g sb bb Jn D sl bl a b c) (hs : wr.heap.size ≤ wx.heap.size) :
    WSt wx w.heap.size g sb bb Jn ds fl src L how sl bl :=
  ⟨h.tree, h.inn, h.sll, h.bll, h.seen, h.via, p.so, p.bo, p.g0, p.g1, h.ne, h.gb.1, Nat.lt_of_lt_of_le h.gb.2.1 hs, h.gb.2.2.1, Nat.lt_of_lt_of_le h.gb.2.2.2.1 hs, h.gb.2.2.2.2.1, Nat.lt_of_lt_of_le h.gb.2.2.2.2.2 hs⟩
end

end Go.Proofs.Ytogjkcakoahpiaa

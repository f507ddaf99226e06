/- Walks over functions of this seat, by contract. Conditions: those that each theorem states. -/
import Derived.Test.YtgbblcbpmpokdaaGreatDoorZ2
import Derived.Test.YtgbblcbpmpokdaaGreatDoorZ5
namespace Go.Proofs.YtgbblcbpmpokdaaGreatDoor
open Go.RowKit Go.Sort

set_option maxRecDepth 100000 in
set_option maxHeartbeats 1000000 in
theorem z_Replace (hcount : ∀ (s : ByteArray) (c : UInt8) (w : World), Calls Tryz.prog 36 #[.string s, .string ⟨#[c]⟩] w fun e w' => e = .returned (.int .i64 (Lib.countByte s.data.toList c)) ∧ w' = w)
    (base b g2 c : Nat) (s : ByteArray) (w : World) (hs : s.size ≤ 2097152) (hbase : base ≤ b) (hb : b < w.heap.size)
    (c0 : w.cell? ⟨b, 0, none⟩ = some (.int .u32 0)) (c1 : w.cell? ⟨b, 1, none⟩ = some (.int .i32 0)) (c3 : w.cell? ⟨b, 3, none⟩ = some .nilIface) (c4 : w.cell? ⟨b, 4, none⟩ = some (.slice (some ⟨g2, 0, none⟩) 6 c)) (fr : ∀ o, w.frozen? ⟨b, o, none⟩ = false) (hg : g2 < b)
    (hS : Has w g2 0 1 zscl [⟨#[43]⟩, ⟨#[]⟩, ⟨#[46]⟩, ⟨#[]⟩, ⟨#[109]⟩, ⟨#[]⟩]) :
    Calls Tryz.prog 24 #[.pointer (some ⟨b, 0, none⟩), .string s] w fun e w' => e = .returned (.string ⟨(strip s.data.toList).toArray⟩) ∧ Below base w w' := by
  have ne : ∀ o o', o ≠ o' → (⟨b, o, none⟩ : Addr) ≠ ⟨b, o', none⟩ := fun o o' h e => h (by injection e)
  have ng : ∀ o o', (⟨b, o, none⟩ : Addr) ≠ ⟨g2, o', none⟩ := fun o o' e => by injection e with e1; omega
  obtain ⟨w0, hw0⟩ : ∃ w0, w.setCell ⟨b, 1, none⟩ (.int .i32 1) = w0 := ⟨_, rfl⟩
  have z0 : w0.cell? ⟨b, 0, none⟩ = some (.int .u32 0) := by rw [← hw0, World.cell?_setCell_other _ _ _ _ (ne 1 0 (by omega))]; exact c0
  have z1 : w0.cell? ⟨b, 1, none⟩ = some (.int .i32 1) := by rw [← hw0]; exact World.cell?_setCell_same' _ _ _ (by rw [c1]; rfl)
  have z3 : w0.cell? ⟨b, 3, none⟩ = some .nilIface := by rw [← hw0, World.cell?_setCell_other _ _ _ _ (ne 1 3 (by omega))]; exact c3
  have z4 : w0.cell? ⟨b, 4, none⟩ = some (.slice (some ⟨g2, 0, none⟩) 6 c) := by rw [← hw0, World.cell?_setCell_other _ _ _ _ (ne 1 4 (by omega))]; exact c4
  have zf : ∀ o, w0.frozen? ⟨b, o, none⟩ = false := fun o => by
    rw [← hw0]
    first | exact (World.frozen?_setCell _ _ _ _).trans (fr o) | simpa using fr o
  have zb : b < w0.heap.size := by rw [← hw0]; simpa [World.setCell] using hb
  have zs : ∀ (k : Nat) x, ([⟨#[43]⟩, ⟨#[]⟩, ⟨#[46]⟩, ⟨#[]⟩, ⟨#[109]⟩, ⟨#[]⟩] : List ByteArray)[k]? = some x → w0.cell? ⟨g2, k, none⟩ = some (.string x) := fun k x hx => by
    rw [← hw0, World.cell?_setCell_other _ _ _ _ (ng 1 k)]
    have := hS.zsc hx
    rwa [Nat.zero_add] at this
  have zB : Below base w w0 := by rw [← hw0]; exact (Below.refl base w).setCell hbase _
  have hq := z_buildOnce b g2 c .nilIface w0 z4 z3 zf zb (zs 0 _ rfl) (zs 1 _ rfl) (zs 2 _ rfl) (zs 3 _ rfl) (zs 4 _ rfl) (zs 5 _ rfl) (by omega)
  have hdo := z_Do b (fun w' => ∃ W1 b2 A k F, BSt w0 W1 b2 (.slice A 3 k) [⟨#[109]⟩, ⟨#[46]⟩, ⟨#[43]⟩] F ∧ F 256 = .slice A 3 k ∧ (∀ i, i < 256 → if (i = 43 ∨ i = 46 ∨ i = 109) then ∃ p c, F i = .slice (some p) 0 c else F i = .slice none 0 0) ∧
      w' = (W1.setCell ⟨b, 3, none⟩ (.iface 105 (.pointer (some ⟨b2, 0, none⟩)))).setCell ⟨b, 4, none⟩ (.slice none 0 0)) w c0 c1 (fr 1) (by
    rw [hw0]
    refine hq.mono ?_
    rintro e w' ⟨rfl, W1, b2, A, k, F, h1, h2, h3, rfl⟩
    have fz : ∀ (W : World) p v o, (W.setCell p v).frozen? ⟨b, o, none⟩ = W.frozen? ⟨b, o, none⟩ := fun W p v o => by first | exact World.frozen?_setCell _ _ _ _ | simp
    have f1 : ∀ o, W1.frozen? ⟨b, o, none⟩ = false := fun o => (h1.bel.frozen (p := ⟨b, o, none⟩) zb).trans (zf o)
    refine ⟨rfl, ⟨W1, b2, A, k, F, h1, h2, h3, rfl⟩, ?_, ?_, ?_, ?_⟩
    · rw [World.cell?_setCell_other _ _ _ _ (ne 4 0 (by omega)), World.cell?_setCell_other _ _ _ _ (ne 3 0 (by omega))]; exact cell_on z0 h1.bel zb
    · rw [World.cell?_setCell_other _ _ _ _ (ne 4 1 (by omega)), World.cell?_setCell_other _ _ _ _ (ne 3 1 (by omega))]; exact cell_on z1 h1.bel zb
    · rw [fz, fz]; exact f1 0
    · rw [fz, fz]; exact f1 1)
  clear hq
  go_enter Tryz.func24, Tryz.ntmps24
  go_wp2_with fail
  refine hdo.mono ?_
  rintro e w' ⟨rfl, w2, ⟨W1, b2, A, k, F, h1, h2, h3, rfl⟩, rfl⟩
  have hlo : b < w0.heap.size := zb
  have hA : ∀ p, A = some p → w0.heap.size ≤ p.block := fun p hp => (World.ownsRow.lt h1.own p.block (by rw [hp]; rfl)).1
  have y3 := cell_on z3 h1.bel zb
  have hF0 := h1.bf h2 h3
  have hF1 := hF0.st hA h1.lo hlo 3 (.iface 105 (.pointer (some ⟨b2, 0, none⟩)))
  have hF2 := hF1.st hA h1.lo hlo 4 (.slice none 0 0)
  have hF3 := hF2.on (below_dr (Below.refl _ _))
  have hF4 := hF3.st hA h1.lo hlo 0 (.int .u32 1)
  have hF5 := hF4.st hA h1.lo hlo 1 (.int .i32 0)
  have hbb : base ≤ w0.heap.size := by omega
  have hB5 : Below base w _ := ((below_dr (((zB.trans (h1.bel.mono hbb)).setCell (p := ⟨b, 3, none⟩) hbase (.iface 105 (.pointer (some ⟨b2, 0, none⟩)))).setCell (p := ⟨b, 4, none⟩) hbase (.slice none 0 0))).setCell (p := ⟨b, 0, none⟩) hbase (.int .u32 1)).setCell (p := ⟨b, 1, none⟩) hbase (.int .i32 0)
  obtain ⟨W5, hW5⟩ : ∃ W5, ((((W1.setCell ⟨b, 3, none⟩ (.iface 105 (.pointer (some ⟨b2, 0, none⟩)))).setCell ⟨b, 4, none⟩ (.slice none 0 0)).drew.setCell ⟨b, 0, none⟩ (.int .u32 1)).setCell ⟨b, 1, none⟩ (.int .i32 0)) = W5 := ⟨_, rfl⟩
  have x3 : W5.cell? ⟨b, 3, none⟩ = some (.iface 105 (.pointer (some ⟨b2, 0, none⟩))) := by
    rw [← hW5, World.cell?_setCell_other _ _ _ _ (ne 1 3 (by omega)), World.cell?_setCell_other _ _ _ _ (ne 0 3 (by omega)), World.cell?_drew, World.cell?_setCell_other _ _ _ _ (ne 4 3 (by omega))]
    exact World.cell?_setCell_same' _ _ _ (by rw [y3]; rfl)
  rw [hW5] at hF5 hB5
  rw [hW5]
  clear hW5 hF0 hF1 hF2 hF3 hF4 hdo
  have HF := Lib.hid hF5
  have HB5 := Lib.hid hB5
  have hbs := z_bs hcount b2 A k F s W5 hF5 hs
  have hW := hB5.size
  clear hF5 hB5
  go_wp2_with fail
  refine hbs.mono ?_
  rintro e w6 ⟨rfl, hb6⟩
  go_wp2_with fail
  go_ret
  exact ⟨rfl, HB5.out.trans (hb6.mono (by omega))⟩

end Go.Proofs.YtgbblcbpmpokdaaGreatDoor

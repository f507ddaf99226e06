/- Walks over functions of this seat, by contract. Conditions: those that each theorem states. -/
import Derived.Test.YtgbblcbpmpokdaaGreatDoorZ3
namespace Go.Proofs.YtgbblcbpmpokdaaGreatDoor
open Go.RowKit Go.Sort

structure BF (W : World) (b2 : Nat) (A : Option Addr) (k : Nat) (F : Nat → Value) : Prop where
  cell : ∀ i, i < 257 → W.cell? ⟨b2, i, none⟩ = some (F i)
  lt : b2 < W.heap.size
  sl : Sl W W.heap.size 1 zscl A 3 [⟨#[109]⟩, ⟨#[46]⟩, ⟨#[43]⟩]
  f256 : F 256 = .slice A 3 k
  fi : ∀ i, i < 256 → if (i = 43 ∨ i = 46 ∨ i = 109) then ∃ p c, F i = .slice (some p) 0 c else F i = .slice none 0 0
theorem BF.on {W W' : World} {b2 k : Nat} {A : Option Addr} {F : Nat → Value} (h : BF W b2 A k F) (hb : Below W.heap.size W W') : BF W' b2 A k F :=
  ⟨fun i hi => cell_on (h.cell i hi) hb h.lt, Nat.lt_of_lt_of_le h.lt hb.size, h.sl.on hb, h.f256, h.fi⟩
theorem BSt.bf {w W : World} {b2 k : Nat} {A : Option Addr} {F : Nat → Value} (h : BSt w W b2 (.slice A 3 k) [⟨#[109]⟩, ⟨#[46]⟩, ⟨#[43]⟩] F) (h1 : F 256 = .slice A 3 k) (h2 : ∀ i, i < 256 → if (i = 43 ∨ i = 46 ∨ i = 109) then ∃ p c, F i = .slice (some p) 0 c else F i = .slice none 0 0) : BF W b2 A k F :=
  ⟨h.cell, h.lt, own_sl h.own zscl_len, h1, h2⟩
/-- a store into a block that is neither -/
theorem BF.st {w W : World} {b b2 k : Nat} {A : Option Addr} {F : Nat → Value} (h : BF W b2 A k F) (hA : ∀ p, A = some p → w.heap.size ≤ p.block) (hb2 : w.heap.size ≤ b2) (hb : b < w.heap.size) (o : Nat) (u : Value) : BF (W.setCell ⟨b, o, none⟩ u) b2 A k F := by
  have hf : ∀ p : Addr, w.heap.size ≤ p.block → (W.setCell ⟨b, o, none⟩ u).cell? p = W.cell? p := fun p hp => World.cell?_setCell_other _ _ _ _ (fun e => by rw [← e] at hp; exact absurd hb (by simpa using hp))
  refine ⟨fun i hi => (hf _ hb2).trans (h.cell i hi), by simpa [World.setCell] using h.lt, ⟨h.sl.len, fun hn => ?_⟩, h.f256, h.fi⟩
  obtain ⟨b', off, e, hl, H⟩ := h.sl.at_ hn
  exact ⟨b', off, e, by simpa [World.setCell] using hl, fun kk x hx j v hv => (hf ⟨b', _, none⟩ (by have h9 := hA _ e; exact h9)).trans (H kk x hx j v hv)⟩
set_option maxRecDepth 100000 in
theorem z_buildOnce (b g c : Nat) (x3 : Value) (w : World) (c4 : w.cell? ⟨b, 4, none⟩ = some (.slice (some ⟨g, 0, none⟩) 6 c)) (c3 : w.cell? ⟨b, 3, none⟩ = some x3) (fr : ∀ o, w.frozen? ⟨b, o, none⟩ = false) (hb : b < w.heap.size)
    (s0 : w.cell? ⟨g, 0, none⟩ = some (.string ⟨#[43]⟩)) (s1 : w.cell? ⟨g, 1, none⟩ = some (.string ⟨#[]⟩)) (s2 : w.cell? ⟨g, 2, none⟩ = some (.string ⟨#[46]⟩)) (s3 : w.cell? ⟨g, 3, none⟩ = some (.string ⟨#[]⟩)) (s4 : w.cell? ⟨g, 4, none⟩ = some (.string ⟨#[109]⟩)) (s5 : w.cell? ⟨g, 5, none⟩ = some (.string ⟨#[]⟩)) (hg : g < w.heap.size) :
    Calls Tryz.prog 43 #[.pointer (some ⟨b, 0, none⟩)] w fun e w' => e = .returned (.tuple #[]) ∧ ∃ W1 b2 A k F, BSt w W1 b2 (.slice A 3 k) [⟨#[109]⟩, ⟨#[46]⟩, ⟨#[43]⟩] F ∧ F 256 = .slice A 3 k ∧ (∀ i, i < 256 → if (i = 43 ∨ i = 46 ∨ i = 109) then ∃ p c, F i = .slice (some p) 0 c else F i = .slice none 0 0) ∧
      w' = (W1.setCell ⟨b, 3, none⟩ (.iface 105 (.pointer (some ⟨b2, 0, none⟩)))).setCell ⟨b, 4, none⟩ (.slice none 0 0) := by
  go_enter Tryz.func43, Tryz.ntmps43
  go_wp2_with (go_at_call 58; refine (z_build b g c w c4 s0 s1 s2 s3 s4 s5 hg).mono ?_; rintro e w2 ⟨b2, A, k, F, rfl, HB, h1, h2⟩; have y3 := cell_on c3 HB.bel hb; have y4 := cell_on c4 HB.bel hb; have yf := fun o => (HB.bel.frozen (p := ⟨b, o, none⟩) hb).trans (fr o); have HH := Lib.hid HB; have H2 := Lib.hid h2; clear HB h2)
  go_end0
  exact ⟨rfl, w2, b2, A, k, F, HH.out, h1, H2.out, rfl⟩
set_option maxRecDepth 100000 in
theorem z_New (g : Nat) (w : World) (hS : Sl w w.heap.size 1 zscl (some ⟨g, 0, none⟩) 6 [⟨#[43]⟩, ⟨#[]⟩, ⟨#[46]⟩, ⟨#[]⟩, ⟨#[109]⟩, ⟨#[]⟩]) :
    Calls Tryz.prog 23 #[.slice (some ⟨g, 0, none⟩) 6 6] w fun e w' => ∃ b g2 c, e = .returned (.pointer (some ⟨b, 0, none⟩)) ∧ w.heap.size ≤ b ∧ b < w'.heap.size ∧ Below w.heap.size w w' ∧
      w'.cell? ⟨b, 0, none⟩ = some (.int .u32 0) ∧ w'.cell? ⟨b, 1, none⟩ = some (.int .i32 0) ∧ w'.cell? ⟨b, 3, none⟩ = some .nilIface ∧ w'.cell? ⟨b, 4, none⟩ = some (.slice (some ⟨g2, 0, none⟩) 6 c) ∧ (∀ o, w'.frozen? ⟨b, o, none⟩ = false) ∧ g2 < b ∧
      Own w' w.heap.size 9 1 zscl (.slice (some ⟨g2, 0, none⟩) 6 c) [⟨#[43]⟩, ⟨#[]⟩, ⟨#[46]⟩, ⟨#[]⟩, ⟨#[109]⟩, ⟨#[]⟩] := by
  obtain ⟨i0, hi, hz0, hz1, hz2⟩ := info_parts z_info_str
  go_enter Tryz.func23, Tryz.ntmps23
  go_wp2_with (at_builtin; refine wpList_app rfl _ _ 28 rfl w.heap.size 9 i0 _ 1 16 Tryz.underlying28 hi hz0 hz1 hz2 rfl (by omega) zscl_len zscl_one (.slice none 0 0) ([] : List ByteArray) _ rfl (own_nil _ _ _ _ _) w.heap.size (some ⟨g, 0, none⟩) 6 6 rfl hS (by simp) (by omega) (by omega) (Nat.le_refl _) ?_; intro v2 w2 ho2 hg2; have hb2 := own_grown (Below.refl _ w) (own_nil (α := ByteArray) w w.heap.size 9 1 zscl) (Nat.le_refl _) (Nat.le_refl _) hg2; rw [List.nil_append] at ho2; obtain ⟨g2, c, rfl, hg21, hg22, _⟩ := own_block_of ho2 (n := 6) rfl (by omega))
  go_ret
  have hn := heap_alloc_new w2 (.cells #[.int .u32 0, .int .i32 0, .int .u32 0, .nilIface, .slice (some ⟨g2, 0, none⟩) 6 c] 71)
  refine ⟨w2.heap.size, g2, c, rfl, hb2.size, by simp, below_al hb2 _, ?_, ?_, ?_, ?_, fun o => ?_, hg22, own_alloc ho2 _⟩
  · rw [cell_of_row _ _ 0 _ _ (0, 0) hn]; rfl
  · rw [cell_of_row _ _ 1 _ _ (0, 0) hn]; rfl
  · rw [cell_of_row _ _ 3 _ _ (0, 0) hn]; rfl
  · rw [cell_of_row _ _ 4 _ _ (0, 0) hn]; rfl
  · unfold World.frozen?
    show (match (w2.alloc _).heap[w2.heap.size]? with | some (.cells _ _ (lo, hi)) => decide (lo ≤ o) && decide (o < hi) | _ => false) = false
    rw [hn]; simp

end Go.Proofs.YtgbblcbpmpokdaaGreatDoor

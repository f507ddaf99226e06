/- Walks over functions of this seat, by contract. Conditions: those that each theorem states. -/
import Derived.Test.YtgbblcbpmpokdaaGreatDoorStp
import Derived.Deep.WholeRow
import Derived.Laws.IdiomStrings
import Derived.Laws.MakeOwn
namespace Go.Proofs.YtgbblcbpmpokdaaGreatDoor
open Go.RowKit Go.Sort

def zscl (s : ByteArray) : List Value := [.string s]
theorem zscl_len (s : ByteArray) : (zscl s).length = 1 := rfl
theorem zscl_one (e : ByteArray) (u : Value) (hu : u ∈ zscl e) : u.oneCell' = true := by
  simp [zscl] at hu; subst hu; rfl
theorem z_info_str : (Tryz.prog.info? 9).map (fun i => (i.zero, i.size, i.bytes)) = some (some (.string ⟨#[]⟩), 1, 16) := by kernel_rfl
theorem z_zero : Tryz.zeroCells104 = Array.replicate 257 (Value.slice none 0 0) := by kernel_rfl
theorem z_size : (Tryz.prog.info? 104).map (·.size) = some 257 := by kernel_rfl
theorem z_storeBS (W : World) (p : Option Addr) (n c : Nat) :
    (storeCells ⟨W.heap.size, 0, none⟩ (Tryz.zeroCells104.toList.set 256 (.slice p n c))).run Tryz.prog (W.alloc (.cells Tryz.zeroCells104 104)) = .ok () (W.alloc (.cells ((Array.replicate 257 (Value.slice none 0 0)).setIfInBounds 256 (.slice p n c)) 104)) := by
  have h := run_storeCells_new (P := Tryz.prog) W 104 Tryz.zeroCells104 ((Array.replicate 257 (Value.slice none 0 0)).setIfInBounds 256 (.slice p n c)) (by rw [z_size]; simp) (by rw [z_zero]; simp) (by
    rw [← Array.all_toList, List.all_eq_true]
    intro x hx
    rw [Array.toList_setIfInBounds] at hx
    rcases List.mem_or_eq_of_mem_set hx with h | h
    · rw [Array.toList_replicate, List.mem_replicate] at h
      rw [h.2]; rfl
    · rw [h]; rfl)
  rw [Array.toList_setIfInBounds] at h
  rw [z_zero] at h ⊢
  exact h
structure BSt (w W : World) (b2 : Nat) (v : Value) (L : List ByteArray) (F : Nat → Value) : Prop where
  own : Own W w.heap.size 9 1 zscl v L
  ne : v.ownBlock ≠ some b2
  cell : ∀ i, i < 257 → W.cell? ⟨b2, i, none⟩ = some (F i)
  fr : ∀ i, W.frozen? ⟨b2, i, none⟩ = false
  lt : b2 < W.heap.size
  lo : w.heap.size ≤ b2
  bel : Below w.heap.size w W
section
variable {w W W' : World} {b2 : Nat} {v v' : Value} {L L' : List ByteArray} {F : Nat → Value}
theorem BSt.al (h : BSt w W b2 v L F) (o : Obj) : BSt w (W.alloc o) b2 v L F :=
  have hb := below_al (Below.refl W.heap.size W) o
  ⟨own_alloc h.own o, h.ne, fun i hi => cell_on (h.cell i hi) hb h.lt, fun i => (hb.frozen (p := ⟨b2, i, none⟩) h.lt).trans (h.fr i), Nat.lt_of_lt_of_le h.lt hb.size, h.lo, below_al h.bel o⟩
theorem BSt.dr (h : BSt w W b2 v L F) : BSt w W.drew b2 v L F :=
  have hb := below_dr (Below.refl W.heap.size W)
  ⟨h.own.below hb (Nat.le_refl _), h.ne, fun i hi => cell_on (h.cell i hi) hb h.lt, fun i => (hb.frozen (p := ⟨b2, i, none⟩) h.lt).trans (h.fr i), Nat.lt_of_lt_of_le h.lt hb.size, h.lo, below_dr h.bel⟩
theorem zg_cell {row : Option Nat} (hg : W.grownBy W' row) {p : Addr} (hl : p.block < W.heap.size) (hne : row ≠ some p.block) : W'.cell? p = W.cell? p := by
  simp only [World.cell?, hg.block _ hl (fun h => hne (by first | exact h | exact h.symm))]
theorem zg_frozen {row : Option Nat} (hg : W.grownBy W' row) {p : Addr} (hl : p.block < W.heap.size) (hne : row ≠ some p.block) : W'.frozen? p = W.frozen? p := by
  simp only [World.frozen?, hg.block _ hl (fun h => hne (by first | exact h | exact h.symm))]
theorem BSt.push (h : BSt w W b2 v L F) (ho : Own W' w.heap.size 9 1 zscl v' L') (hg : W.grownBy W' v.ownBlock) (hat : v'.ownBlock = v.ownBlock ∨ v'.ownBlock = some (W.heap.size + 1)) : BSt w W' b2 v' L' F := by
  refine ⟨ho, ?_, fun i hi => (zg_cell hg h.lt h.ne).trans (h.cell i hi), fun i => (zg_frozen hg h.lt h.ne).trans (h.fr i), Nat.lt_of_lt_of_le h.lt hg.size, h.lo, own_grown h.bel h.own (Nat.le_refl _) (Nat.le_of_lt (Nat.lt_of_le_of_lt h.lo h.lt)) hg⟩
  have := h.lt
  rcases hat with e | e
  · rw [e]; exact h.ne
  · rw [e]; intro e1; injection e1 with e1; omega
theorem BSt.st (h : BSt w W b2 v L F) (o : Nat) (u : Value) (ho : o < 257) : BSt w (W.setCell ⟨b2, o, none⟩ u) b2 v L (fun i => if i = o then u else F i) := by
  have own' : Own (W.setCell ⟨b2, o, none⟩ u) w.heap.size 9 1 zscl v L := by
    refine ⟨h.own.1, ?_⟩
    rcases h.own.2 with h2 | ⟨g', cap, cur, hv, hg, hh, r⟩
    · exact .inl h2
    · refine .inr ⟨g', cap, cur, hv, hg, ?_, r⟩
      have : (W.setCell ⟨b2, o, none⟩ u).heap[g']? = W.heap[g']? := Below.heap_setCell W _ u g' (fun e => h.ne (by rw [hv]; show some g' = some b2; rw [e]))
      rw [this]; exact hh
  refine ⟨own', h.ne, fun i hi => ?_, fun i => ?_, by simpa [World.setCell] using h.lt, h.lo, h.bel.setCell h.lo u⟩
  · by_cases e : i = o
    · subst e; rw [if_pos rfl]; exact World.cell?_setCell_same' _ _ _ (by rw [h.cell i hi]; rfl)
    · rw [if_neg e, World.cell?_setCell_other]
      · exact h.cell i hi
      · intro e2; injection e2 with _ e3; exact e e3.symm
  · first | exact (World.frozen?_setCell _ _ _ _).trans (h.fr i) | simpa using h.fr i
theorem BSt.start (w : World) : BSt w ((w.alloc (.cells (madeCells #[.string ⟨#[]⟩] 3) 9)).alloc (.cells ((Array.replicate 257 (Value.slice none 0 0)).setIfInBounds 256 (.slice (some ⟨w.heap.size, 0, none⟩) 0 3)) 104)) (w.heap.size + 1) (.slice (some ⟨w.heap.size, 0, none⟩) 0 3) [] (fun i => if i = 256 then .slice (some ⟨w.heap.size, 0, none⟩) 0 3 else .slice none 0 0) := by
  have hz : (w.alloc (.cells (madeCells #[.string ⟨#[]⟩] 3) 9)).heap.size = w.heap.size + 1 := by simp
  have o1 : Own (w.alloc (.cells (madeCells #[.string ⟨#[]⟩] 3) 9)) w.heap.size 9 1 zscl (.slice (some ⟨w.heap.size, 0, none⟩) 0 3) ([] : List ByteArray) :=
    ⟨by simp, .inr ⟨w.heap.size, 3, _, rfl, Nat.le_refl _, heap_alloc_new w _, by simp, by unfold maxLen; omega, by simp [size_madeCells], by simp⟩⟩
  have hn := heap_alloc_new (w.alloc (.cells (madeCells #[.string ⟨#[]⟩] 3) 9)) (.cells ((Array.replicate 257 (Value.slice none 0 0)).setIfInBounds 256 (.slice (some ⟨w.heap.size, 0, none⟩) 0 3)) 104)
  rw [hz] at hn
  refine ⟨own_alloc o1 _, ?_, fun i hi => ?_, fun i => ?_, by simp, by omega, below_al (below_al (Below.refl _ _) _) _⟩
  · simp [Value.ownBlock]
  · rw [cell_of_row _ _ i _ _ (0, 0) hn, Array.getElem?_setIfInBounds]
    by_cases e : i = 256
    · subst e; simp
    · rw [if_neg (fun h => e h.symm), if_neg e]; simp [hi]
  · unfold World.frozen?
    show (match ((w.alloc (.cells (madeCells #[.string ⟨#[]⟩] 3) 9)).alloc _).heap[w.heap.size + 1]? with | some (.cells _ _ (lo, hi)) => decide (lo ≤ i) && decide (i < hi) | _ => false) = false
    rw [hn]; simp
end
theorem z_eqn (W : World) : (binOp .eql 77 (.slice none 0 0) (.slice none 0 0)).run Tryz.prog W = .ok (.bool true) W := by
  first | kernel_rfl | rfl
theorem z_nen (W : World) : (binOp .neq 77 (.slice none 0 0) (.slice none 0 0)).run Tryz.prog W = .ok (.bool false) W := by
  first | kernel_rfl | rfl
theorem z_nes (W : World) (a : Addr) (n c : Nat) : (binOp .neq 77 (.slice (some a) n c) (.slice none 0 0)).run Tryz.prog W = .ok (.bool true) W := by
  first | kernel_rfl | rfl
theorem z_bytes1 (W : World) (o : UInt8) : (convert 77 9 (.slice (some ⟨W.heap.size, 0, none⟩) 1 1)).run Tryz.prog (W.alloc (.cells #[.int .u8 (o.toNat : Int)] 5)) = .ok (.string ⟨#[o]⟩) (W.alloc (.cells #[.int .u8 (o.toNat : Int)] 5)) :=
  run_convert_bytes_back (P := Tryz.prog) (W.alloc (.cells #[.int .u8 (o.toNat : Int)] 5)) 77 9 5 ⟨W.heap.size, 0, none⟩ 1 [o] Tryz.underlying77 Tryz.underlying5 Tryz.underlying9 (fun j hj => by
    have h0 : j = 0 := by simpa using hj
    subst h0
    have hadd : (⟨W.heap.size, 0, none⟩ : Addr).add 0 = ⟨W.heap.size, 0, none⟩ := by unfold Addr.add; split <;> simp_all
    rw [hadd, cell_of_row _ _ 0 _ _ (0, 0) (heap_alloc_new W _)]; rfl)
theorem z_empty : ∃ (CAP : World → Nat) (OB : World → Obj), ∀ W, (convert 9 77 (.string ⟨#[]⟩)).run Tryz.prog W = .ok (.slice (some ⟨W.heap.size, 0, none⟩) 0 (CAP W)) (W.drew.alloc (OB W)) :=
  ⟨_, _, fun W => run_bytes_of_string W 9 77 5 ⟨#[]⟩ Tryz.underlying9 Tryz.underlying77 Tryz.underlying5⟩
set_option maxRecDepth 100000 in
set_option maxHeartbeats 1000000 in
theorem z_build (b g c : Nat) (w : World) (c4 : w.cell? ⟨b, 4, none⟩ = some (.slice (some ⟨g, 0, none⟩) 6 c))
    (s0 : w.cell? ⟨g, 0, none⟩ = some (.string ⟨#[43]⟩)) (s1 : w.cell? ⟨g, 1, none⟩ = some (.string ⟨#[]⟩)) (s2 : w.cell? ⟨g, 2, none⟩ = some (.string ⟨#[46]⟩)) (s3 : w.cell? ⟨g, 3, none⟩ = some (.string ⟨#[]⟩)) (s4 : w.cell? ⟨g, 4, none⟩ = some (.string ⟨#[109]⟩)) (s5 : w.cell? ⟨g, 5, none⟩ = some (.string ⟨#[]⟩)) (hg : g < w.heap.size) :
    Calls Tryz.prog 58 #[.pointer (some ⟨b, 0, none⟩)] w fun e w' => ∃ b2 A k F, e = .returned (.iface 105 (.pointer (some ⟨b2, 0, none⟩))) ∧ BSt w w' b2 (.slice A 3 k) [⟨#[109]⟩, ⟨#[46]⟩, ⟨#[43]⟩] F ∧ F 256 = .slice A 3 k ∧ ∀ i, i < 256 → if (i = 43 ∨ i = 46 ∨ i = 109) then ∃ p c, F i = .slice (some p) 0 c else F i = .slice none 0 0 := by
  obtain ⟨i0, hi, hz0, hz1, hz2⟩ := info_parts z_info_str
  have hmk := run_make (P := Tryz.prog) (w := w) 28 9 i0 _ Tryz.underlying28 hi hz0 .i64 .i64 0 3 (by omega) (by omega) (by rw [hz2]; omega) (by omega)
  rw [hz1] at hmk
  replace hmk : (Instr.makeSlice 28 (.int .i64 0) (.int .i64 3)).run Tryz.prog w = .ok (.slice (some ⟨w.heap.size, 0, none⟩) 0 3) (w.alloc (.cells (madeCells #[.string ⟨#[]⟩] 3) 9)) := hmk
  have hst := z_storeBS (w.alloc (.cells (madeCells #[.string ⟨#[]⟩] 3) 9)) (some ⟨w.heap.size, 0, none⟩) 0 3
  rw [show (w.alloc (.cells (madeCells #[.string ⟨#[]⟩] 3) 9)).heap.size = w.heap.size + 1 from by simp] at hst
  have HB := Lib.hid (BSt.start w)
  obtain ⟨W2, hW2⟩ : ∃ W2, (w.alloc (.cells (madeCells #[.string ⟨#[]⟩] 3) 9)).alloc (.cells ((Array.replicate 257 (Value.slice none 0 0)).setIfInBounds 256 (.slice (some ⟨w.heap.size, 0, none⟩) 0 3)) 104) = W2 := ⟨_, rfl⟩
  rw [hW2] at hst HB
  have HW2 := Lib.hid hW2
  clear hW2
  go_enter Tryz.func58, Tryz.ntmps58
  go_wp2_with fail
  refine wp_loop_rounds 4 ?_
  rw [rounds_succ]
  go_wp2_with fail
  rw [rounds_succ]
  go_wp2_with fail
  rw [rounds_succ]
  go_wp2_with fail
  rw [rounds_succ]
  go_wp2_with fail
  have t0 := cell_on s0 HB.out.bel hg
  have t1 := cell_on s1 HB.out.bel hg
  have t2 := cell_on s2 HB.out.bel hg
  have t3 := cell_on s3 HB.out.bel hg
  have t4 := cell_on s4 HB.out.bel hg
  have t5 := cell_on s5 HB.out.bel hg
  have x109 : W2.cell? ⟨w.heap.size + 1, 109, none⟩ = some (.slice none 0 0) := HB.out.cell 109 (by omega)
  have x256 : W2.cell? ⟨w.heap.size + 1, 256, none⟩ = some (.slice (some ⟨w.heap.size, 0, none⟩) 0 3) := HB.out.cell 256 (by omega)
  have e109 : ∀ h, ((⟨#[109]⟩ : ByteArray)[0]'h).toNat = 109 := fun _ => rfl
  have e46 : ∀ h, ((⟨#[46]⟩ : ByteArray)[0]'h).toNat = 46 := fun _ => rfl
  have e43 : ∀ h, ((⟨#[43]⟩ : ByteArray)[0]'h).toNat = 43 := fun _ => rfl
  have q0 := z_eqn
  have cb109 : ∀ W : World, (convert 77 9 (.slice (some ⟨W.heap.size, 0, none⟩) 1 1)).run Tryz.prog (W.alloc (.cells #[.int .u8 109] 5)) = .ok (.string ⟨#[109]⟩) (W.alloc (.cells #[.int .u8 109] 5)) := fun W => z_bytes1 W 109
  have cb46 : ∀ W : World, (convert 77 9 (.slice (some ⟨W.heap.size, 0, none⟩) 1 1)).run Tryz.prog (W.alloc (.cells #[.int .u8 46] 5)) = .ok (.string ⟨#[46]⟩) (W.alloc (.cells #[.int .u8 46] 5)) := fun W => z_bytes1 W 46
  have cb43 : ∀ W : World, (convert 77 9 (.slice (some ⟨W.heap.size, 0, none⟩) 1 1)).run Tryz.prog (W.alloc (.cells #[.int .u8 43] 5)) = .ok (.string ⟨#[43]⟩) (W.alloc (.cells #[.int .u8 43] 5)) := fun W => z_bytes1 W 43
  obtain ⟨CAP, OB, hce⟩ := z_empty
  have hlt := HB.out.lt
  have hbl := HB.out.bel.size
  clear hst hmk
  refine wp_loop_rounds 4 ?_
  rw [rounds_succ]
  go_wp2_with (at_builtin; refine wpList_push_at rfl _ _ 28 rfl w.heap.size 9 i0 _ 1 16 Tryz.underlying28 hi hz0 hz1 hz2 rfl (by omega) zscl_len zscl_one _ ([] : List ByteArray) ⟨#[109]⟩ rfl (HB.out.al _).own _ rfl _ rfl (by simp) (by simp) (by omega) (by simp; omega) ?_; intro v3 w3 ho3 hg3 hat3; obtain ⟨A3, n3, k3, rfl, _, _⟩ := own_shape ho3; have HB3 := Lib.hid ((HB.out.al _).push ho3 hg3 hat3); have y256 := HB3.out.cell 256 (by omega); have y109 := HB3.out.cell 109 (by omega); have yf := HB3.out.fr; have yl := HB3.out.lt; clear ho3 hg3 hat3)
  have HC3 := Lib.hid ((((HB3.out.st 256 (.slice A3 n3 k3) (by omega)).st 109 (.slice (some ⟨w3.heap.size, 0, none⟩) 0 (CAP (w3.setCell ⟨w.heap.size + 1, 256, none⟩ (.slice A3 n3 k3)))) (by omega)).al (OB (w3.setCell ⟨w.heap.size + 1, 256, none⟩ (.slice A3 n3 k3)))).dr)
  obtain ⟨W3, hW3⟩ : ∃ W3, (((w3.setCell ⟨w.heap.size + 1, 256, none⟩ (.slice A3 n3 k3)).setCell ⟨w.heap.size + 1, 109, none⟩ (.slice (some ⟨w3.heap.size, 0, none⟩) 0 (CAP (w3.setCell ⟨w.heap.size + 1, 256, none⟩ (.slice A3 n3 k3))))).alloc (OB (w3.setCell ⟨w.heap.size + 1, 256, none⟩ (.slice A3 n3 k3)))).drew = W3 := ⟨_, rfl⟩
  rw [hW3] at HC3
  rw [hW3]
  clear hW3 y256 y109 yf yl t0 t1 t2 t3 t4 t5 hlt hbl
  have t0 := cell_on s0 HC3.out.bel hg
  have t1 := cell_on s1 HC3.out.bel hg
  have t2 := cell_on s2 HC3.out.bel hg
  have t3 := cell_on s3 HC3.out.bel hg
  have t4 := cell_on s4 HC3.out.bel hg
  have t5 := cell_on s5 HC3.out.bel hg
  have hlt := HC3.out.lt
  have hbl := HC3.out.bel.size
  have x256 : W3.cell? ⟨w.heap.size + 1, 256, none⟩ = some (.slice A3 n3 k3) := HC3.out.cell 256 (by omega)
  have x46 : W3.cell? ⟨w.heap.size + 1, 46, none⟩ = some (.slice none 0 0) := HC3.out.cell 46 (by omega)
  clear x109
  rw [rounds_succ]
  go_wp2_with (at_builtin; refine wpList_push_at rfl _ _ 28 rfl w.heap.size 9 i0 _ 1 16 Tryz.underlying28 hi hz0 hz1 hz2 rfl (by omega) zscl_len zscl_one _ ([⟨#[109]⟩] : List ByteArray) ⟨#[46]⟩ rfl (HC3.out.al _).own _ rfl _ rfl (by simp) (by simp) (by omega) (by simp; omega) ?_; intro v3 w3 ho3 hg3 hat3; obtain ⟨A3, n3, k3, rfl, _, _⟩ := own_shape ho3; have HB3 := Lib.hid ((HC3.out.al _).push ho3 hg3 hat3); have y256 := HB3.out.cell 256 (by omega); have y46 := HB3.out.cell 46 (by omega); have yf := HB3.out.fr; have yl := HB3.out.lt; clear ho3 hg3 hat3)
  have HC4 := Lib.hid ((((HB3.out.st 256 (.slice A3 n3 k3) (by omega)).st 46 (.slice (some ⟨w3.heap.size, 0, none⟩) 0 (CAP (w3.setCell ⟨w.heap.size + 1, 256, none⟩ (.slice A3 n3 k3)))) (by omega)).al (OB (w3.setCell ⟨w.heap.size + 1, 256, none⟩ (.slice A3 n3 k3)))).dr)
  obtain ⟨W4, hW4⟩ : ∃ W4, (((w3.setCell ⟨w.heap.size + 1, 256, none⟩ (.slice A3 n3 k3)).setCell ⟨w.heap.size + 1, 46, none⟩ (.slice (some ⟨w3.heap.size, 0, none⟩) 0 (CAP (w3.setCell ⟨w.heap.size + 1, 256, none⟩ (.slice A3 n3 k3))))).alloc (OB (w3.setCell ⟨w.heap.size + 1, 256, none⟩ (.slice A3 n3 k3)))).drew = W4 := ⟨_, rfl⟩
  rw [hW4] at HC4
  rw [hW4]
  clear hW4 y256 y46 yf yl t0 t1 t2 t3 t4 t5 hlt hbl
  have t0 := cell_on s0 HC4.out.bel hg
  have t1 := cell_on s1 HC4.out.bel hg
  have t2 := cell_on s2 HC4.out.bel hg
  have t3 := cell_on s3 HC4.out.bel hg
  have t4 := cell_on s4 HC4.out.bel hg
  have t5 := cell_on s5 HC4.out.bel hg
  have hlt := HC4.out.lt
  have hbl := HC4.out.bel.size
  have x256 : W4.cell? ⟨w.heap.size + 1, 256, none⟩ = some (.slice A3 n3 k3) := HC4.out.cell 256 (by omega)
  have x43 : W4.cell? ⟨w.heap.size + 1, 43, none⟩ = some (.slice none 0 0) := HC4.out.cell 43 (by omega)
  clear x46
  rw [rounds_succ]
  go_wp2_with (at_builtin; refine wpList_push_at rfl _ _ 28 rfl w.heap.size 9 i0 _ 1 16 Tryz.underlying28 hi hz0 hz1 hz2 rfl (by omega) zscl_len zscl_one _ ([⟨#[109]⟩, ⟨#[46]⟩] : List ByteArray) ⟨#[43]⟩ rfl (HC4.out.al _).own _ rfl _ rfl (by simp) (by simp) (by omega) (by simp; omega) ?_; intro v3 w3 ho3 hg3 hat3; obtain ⟨A3, n3, k3, rfl, _, _⟩ := own_shape ho3; have HB3 := Lib.hid ((HC4.out.al _).push ho3 hg3 hat3); have y256 := HB3.out.cell 256 (by omega); have y43 := HB3.out.cell 43 (by omega); have yf := HB3.out.fr; have yl := HB3.out.lt; clear ho3 hg3 hat3)
  have HC5 := Lib.hid ((((HB3.out.st 256 (.slice A3 n3 k3) (by omega)).st 43 (.slice (some ⟨w3.heap.size, 0, none⟩) 0 (CAP (w3.setCell ⟨w.heap.size + 1, 256, none⟩ (.slice A3 n3 k3)))) (by omega)).al (OB (w3.setCell ⟨w.heap.size + 1, 256, none⟩ (.slice A3 n3 k3)))).dr)
  obtain ⟨W5, hW5⟩ : ∃ W5, (((w3.setCell ⟨w.heap.size + 1, 256, none⟩ (.slice A3 n3 k3)).setCell ⟨w.heap.size + 1, 43, none⟩ (.slice (some ⟨w3.heap.size, 0, none⟩) 0 (CAP (w3.setCell ⟨w.heap.size + 1, 256, none⟩ (.slice A3 n3 k3))))).alloc (OB (w3.setCell ⟨w.heap.size + 1, 256, none⟩ (.slice A3 n3 k3)))).drew = W5 := ⟨_, rfl⟩
  rw [hW5] at HC5
  rw [hW5]
  clear hW5 y256 y43 yf yl t0 t1 t2 t3 t4 t5 hlt hbl
  have t0 := cell_on s0 HC5.out.bel hg
  have t1 := cell_on s1 HC5.out.bel hg
  have t2 := cell_on s2 HC5.out.bel hg
  have t3 := cell_on s3 HC5.out.bel hg
  have t4 := cell_on s4 HC5.out.bel hg
  have t5 := cell_on s5 HC5.out.bel hg
  have hlt := HC5.out.lt
  have hbl := HC5.out.bel.size
  have x256 : W5.cell? ⟨w.heap.size + 1, 256, none⟩ = some (.slice A3 n3 k3) := HC5.out.cell 256 (by omega)
  clear x43
  rw [rounds_succ]
  go_wp2_with fail
  go_ret
  obtain ⟨A9, n9, k9, e9, hl9, _⟩ := own_shape HC5.out.own
  injection e9 with e91 e92 e93
  have hn3 : n3 = 3 := by rw [e92, ← hl9]; rfl
  subst hn3
  refine ⟨w.heap.size + 1, A3, k3, _, rfl, HC5.out, rfl, fun i hi => ?_⟩
  by_cases e1 : i = 43
  · subst e1; rw [if_pos (.inl rfl)]; exact ⟨_, _, rfl⟩
  · by_cases e2 : i = 46
    · subst e2; rw [if_pos (.inr (.inl rfl))]; exact ⟨_, _, rfl⟩
    · by_cases e3 : i = 109
      · subst e3; rw [if_pos (.inr (.inr rfl))]; exact ⟨_, _, rfl⟩
      · rw [if_neg (by omega)]
        simp [e1, e2, e3, show i ≠ 256 from by omega]

end Go.Proofs.YtgbblcbpmpokdaaGreatDoor

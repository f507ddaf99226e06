/- Walks over functions of this seat, by contract. Conditions: those that each theorem states. -/
import Derived.Test.YtgbblcbpmpokdaaS4
import Derived.Test.YtgbblcbpmpokdaaKey
import Derived.Test.YtgbblcbpmpokdaaApp
namespace Go.Proofs.Ytgbblcbpmpokdaa
open Go.RowKit Go.Sort

def encF {N : Nat} (x : Fin N) : Value := .int .i64 (fI x)
theorem holds_own {α : Type} [Inhabited α] (enc : α → Value) {w : World} {g : Nat} {cur : Array Value} {e : TypeId} {d : Array α} (hb : w.heap[g]? = some (.cells cur e (0, 0))) (ht : cur.toList.take d.size = d.toList.map enc) : Holds enc w g 0 d := by
  intro j hj
  refine ⟨?_, by simp [World.frozen?, hb]⟩
  have h1 : (cur.toList.take d.size)[j]? = (d.toList.map enc)[j]? := by rw [ht]
  rw [List.getElem?_take_of_lt hj] at h1
  simp only [World.cell?, hb, Nat.zero_add]
  simp only [Option.isSome_none, Bool.false_eq_true, if_false]
  rw [← Array.getElem?_toList, h1]
  simp [hj]
theorem heap_put {α : Type} [Inhabited α] (enc : α → Value) {w : World} {g n : Nat} {os : Array Obj} {cur : Array Value} {e : TypeId} {fr : Nat × Nat} (d : Array α) (hb : w.heap[g]? = some (.cells cur e fr)) :
    (Sort.grow (putRow enc (Sort.ahead w n) g 0 d) os).heap[g]? = some (.cells (putCells enc 0 d cur) e fr) := by
  have hg : g < w.heap.size := (Array.getElem?_eq_some_iff.1 hb).1
  rw [heap_grow_old _ _ (by simpa using hg)]
  simp [putRow, mapBlock, Sort.ahead, Array.getElem?_modify, hb, onCells]
theorem grown_put {α : Type} [Inhabited α] (enc : α → Value) {w : World} {g n : Nat} {os : Array Obj} (d : Array α) : w.grownBy (Sort.grow (putRow enc (Sort.ahead w n) g 0 d) os) (some g) := by
  refine ⟨rfl, rfl, rfl, by simp, fun k hk hne => ?_⟩
  rw [heap_grow_old _ _ (by simpa using hk)]
  have : g ≠ k := fun e => hne (by rw [e])
  simp [putRow, mapBlock, Sort.ahead, Array.getElem?_modify, this]
theorem take_put {α : Type} [Inhabited α] (enc : α → Value) (cur : Array Value) (d : Array α) (h : d.size ≤ cur.size) : (putCells enc 0 d cur).toList.take d.size = d.toList.map enc := by
  apply List.ext_getElem?
  intro j
  by_cases hj : j < d.size
  · rw [List.getElem?_take_of_lt hj, Array.getElem?_toList]
    simp [putCells, hj, show j < cur.size by omega]
  · rw [List.getElem?_take_eq_none (by omega), List.getElem?_eq_none (by simp; omega)]
theorem flat_encF {N : Nat} (d : Array (Fin N)) : (d.toList.map fI).flatMap icell = d.toList.map encF := by
  rw [icell_flat, List.map_map]; rfl
section
variable {N : Nat} [Inhabited (Fin N)]
theorem own_row {w : World} {base g c E : Nat} {d : Array (Fin N)} (ho : Own w base E 1 icell (.slice (some ⟨g, 0, none⟩) d.size c) (d.toList.map fI)) :
    Holds encF w g 0 d ∧ g < w.heap.size ∧ base ≤ g ∧ ∀ (n : Nat) (os : Array Obj) (d' : Array (Fin N)), d'.size = d.size → Own (Sort.grow (putRow encF (Sort.ahead w n) g 0 d') os) base E 1 icell (.slice (some ⟨g, 0, none⟩) d.size c) (d'.toList.map fI) := by
  unfold Own at ho
  rw [flat_encF] at ho
  rcases ho.2 with ⟨h0, _⟩ | ⟨g', cap, cur, hv, hbg, hb, h1, h2, h3, h4⟩
  · cases h0
  · injection hv with e1 e2 e3
    injection e1 with e1
    injection e1 with e1 _ _
    subst e1; subst e3
    rw [List.length_map, Array.length_toList] at h1 h4
    rw [Nat.mul_one] at h4 h3
    refine ⟨holds_own encF hb h4, (Array.getElem?_eq_some_iff.1 hb).1, hbg, fun n os d' hs => ?_⟩
    unfold Own
    rw [flat_encF, List.length_map, Array.length_toList]
    refine ⟨by simp, .inr ⟨g, c, _, by rw [hs], hbg, heap_put encF d' hb, by rw [hs]; exact h1, h2, by simp [putCells, h3], ?_⟩⟩
    rw [Nat.mul_one]
    exact take_put encF cur d' (by rw [hs, h3]; exact h1)
end
theorem below_grow (w : World) (os : Array Obj) : Below w.heap.size w (Sort.grow w os) := ⟨rfl, rfl, rfl, by simp, fun _ hj => heap_grow_old w os hj⟩
/-- what a closure that only reads must pay, said by what its world reads as -/
theorem lessReads_of {α : Type} [Inhabited α] {P : Program} {g : Nat} {lb : Array Value} {enc : α → Value} {lt : α → α → Bool} {blk n : Nat} {w : World} {d : Array α} (hH : Holds enc w blk 0 d) (hd : d.size = n) (hblk : blk < w.heap.size)
    (h : ∀ (W : World) (dk : Array α), dk.size = n → (∀ p : Addr, p.block ≠ blk → p.block < w.heap.size → W.cell? p = w.cell? p) → (∀ t, t < n → W.cell? ⟨blk, t, none⟩ = some (enc dk[t]!)) → ∀ i j : Nat, i < n → j < n →
      Calls P g (#[.int .i64 i, .int .i64 j] ++ lb) W fun e w' => e = .returned (.bool (lt dk[i]! dk[j]!)) ∧ ∃ q, w' = W.drewN q) : LessReads P g lb enc lt blk 0 n w := by
  intro m os dk hs i j hi hj
  have e : sortWorld enc w blk 0 m dk os = putRow enc (Sort.grow (Sort.ahead w m) os) blk 0 dk := by
    unfold sortWorld
    rw [putRow_grow enc (Sort.ahead w m) _ blk 0 _ (by simpa using hblk)]
  have hHg : Holds enc (Sort.grow (Sort.ahead w m) os) blk 0 d := holds_grow _ _ _ _ _ _ (by simpa using hblk) (holds_ahead _ _ _ _ _ _ hH)
  refine h _ dk hs (fun p hb hl => ?_) (fun t ht => ?_) i j hi hj
  · rw [e, cell?_putRow_other _ _ _ _ _ _ (Or.inl hb), cell?_grow _ _ _ (by simpa using hl)]; rfl
  · rw [e]
    have := cell?_putRow enc _ blk 0 d dk hHg (by rw [hs, hd]) t (by omega)
    simpa using this
theorem sortI_tiny (K : Int → Int) : ∀ (L : List Int), L.length ≤ 1 → sortI K L = L
  | [], _ => rfl
  | [x], _ => rfl
  | _ :: _ :: _, h => absurd h (by simp)
set_option maxHeartbeats 1000000 in
set_option maxRecDepth 100000 in
theorem stable_own {N : Nat} [Inhabited (Fin N)] (K : Int → Int) (t e : TypeId) (i ie : TypeInfo) (hi : Try.prog.info? t = some i) (hd : i.desc = .slice e) (hpk : Try.prog.packed t = false) (hie : Try.prog.info? e = some ie) (ke : Nat) (hke : ∀ w, (Extern.Rtype.kind e).run Try.prog w = .ok ke w)
    (hs1 : ie.size = 1) (hagg : ∀ w, (isAgg e).run Try.prog w = .ok false w) (hK : ∀ n, 2 ≤ n → Lib.swapperK n ie ke = 5) (g : Nat) (lb : Array Value)
    (eg : ∀ args w, (callFunc g args).run Try.prog w = .ok (.enter g args) w) (base gb c E : Nat) (d : Array (Fin N)) (w : World) (ho : Own w base E 1 icell (.slice (some ⟨gb, 0, none⟩) d.size c) (d.toList.map fI)) (hs : (d.toList.map fI).Pairwise (· < ·)) (hmax : d.size ≤ 1048576) (hbase : base ≤ w.heap.size)
    (hless : LessReads Try.prog g lb (encF (N := N)) (ltF K) gb 0 d.size w) :
    Calls Try.prog 69 #[.iface t (.slice (some ⟨gb, 0, none⟩) d.size c), .func (.func g) #[] lb] w fun e w' =>
      e = .returned (.tuple #[]) ∧ Own w' base E 1 icell (.slice (some ⟨gb, 0, none⟩) d.size c) (sortI K (d.toList.map fI)) ∧ Below base w w' ∧ w.grownBy w' (some gb) := by
  obtain ⟨hH, hg, hbg, hput⟩ := own_row ho
  rcases Nat.lt_or_ge 1 d.size with h2 | h1
  · refine Any.sort_SliceStable_of_stable Try.laysGt8 t e i ie hi hd hpk hie ke hke _ d.size c (by omega) 113 (by rw [hK _ h2]; kernel_rfl) (.func g) #[] lb w _ ?_
    have hB : sliceBound Try.prog e ie ke (some ⟨gb, 0, none⟩) d.size c = #[.slice (some ⟨gb, 0, none⟩) d.size c, typeHandle Try.prog e] := by
      unfold sliceBound; rw [if_neg (swapperK_gt _ _ _ h2)]
    have hx := fun args W => run_callFunc_extern Try.func113 (by kernel_rfl) (by kernel_rfl) (by kernel_rfl) (e := Extern.ReflectliteSwapper.swap true) (by kernel_rfl) args W
    have hW : ∃ os0, stableWorld Try.prog Try.laysGt8_ren t (some ⟨gb, 0, none⟩) d.size c w = Sort.grow w os0 := ⟨_, by unfold stableWorld; rw [alloc_eq_grow, alloc_eq_grow, grow_grow]⟩
    obtain ⟨os0, hW⟩ := hW
    rw [hB, hW]
    have hp := stable encF (ltF K) (rF K) vF (ordF K) g lb 113 _ gb 0 eg d.size d (Sort.grow w os0) rfl (hless.grow hg os0)
      (swapSwaps_of_literal true 113 hx e ie hie hs1 hagg encF (fun _ => rfl) gb 0 d.size c) (holds_grow encF w _ gb 0 d hg hH) (by rw [size_grow]; omega) (by omega) (srt_vF hs)
    refine hp.mono ?_
    rintro e w' ⟨rfl, d', m, n, os, rfl⟩
    have hw : sortWorld encF (Sort.grow w os0) gb 0 n d' os = Sort.grow (putRow encF (Sort.ahead w n) gb 0 d') (os0 ++ os) := by
      unfold sortWorld; rw [ahead_grow, putRow_grow encF (Sort.ahead w n) _ gb 0 _ hg, grow_grow]
    rw [hw]
    refine ⟨rfl, ?_, own_grown (Below.refl _ _) ho (Nat.le_refl _) hbase (grown_put encF d'), grown_put encF d'⟩
    rw [← mrg_sortI m hs]
    exact hput n _ d' m.perm.1
  · have hl : sortI K (d.toList.map fI) = d.toList.map fI := sortI_tiny K _ (by simpa using h1)
    rw [hl]
    have fin : ∀ (e' : Ending) (w' : World), (e' = .returned (.tuple #[]) ∧ ∃ os, w' = Sort.grow w os) → e' = .returned (.tuple #[]) ∧ Own w' base E 1 icell (.slice (some ⟨gb, 0, none⟩) d.size c) (d.toList.map fI) ∧ Below base w w' ∧ w.grownBy w' (some gb) := by
      rintro e' w' ⟨rfl, os, rfl⟩
      have hb := below_grow w os
      exact ⟨rfl, Own.below ho hb (Nat.le_refl _), hb.mono hbase, hb.os, hb.tape, hb.output, hb.size, fun k hk _ => hb.block k hk⟩
    rcases Nat.lt_or_ge 0 d.size with h3 | h3
    · have hn : d.size = 1 := by omega
      exact (Any.sort_SliceStable_tiny Try.laysGt8 t e i ie hi hd hpk hie ke hke _ d.size c h1 110 (by rw [hn, show Lib.swapperK 1 ie ke = 2 from rfl]; kernel_rfl) (.func g) #[] lb w).mono fun e' w' h => fin e' w' h
    · have hn : d.size = 0 := by omega
      exact (Any.sort_SliceStable_tiny Try.laysGt8 t e i ie hi hd hpk hie ke hke _ d.size c h1 109 (by rw [hn, show Lib.swapperK 0 ie ke = 1 from rfl]; kernel_rfl) (.func g) #[] lb w).mono fun e' w' h => fin e' w' h
noncomputable def tS64 : TypeInfo := (Try.prog.info? 23).get (by kernel_rfl)
noncomputable def tE64 : TypeInfo := (Try.prog.info? 2).get (by kernel_rfl)
theorem k64 (n : Nat) (h2 : 2 ≤ n) : Lib.swapperK n tE64 6 = 5 := by
  have a : tE64.hasPointers = false := by kernel_rfl
  have b : tE64.bytes = 8 := by kernel_rfl
  have c : (n == 0) = false := by simp; omega
  have d : (n == 1) = false := by simp; omega
  simp [Lib.swapperK, a, b, c, d]
theorem stable_i64 {N : Nat} [Inhabited (Fin N)] (K : Int → Int) (g : Nat) (lb : Array Value) (eg : ∀ args w, (callFunc g args).run Try.prog w = .ok (.enter g args) w) (base gb c : Nat) (d : Array (Fin N)) (w : World) (ho : Own w base 2 1 icell (.slice (some ⟨gb, 0, none⟩) d.size c) (d.toList.map fI)) (hs : (d.toList.map fI).Pairwise (· < ·)) (hmax : d.size ≤ 1048576) (hbase : base ≤ w.heap.size)
    (hless : LessReads Try.prog g lb (encF (N := N)) (ltF K) gb 0 d.size w) :
    Calls Try.prog 69 #[.iface 23 (.slice (some ⟨gb, 0, none⟩) d.size c), .func (.func g) #[] lb] w fun e w' =>
      e = .returned (.tuple #[]) ∧ Own w' base 2 1 icell (.slice (some ⟨gb, 0, none⟩) d.size c) (sortI K (d.toList.map fI)) ∧ Below base w w' ∧ w.grownBy w' (some gb) :=
  stable_own K 23 2 tS64 tE64 (by kernel_rfl) (by kernel_rfl) (by kernel_rfl) (by kernel_rfl) 6 (fun _ => by kernel_rfl) (by kernel_rfl) (fun _ => by kernel_rfl) k64 g lb eg base gb c 2 d w ho hs hmax hbase hless
noncomputable def tSI : TypeInfo := (Try.prog.info? 84).get (by kernel_rfl)
noncomputable def tEI : TypeInfo := (Try.prog.info? 3).get (by kernel_rfl)
theorem kI (n : Nat) (h2 : 2 ≤ n) : Lib.swapperK n tEI 2 = 5 := by
  have a : tEI.hasPointers = false := by kernel_rfl
  have b : tEI.bytes = 8 := by kernel_rfl
  have c : (n == 0) = false := by simp; omega
  have d : (n == 1) = false := by simp; omega
  simp [Lib.swapperK, a, b, c, d]
theorem stable_int {N : Nat} [Inhabited (Fin N)] (K : Int → Int) (g : Nat) (lb : Array Value) (eg : ∀ args w, (callFunc g args).run Try.prog w = .ok (.enter g args) w) (base gb c : Nat) (d : Array (Fin N)) (w : World) (ho : Own w base 3 1 icell (.slice (some ⟨gb, 0, none⟩) d.size c) (d.toList.map fI)) (hs : (d.toList.map fI).Pairwise (· < ·)) (hmax : d.size ≤ 1048576) (hbase : base ≤ w.heap.size)
    (hless : LessReads Try.prog g lb (encF (N := N)) (ltF K) gb 0 d.size w) :
    Calls Try.prog 69 #[.iface 84 (.slice (some ⟨gb, 0, none⟩) d.size c), .func (.func g) #[] lb] w fun e w' =>
      e = .returned (.tuple #[]) ∧ Own w' base 3 1 icell (.slice (some ⟨gb, 0, none⟩) d.size c) (sortI K (d.toList.map fI)) ∧ Below base w w' ∧ w.grownBy w' (some gb) :=
  stable_own K 84 3 tSI tEI (by kernel_rfl) (by kernel_rfl) (by kernel_rfl) (by kernel_rfl) 2 (fun _ => by kernel_rfl) (by kernel_rfl) (fun _ => by kernel_rfl) kI g lb eg base gb c 3 d w ho hs hmax hbase hless
theorem grown_cell {W W' : World} {row : Option Nat} (hg : W.grownBy W' row) {p : Addr} (hl : p.block < W.heap.size) (hne : row ≠ some p.block) : W'.cell? p = W.cell? p := by
  simp only [World.cell?, hg.block _ hl (fun h => hne (by first | exact h | exact h.symm))]
theorem stable_any64 {N : Nat} [Inhabited (Fin N)] (K : Int → Int) (g : Nat) (lb : Array Value) (eg : ∀ args w, (callFunc g args).run Try.prog w = .ok (.enter g args) w) (base : Nat) (v : Value) (d : Array (Fin N)) (w : World) (ho : Own w base 2 1 icell v (d.toList.map fI)) (hs : (d.toList.map fI).Pairwise (· < ·)) (hmax : d.size ≤ 1048576) (hbase : base ≤ w.heap.size)
    (hless : ∀ gb c, v = .slice (some ⟨gb, 0, none⟩) d.size c → base ≤ gb → gb < w.heap.size → Holds encF w gb 0 d → LessReads Try.prog g lb (encF (N := N)) (ltF K) gb 0 d.size w) :
    Calls Try.prog 69 #[.iface 23 v, .func (.func g) #[] lb] w fun e w' =>
      e = .returned (.tuple #[]) ∧ Own w' base 2 1 icell v (sortI K (d.toList.map fI)) ∧ Below base w w' ∧ w.grownBy w' v.ownBlock := by
  rcases ho.2 with ⟨rfl, h0⟩ | ⟨gb, c, cur, rfl, _⟩
  · have hd : d.toList.map fI = [] := List.eq_nil_of_length_eq_zero h0
    rw [hd] at ho ⊢
    refine (Any.sort_SliceStable_tiny Try.laysGt8 23 2 tS64 tE64 (by kernel_rfl) (by kernel_rfl) (by kernel_rfl) (by kernel_rfl) 6 (fun _ => by kernel_rfl) none 0 0 (by omega) 109 (by rw [show Lib.swapperK 0 tE64 6 = 1 from rfl]; kernel_rfl) (.func g) #[] lb w).mono ?_
    rintro e' w' ⟨rfl, os, rfl⟩
    have hb := below_grow w os
    exact ⟨rfl, Own.below ho hb (Nat.le_refl _), hb.mono hbase, hb.os, hb.tape, hb.output, hb.size, fun k hk _ => hb.block k hk⟩
  · rw [List.length_map, Array.length_toList] at ho hless ⊢
    obtain ⟨hH, hg, hbg, _⟩ := own_row ho
    exact stable_i64 K g lb eg base gb c d w ho hs hmax hbase (hless gb c rfl hbg hg hH)
theorem stable_anyI {N : Nat} [Inhabited (Fin N)] (K : Int → Int) (g : Nat) (lb : Array Value) (eg : ∀ args w, (callFunc g args).run Try.prog w = .ok (.enter g args) w) (base : Nat) (v : Value) (d : Array (Fin N)) (w : World) (ho : Own w base 3 1 icell v (d.toList.map fI)) (hs : (d.toList.map fI).Pairwise (· < ·)) (hmax : d.size ≤ 1048576) (hbase : base ≤ w.heap.size)
    (hless : ∀ gb c, v = .slice (some ⟨gb, 0, none⟩) d.size c → base ≤ gb → gb < w.heap.size → Holds encF w gb 0 d → LessReads Try.prog g lb (encF (N := N)) (ltF K) gb 0 d.size w) :
    Calls Try.prog 69 #[.iface 84 v, .func (.func g) #[] lb] w fun e w' =>
      e = .returned (.tuple #[]) ∧ Own w' base 3 1 icell v (sortI K (d.toList.map fI)) ∧ Below base w w' ∧ w.grownBy w' v.ownBlock := by
  rcases ho.2 with ⟨rfl, h0⟩ | ⟨gb, c, cur, rfl, _⟩
  · have hd : d.toList.map fI = [] := List.eq_nil_of_length_eq_zero h0
    rw [hd] at ho ⊢
    refine (Any.sort_SliceStable_tiny Try.laysGt8 84 3 tSI tEI (by kernel_rfl) (by kernel_rfl) (by kernel_rfl) (by kernel_rfl) 2 (fun _ => by kernel_rfl) none 0 0 (by omega) 109 (by rw [show Lib.swapperK 0 tEI 2 = 1 from rfl]; kernel_rfl) (.func g) #[] lb w).mono ?_
    rintro e' w' ⟨rfl, os, rfl⟩
    have hb := below_grow w os
    exact ⟨rfl, Own.below ho hb (Nat.le_refl _), hb.mono hbase, hb.os, hb.tape, hb.output, hb.size, fun k hk _ => hb.block k hk⟩
  · rw [List.length_map, Array.length_toList] at ho hless ⊢
    obtain ⟨hH, hg, hbg, _⟩ := own_row ho
    exact stable_int K g lb eg base gb c d w ho hs hmax hbase (hless gb c rfl hbg hg hH)

end Go.Proofs.Ytgbblcbpmpokdaa

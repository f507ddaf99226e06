/- Walks over functions of this seat, by contract. Conditions: those that each theorem states. -/
import Derived.Test.YtgbblcbpmpokdaaV1
import Derived.Test.YtgbblcbpmpokdaaR1
import Derived.Test.YtgbblcbpmpokdaaS5
import Derived.Test.YtgbblcbpmpokdaaStp
import Derived.IntWalk
import Derived.Deep.RegionHeld3
namespace Go.Proofs.Ytgbblcbpmpokdaa
open Go.RowKit Go.Sort

theorem sl_box1 (w : World) (x : Int) (E : Nat) : Sl (w.alloc (.cells #[.int .i64 x] E)) (w.heap.size + 1) 1 icell (some ⟨w.heap.size, 0, none⟩) 1 [x] :=
  ⟨rfl, fun _ => ⟨_, _, rfl, by omega, fun k e he j v hv => by
    have hk : k < [x].length := (List.getElem?_eq_some_iff.1 he).1
    have hk0 : k = 0 := by simpa using hk
    subst hk0
    simp at he; subst he
    rw [cell_of_row _ _ _ _ _ (0, 0) (heap_alloc_new w _), Nat.zero_mul, Nat.zero_add, ← Array.getElem?_toList]
    exact hv⟩⟩
set_option maxHeartbeats 1000000 in
set_option maxRecDepth 100000 in
theorem impl_weightsOf (A : Option Addr) (n c : Nat) (es : List Q4) (A2 : Option Addr) (n2 c2 : Nat) (fs : List Int) (w : World) (hmax : n ≤ 1048576) (hok : parcelsOk es = true) (hf : facOk fs = true) (h : Sl w w.heap.size 4 Q4.cells A n es) (h2 : Sl w w.heap.size 1 icell A2 n2 fs) :
    Calls Try.prog 35 #[.slice A n c, .slice A2 n2 c2] w fun e w' => ∃ v, e = .returned v ∧ Own w' w.heap.size 2 1 icell v (wOf fs es) ∧ Below w.heap.size w w' := by
  obtain ⟨i0, hi, hz0, hz1, hz2⟩ := info_parts info_i64
  obtain ⟨hf1, hf2⟩ := facOk_iff.1 hf
  have hn2 : n2 = 4 := by rw [← h2.len]; exact hf2
  subst hn2
  have Hf1 := Lib.hid hf1
  have Hn := Lib.hid h.len
  have Hok := Lib.hid hok
  have h60 := (parcels_all hok).1
  rw [h.len] at h60
  clear hok hf hf1 hf2
  go_enter Try.func35, Try.ntmps35
  go_wp2
  go_loopw [5, 11] (fun v i wr => ∃ k : Nat, k ≤ n ∧ i = .int .i64 k ∧ Hid (Own wr w.heap.size 2 1 icell v (wOf fs (es.take k))) ∧ Hid (Below w.heap.size w wr)) (fun _ i _ => n - (intOf i).toNat)
  case atStart => exact ⟨0, by omega, rfl, Lib.hid (own_new_empty _ _ _ _ _ (Nat.le_refl _)), Lib.hid (below_al (Below.refl _ _) _)⟩
  case round =>
    obtain ⟨k, hk, rfl, HO, HB⟩ := hrel
    by_cases hlt : k < n
    · obtain ⟨b, off, rfl, hb, H⟩ := h.at_ (by omega)
      obtain ⟨e, he⟩ := h.get hlt
      obtain ⟨c0, c1, c2, c3⟩ := (H.below HB.out hb).q4 he
      obtain ⟨_, _, ⟨p1, p2⟩, p3, p4⟩ := parcelOk_iff.1 ((parcels_all Hok.out).2 e (List.mem_of_getElem? he))
      obtain ⟨cl, hcl⟩ : ∃ cl : Nat, e.d = (cl : Int) := ⟨e.d.toNat, by omega⟩
      have hcl4 : cl < 4 := by omega
      obtain ⟨bf, offf, rfl, hbf, HF⟩ := h2.at_ (by omega)
      obtain ⟨y, hy⟩ := h2.get hcl4
      have f0 := (HF.below HB.out hbf).i1 hy
      obtain ⟨y0, y1⟩ := Hf1.out y (List.mem_of_getElem? hy)
      have hprod := fW_bd (fs := fs) ((parcels_all Hok.out).2 e (List.mem_of_getElem? he)) Hf1.out
      have hfw : fW fs e = e.c * y := by rw [fW, hcl, Int.toNat_natCast, hy]; rfl
      rw [hfw] at hprod
      have hwr : IntKind.i64.wrap (e.c * y) = e.c * y := IntWalk.i64_in _ (by omega)
      have Hfw := Lib.hid hfw
      have He := Lib.hid he
      rw [hcl] at c3
      have hbz := HB.out.size
      have hbfr : bf < wr.heap.size := by omega
      have hol := HO.out.1
      clear he hy hcl p3 p4 H HF hfw hol
      obtain ⟨A5, n5, c5, rfl, hl5, _⟩ := own_shape HO.out
      rw [wOf_len, List.length_take] at hl5
      go_wp2_with fail
      have x2 : (wr.alloc (.cells #[.int .i64 e.a, .int .i64 e.b, .int .i64 e.c, .int .i64 (cl : Int)] 54)).cell? ⟨wr.heap.size, 2, none⟩ = some (.int .i64 e.c) := by
        rw [cell_of_row _ _ _ _ _ (0, 0) (heap_alloc_new wr _)]; rfl
      have x3 : (wr.alloc (.cells #[.int .i64 e.a, .int .i64 e.b, .int .i64 e.c, .int .i64 (cl : Int)] 54)).cell? ⟨wr.heap.size, 3, none⟩ = some (.int .i64 (cl : Int)) := by
        rw [cell_of_row _ _ _ _ _ (0, 0) (heap_alloc_new wr _)]; rfl
      have hal := below_al (Below.refl wr.heap.size wr) (.cells #[.int .i64 e.a, .int .i64 e.b, .int .i64 e.c, .int .i64 (cl : Int)] 54)
      have f1 := cell_on f0 hal hbfr
      have HO1 := Lib.hid (own_alloc HO.out (.cells #[.int .i64 e.a, .int .i64 e.b, .int .i64 e.c, .int .i64 (cl : Int)] 54))
      have HB1 := Lib.hid (below_al HB.out (.cells #[.int .i64 e.a, .int .i64 e.b, .int .i64 e.c, .int .i64 (cl : Int)] 54))
      obtain ⟨W1, hW1⟩ : ∃ W1, wr.alloc (.cells #[.int .i64 e.a, .int .i64 e.b, .int .i64 e.c, .int .i64 (cl : Int)] 54) = W1 := ⟨_, rfl⟩
      have HszW : Hid (wr.heap.size < W1.heap.size) := Lib.hid (by rw [← hW1]; simp)
      rw [hW1] at x2 x3 f1 HO1 HB1
      rw [hW1]
      clear hW1 hal c0 c1 c2 c3 f0
      have hbz1 := HB1.out.size
      have hci0 : (0 : Int) ≤ (cl : Int) := by omega
      have hci1 : (cl : Int) < 4 := by omega
      have hl1 : wr.heap.size < W1.heap.size := HszW.out
      have hne1 : (Value.slice A5 n5 c5).ownBlock ≠ some wr.heap.size := fun e1 => absurd (World.ownsRow.lt HO.out _ e1).2 (Nat.lt_irrefl _)
      have hne2 : (Value.slice A5 n5 c5).ownBlock ≠ some bf := fun e1 => absurd (World.ownsRow.lt HO.out _ e1).1 (by omega)
      go_region_held3 (fun w' => w'.cell? ⟨wr.heap.size, 2, none⟩ = some (.int .i64 e.c) ∧ w'.cell? ⟨wr.heap.size, 3, none⟩ = some (.int .i64 (cl : Int)) ∧ w'.cell? ⟨bf, offf + cl, none⟩ = some (.int .i64 y))
        (go_keep)
        (first
          | (refine step_app (by rfl) _ _ 23 (by rfl) w.heap.size 2 i0 _ 1 8 Try.underlying23 hi hz0 hz1 hz2 rfl (by omega) icell_len icell_one (.slice A5 n5 c5) (wOf fs (es.take k)) [e.c * y] (by rfl) (own_alloc (HO1.out.below (below_dr (Below.refl W1.heap.size W1)) (Nat.le_refl _)) _) (W1.heap.size + 1) (some ⟨W1.heap.size, 0, none⟩) 1 1 (by rfl) (sl_box1 W1.drew (e.c * y) _) (by rw [wOf_len, List.length_take]; omega) (by omega) (by omega) (by simp; omega) ?_; intro v3 w3 ho3 hg3; have hb3 := own_grown (below_al (below_dr HB1.out) (.cells #[.int .i64 (e.c * y)] 2)) (own_alloc (HO1.out.below (below_dr (Below.refl W1.heap.size W1)) (Nat.le_refl _)) _) (Nat.le_refl _) (by simp; omega) hg3; have HO3 := Lib.hid ho3; have HB3 := Lib.hid hb3; have x2' := (grown_cell (p := ⟨wr.heap.size, 2, none⟩) hg3 (by simp; omega) hne1).trans (cell_on x2 (below_al (below_dr (Below.refl _ _)) _) hl1); have x3' := (grown_cell (p := ⟨wr.heap.size, 3, none⟩) hg3 (by simp; omega) hne1).trans (cell_on x3 (below_al (below_dr (Below.refl _ _)) _) hl1); have f1' := (grown_cell (p := ⟨bf, offf + cl, none⟩) hg3 (by simp; omega) hne2).trans (cell_on f1 (below_al (below_dr (Below.refl _ _)) _) (by omega))))
      go_wp2_with fail
      go_roundw
      case rel => exact ⟨k + 1, by omega, by go_num, Lib.hid (by rw [wOf_succ He.out, Hfw.out]; exact HO3.out), HB3⟩
      case measure => simp [intOf]; omega
    · have hkn : k = n := by omega
      subst hkn
      go_wp2_with fail
      go_ret
      exact ⟨_, rfl, by (have := HO.out; rw [List.take_of_length_le (by rw [Hn.out]; exact Nat.le_refl _)] at this; exact this), HB.out⟩

end Go.Proofs.Ytgbblcbpmpokdaa

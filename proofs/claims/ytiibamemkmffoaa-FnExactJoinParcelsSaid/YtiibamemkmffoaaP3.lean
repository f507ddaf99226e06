/- Walks over functions of this seat, by contract. Conditions: those that each theorem states. -/
import Derived.Test.YtiibamemkmffoaaP2
namespace Go.Proofs.Ytiibamemkmffoaa
open Go.RowKit Go.Sort

theorem info_i64 : (Try.prog.info? 2).map (fun i => (i.zero, i.size, i.bytes)) = some (some (.int .i64 0), 1, 8) := by kernel_rfl
/-- the sums of the areas by key, for the keys below N -/
def areasOf (key : Q4 → Int) (N : Nat) (es : List Q4) : List Int := (List.range N).map fun (o : Nat) => sumBy (fun q => if key q = (o : Int) then q.c else 0) es
theorem areasOf_len (key : Q4 → Int) (N : Nat) (es : List Q4) : (areasOf key N es).length = N := by simp [areasOf]
theorem areasOf_get {key : Q4 → Int} {N : Nat} {es : List Q4} {o : Nat} (h : o < N) : (areasOf key N es)[o]? = some (sumBy (fun q => if key q = (o : Int) then q.c else 0) es) := by
  simp [areasOf, h]
theorem areasOf_zero (key : Q4 → Int) (N : Nat) (es : List Q4) : areasOf key N (es.take 0) = List.replicate N 0 := by
  apply List.ext_getElem
  · simp [areasOf]
  · intro i h1 h2; simp [areasOf, sumBy]
theorem areasOf_succ {key : Q4 → Int} {N : Nat} {es : List Q4} {k o : Nat} {e : Q4} (he : es[k]? = some e) (ho : key e = (o : Int)) :
    areasOf key N (es.take (k + 1)) = (areasOf key N (es.take k)).set o (sumBy (fun q => if key q = (o : Int) then q.c else 0) (es.take k) + e.c) := by
  apply List.ext_getElem?
  intro i
  rw [List.getElem?_set]
  rcases Nat.lt_or_ge i N with hi | hi
  · rw [areasOf_get hi, areasOf_get hi, sumBy_succ he, areasOf_len]
    by_cases h : o = i
    · subst h; rw [if_pos rfl, if_pos hi, if_pos ho]
    · have : ¬ key e = (i : Int) := by omega
      rw [if_neg h, if_neg this, Int.add_zero]
  · rw [List.getElem?_eq_none (by rw [areasOf_len]; exact hi), List.getElem?_eq_none (by rw [areasOf_len]; exact hi), areasOf_len]
    split <;> simp_all <;> omega
theorem areas_bd {es : List Q4} (h : parcelsOk es = true) (key : Q4 → Int) (o : Int) (k : Nat) : 0 ≤ sumBy (fun q => if key q = o then q.c else 0) (es.take k) ∧ sumBy (fun q => if key q = o then q.c else 0) (es.take k) ≤ 600000000 := by
  obtain ⟨h1, h2⟩ := parcels_all h
  obtain ⟨a, b⟩ := sumBy_bound (f := fun q => if key q = o then q.c else 0) (es := es) (B := 10000000) (fun e he => by
    obtain ⟨_, _, ⟨c1, c2⟩, _⟩ := parcelOk_iff.1 (h2 e he)
    split <;> omega) k
  have : (es.take k).length ≤ 60 := by rw [List.length_take]; omega
  omega
theorem own_zeros (w : World) (E N : Nat) (hm : N ≤ 1048576) : Own (w.alloc (.cells (madeCells #[.int .i64 0] N) E)) w.heap.size E 1 icell (.slice (some ⟨w.heap.size, 0, none⟩) N N) (List.replicate N (0 : Int)) := by
  refine ⟨by rw [flat_len icell_len], .inr ⟨w.heap.size, N, _, by simp, Nat.le_refl _, heap_alloc_new w _, by simp, by unfold maxLen; omega, by simp [size_madeCells], ?_⟩⟩
  rw [icell_flat]
  apply List.ext_getElem
  · simp [madeCells]
  · intro i h1 h2
    simp [madeCells, Nat.mod_one]
set_option maxHeartbeats 1000000 in
theorem impl_areasOfOwners (A : Option Addr) (n c : Nat) (es : List Q4) (w : World) (hmax : n ≤ 1048576) (hok : parcelsOk es = true) (h : Sl w w.heap.size 4 Q4.cells A n es) :
    Calls Try.prog 53 #[.slice A n c] w fun e w' => ∃ v, e = .returned v ∧ Own w' w.heap.size 2 1 icell v (areasOf (·.b) 40 es) ∧ Below w.heap.size w w' := by
  obtain ⟨i0, hi, hz0, hz1, hz2⟩ := info_parts info_i64
  have hmk := make_all Try.underlying34 hi hz0 40 (by rw [hz2]; omega) (by omega)
  rw [hz1] at hmk
  replace hmk : ∀ w, (Instr.makeSlice 34 (.int .i64 40) (.int .i64 40)).run Try.prog w = .ok (.slice (some ⟨w.heap.size, 0, none⟩) 40 40) (w.alloc (.cells (madeCells #[.int .i64 0] 40) 2)) := hmk
  clear hi hz0 hz1 hz2
  have Hn := Lib.hid h.len
  have Hok := Lib.hid hok
  clear hok
  go_enter Try.func53, Try.ntmps53
  go_wp2
  clear hmk
  go_loopw [9] (fun i wr => ∃ k : Nat, k ≤ n ∧ i = .int .i64 k ∧ Hid (Own wr w.heap.size 2 1 icell (.slice (some ⟨w.heap.size, 0, none⟩) 40 40) (areasOf (·.b) 40 (es.take k))) ∧ Below w.heap.size w wr) (fun i _ => n - (intOf i).toNat)
  case atStart => exact ⟨0, by omega, rfl, Lib.hid (by rw [areasOf_zero]; exact own_zeros w _ 40 (by omega)), below_al (Below.refl _ _) _⟩
  case round =>
    obtain ⟨k, hk, rfl, Hown, hbel⟩ := hrel
    by_cases hlt : k < n
    · obtain ⟨b, off, rfl, hb, H⟩ := h.at_ (by omega)
      obtain ⟨e, he⟩ := h.get hlt
      obtain ⟨c0, c1, c2, c3⟩ := (H.below hbel hb).q4 he
      obtain ⟨_, ⟨e1, e2⟩, ⟨e3, e4⟩, _⟩ := parcelOk_iff.1 ((parcels_all Hok.out).2 e (List.mem_of_getElem? he))
      obtain ⟨o, ho⟩ : ∃ o : Nat, e.b = (o : Int) := ⟨e.b.toNat, by omega⟩
      rw [ho] at c1
      have ho40 : o < 40 := by omega
      have d0 := (own_has Hown.out icell_len).i1 (areasOf_get (key := (·.b)) (es := es.take k) ho40)
      obtain ⟨s1, s2⟩ := areas_bd Hok.out (·.b) o k
      rw [Nat.zero_add] at d0
      have hgl : w.heap.size < wr.heap.size := (World.ownsRow.lt Hown.out _ rfl).2
      have hfr := own_free Hown.out o
      have Ho := Lib.hid ho
      have He := Lib.hid he
      clear he ho
      go_wp2
      go_region
      go_wp2
      go_roundw
      case rel =>
        refine ⟨k + 1, by omega, by go_num, Lib.hid ?_, ?_⟩
        · rw [areasOf_succ He.out Ho.out]
          have hst := Own.store (u := .int .i64 (sumBy (fun q => if q.b = (o : Int) then q.c else 0) (es.take k) + e.c)) (j := 0) icell_len Hown.out (areasOf_get (key := (·.b)) (es := es.take k) ho40) (by omega) rfl
          rw [Nat.mul_one, Nat.add_zero] at hst
          exact own_alloc hst _
        · exact below_dr (below_al (below_st hbel _ (Nat.le_refl w.heap.size) _) _)
      case measure => simp [intOf]; omega
    · go_wp2
      go_ret
      have hkn : k = n := by omega
      subst hkn
      have hl : List.take k es = es := List.take_of_length_le (by rw [Hn.out]; omega)
      have ho := Hown.out
      rw [hl] at ho
      exact ⟨_, rfl, ho, hbel⟩
set_option maxHeartbeats 1000000 in
theorem spec_l19Areas (A : Option Addr) (n c : Nat) (es : List Q4) (w : World) (hmax : n ≤ 1048576) (hok : parcelsOk es = true) (h : Sl w w.heap.size 4 Q4.cells A n es) :
    Calls Try.prog 56 #[.slice A n c] w fun e w' => ∃ v, e = .returned v ∧ Own w' w.heap.size 2 1 icell v (areasOf (·.b) 40 es) ∧ Below w.heap.size w w' := by
  obtain ⟨i0, hi, hz0, hz1, hz2⟩ := info_parts info_i64
  have hmk := make_all Try.underlying34 hi hz0 40 (by rw [hz2]; omega) (by omega)
  rw [hz1] at hmk
  replace hmk : ∀ w, (Instr.makeSlice 34 (.int .i64 40) (.int .i64 40)).run Try.prog w = .ok (.slice (some ⟨w.heap.size, 0, none⟩) 40 40) (w.alloc (.cells (madeCells #[.int .i64 0] 40) 2)) := hmk
  clear hi hz0 hz1 hz2
  have Hn := Lib.hid h.len
  have Hok := Lib.hid hok
  clear hok
  go_enter Try.func56, Try.ntmps56
  go_wp2
  clear hmk
  go_loopw [4] (fun i wr => ∃ k : Nat, k ≤ n ∧ i = .int .i64 k ∧ Hid (Own wr w.heap.size 2 1 icell (.slice (some ⟨w.heap.size, 0, none⟩) 40 40) (areasOf (·.b) 40 (es.take k))) ∧ Below w.heap.size w wr) (fun i _ => n - (intOf i).toNat)
  case atStart => exact ⟨0, by omega, rfl, Lib.hid (by rw [areasOf_zero]; exact own_zeros w _ 40 (by omega)), below_al (Below.refl _ _) _⟩
  case round =>
    obtain ⟨k, hk, rfl, Hown, hbel⟩ := hrel
    by_cases hlt : k < n
    · obtain ⟨b, off, rfl, hb, H⟩ := h.at_ (by omega)
      obtain ⟨e, he⟩ := h.get hlt
      obtain ⟨c0, c1, c2, c3⟩ := (H.below hbel hb).q4 he
      obtain ⟨_, ⟨e1, e2⟩, ⟨e3, e4⟩, _⟩ := parcelOk_iff.1 ((parcels_all Hok.out).2 e (List.mem_of_getElem? he))
      obtain ⟨o, ho⟩ : ∃ o : Nat, e.b = (o : Int) := ⟨e.b.toNat, by omega⟩
      rw [ho] at c1
      have ho40 : o < 40 := by omega
      have d0 := (own_has Hown.out icell_len).i1 (areasOf_get (key := (·.b)) (es := es.take k) ho40)
      obtain ⟨s1, s2⟩ := areas_bd Hok.out (·.b) o k
      rw [Nat.zero_add] at d0
      have hgl : w.heap.size < wr.heap.size := (World.ownsRow.lt Hown.out _ rfl).2
      have hfr := own_free Hown.out o
      have Ho := Lib.hid ho
      have He := Lib.hid he
      clear he ho
      go_wp2
      go_region
      go_wp2
      go_roundw
      case rel =>
        refine ⟨k + 1, by omega, by go_num, Lib.hid ?_, ?_⟩
        · rw [areasOf_succ He.out Ho.out]
          have hst := Own.store (u := .int .i64 (sumBy (fun q => if q.b = (o : Int) then q.c else 0) (es.take k) + e.c)) (j := 0) icell_len Hown.out (areasOf_get (key := (·.b)) (es := es.take k) ho40) (by omega) rfl
          rw [Nat.mul_one, Nat.add_zero] at hst
          exact hst
        · exact below_dr (below_st hbel _ (Nat.le_refl w.heap.size) _)
      case measure => simp [intOf]; omega
    · go_wp2
      go_ret
      have hkn : k = n := by omega
      subst hkn
      have hl : List.take k es = es := List.take_of_length_le (by rw [Hn.out]; omega)
      have ho := Hown.out
      rw [hl] at ho
      exact ⟨_, rfl, ho, hbel⟩

end Go.Proofs.Ytiibamemkmffoaa

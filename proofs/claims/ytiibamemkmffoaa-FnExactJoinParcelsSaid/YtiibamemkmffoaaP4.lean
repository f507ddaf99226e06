/- Walks over functions of this seat, by contract. Conditions: those that each theorem states. -/
import Derived.Test.YtiibamemkmffoaaP3
namespace Go.Proofs.Ytiibamemkmffoaa
open Go.RowKit Go.Sort

def areasCode (es : List Q4) : Int := if parcelsOk es = true then 0 else 1
def ownersOut (es : List Q4) : List Int := if parcelsOk es = true then areasOf (·.b) 40 es else []
def classesOut (es : List Q4) : List Int := if parcelsOk es = true then areasOf (·.d) 4 es else []
theorem idsCode_nil (es : List Q4) : idsCode es [] = areasCode es := by unfold idsCode areasCode; cases parcelsOk es <;> simp
theorem impl_AreasOfOwners (A : Option Addr) (n c : Nat) (es : List Q4) (w : World) (hmax : n ≤ 1048576) (h : Sl w w.heap.size 4 Q4.cells A n es) :
    Calls Try.prog 34 #[.slice A n c] w fun e w' => ∃ v, e = .returned (.tuple #[v, .int .i64 (areasCode es)]) ∧ Own w' w.heap.size 2 1 icell v (ownersOut es) ∧ Below w.heap.size w w' := by
  by_cases k1 : parcelsOk es = true
  · have hc : areasCode es = 0 := by simp [areasCode, k1]
    have hr : ownersOut es = areasOf (·.b) 40 es := by simp [ownersOut, k1]
    have hk0 : idsCode es [] = 0 := by rw [idsCode_nil, hc]
    rw [hc, hr]
    go_enter Try.func34, Try.ntmps34
    go_wp2_with (first
      | (go_at_call 51; refine (impl_parcelsCode _ _ _ es _ _ _ [] _ hmax (by omega) h (Sl.nil_ _ _ _ _ _)).mono ?_; rintro e w1 ⟨rfl, hb1⟩; rw [hk0])
      | (go_at_call 53; refine (impl_areasOfOwners _ _ _ es _ hmax k1 (h.on hb1)).mono ?_; rintro e w2 ⟨v2, rfl, ho2, hb2⟩))
    go_ret2
    exact ⟨_, rfl, ho2.base_le hb1.size, below_then hb1 hb2⟩
  · have hc : areasCode es = 1 := by simp [areasCode, k1]
    have hr : ownersOut es = [] := by simp [ownersOut, k1]
    have hk0 : idsCode es [] = 1 := by rw [idsCode_nil, hc]
    rw [hc, hr]
    go_enter Try.func34, Try.ntmps34
    go_wp2_with (go_at_call 51; refine (impl_parcelsCode _ _ _ es _ _ _ [] _ hmax (by omega) h (Sl.nil_ _ _ _ _ _)).mono ?_; rintro e w1 ⟨rfl, hb1⟩; rw [hk0])
    go_ret2
    exact ⟨_, rfl, own_new_empty _ _ _ _ _ hb1.size, below_al hb1 _⟩
theorem spec_AreasOfOwners (A : Option Addr) (n c : Nat) (es : List Q4) (w : World) (hmax : n ≤ 1048576) (h : Sl w w.heap.size 4 Q4.cells A n es) :
    Calls Try.prog 33 #[.slice A n c] w fun e w' => ∃ v, e = .returned (.tuple #[v, .int .i64 (areasCode es)]) ∧ Own w' w.heap.size 2 1 icell v (ownersOut es) ∧ Below w.heap.size w w' := by
  by_cases k1 : parcelsOk es = true
  · have hc : areasCode es = 0 := by simp [areasCode, k1]
    have hr : ownersOut es = areasOf (·.b) 40 es := by simp [ownersOut, k1]
    rw [hc, hr]
    go_enter Try.func33, Try.ntmps33
    go_wp2_with (first
      | (go_at_call 47; refine (spec_l19Ok _ _ _ es _ hmax h).mono ?_; rintro e w1 ⟨rfl, hb1⟩; rw [k1])
      | (go_at_call 56; refine (spec_l19Areas _ _ _ es _ hmax k1 (h.on hb1)).mono ?_; rintro e w2 ⟨v2, rfl, ho2, hb2⟩))
    go_ret2
    exact ⟨_, rfl, ho2.base_le hb1.size, below_then hb1 hb2⟩
  · have hc : areasCode es = 1 := by simp [areasCode, k1]
    have hr : ownersOut es = [] := by simp [ownersOut, k1]
    have k1' : parcelsOk es = false := by simpa using k1
    rw [hc, hr]
    go_enter Try.func33, Try.ntmps33
    go_wp2_with (go_at_call 47; refine (spec_l19Ok _ _ _ es _ hmax h).mono ?_; rintro e w1 ⟨rfl, hb1⟩; rw [k1'])
    go_ret2
    exact ⟨_, rfl, own_nil _ _ _ _ _, hb1⟩
set_option maxHeartbeats 1000000 in
theorem impl_AreasOfClasses (A : Option Addr) (n c : Nat) (es : List Q4) (w : World) (hmax : n ≤ 1048576) (h : Sl w w.heap.size 4 Q4.cells A n es) :
    Calls Try.prog 28 #[.slice A n c] w fun e w' => ∃ v, e = .returned (.tuple #[v, .int .i64 (areasCode es)]) ∧ Own w' w.heap.size 2 1 icell v (classesOut es) ∧ Below w.heap.size w w' := by
  by_cases k1 : parcelsOk es = true
  · have hc : areasCode es = 0 := by simp [areasCode, k1]
    have hr : classesOut es = areasOf (·.d) 4 es := by simp [classesOut, k1]
    have hk0 : idsCode es [] = 0 := by rw [idsCode_nil, hc]
    rw [hc, hr]
    obtain ⟨i0, hi, hz0, hz1, hz2⟩ := info_parts info_i64
    have hmk := make_all Try.underlying34 hi hz0 4 (by rw [hz2]; omega) (by omega)
    rw [hz1] at hmk
    replace hmk : ∀ w, (Instr.makeSlice 34 (.int .i64 4) (.int .i64 4)).run Try.prog w = .ok (.slice (some ⟨w.heap.size, 0, none⟩) 4 4) (w.alloc (.cells (madeCells #[.int .i64 0] 4) 2)) := hmk
    clear hi hz0 hz1 hz2 hc hr
    have Hn := Lib.hid h.len
    have Hok := Lib.hid k1
    go_enter Try.func28, Try.ntmps28
    go_wp2_with (go_at_call 51; refine (impl_parcelsCode _ _ _ es _ _ _ [] _ hmax (by omega) h (Sl.nil_ _ _ _ _ _)).mono ?_; rintro e w1 ⟨rfl, hb1⟩; rw [hk0])
    clear hmk
    have hb1s := hb1.size
    go_loopw [17] (fun i wr => ∃ k : Nat, k ≤ n ∧ i = .int .i64 k ∧ Hid (Own wr w.heap.size 2 1 icell (.slice (some ⟨w1.heap.size, 0, none⟩) 4 4) (areasOf (·.d) 4 (es.take k))) ∧ Below w.heap.size w wr) (fun i _ => n - (intOf i).toNat)
    case atStart => exact ⟨0, by omega, rfl, Lib.hid (by rw [areasOf_zero]; exact (own_zeros w1 _ 4 (by omega)).base_le hb1.size), below_al hb1 _⟩
    case round =>
      obtain ⟨k, hk, rfl, Hown, hbel⟩ := hrel
      by_cases hlt : k < n
      · obtain ⟨b, off, rfl, hb, H⟩ := h.at_ (by omega)
        obtain ⟨e, he⟩ := h.get hlt
        obtain ⟨c0, c1, c2, c3⟩ := (H.below hbel hb).q4 he
        obtain ⟨_, _, ⟨e3, e4⟩, e1, e2⟩ := parcelOk_iff.1 ((parcels_all Hok.out).2 e (List.mem_of_getElem? he))
        obtain ⟨o, ho⟩ : ∃ o : Nat, e.d = (o : Int) := ⟨e.d.toNat, by omega⟩
        rw [ho] at c3
        have ho40 : o < 4 := by omega
        have d0 := (own_has Hown.out icell_len).i1 (areasOf_get (key := (·.d)) (es := es.take k) ho40)
        obtain ⟨s1, s2⟩ := areas_bd Hok.out (·.d) o k
        rw [Nat.zero_add] at d0
        have hgl : w1.heap.size < wr.heap.size := (World.ownsRow.lt Hown.out _ rfl).2
        have hfr := own_free Hown.out o
        have Ho := Lib.hid ho
        have He := Lib.hid he
        clear he ho
        go_wp2
        go_region
        go_wp2
        go_roundw
        case rel =>
          refine ⟨k + 1, by omega, by go_num, Lib.hid ?_, ?_⟩
          · rw [areasOf_succ He.out Ho.out]
            have hst := Own.store (u := .int .i64 (sumBy (fun q => if q.d = (o : Int) then q.c else 0) (es.take k) + e.c)) (j := 0) icell_len Hown.out (areasOf_get (key := (·.d)) (es := es.take k) ho40) (by omega) rfl
            rw [Nat.mul_one, Nat.add_zero] at hst
            exact own_alloc hst _
          · exact below_dr (below_al (below_st hbel _ hb1s _) _)
        case measure => simp [intOf]; omega
      · go_wp2
        go_ret2
        have hkn : k = n := by omega
        subst hkn
        have hl : List.take k es = es := List.take_of_length_le (by rw [Hn.out]; omega)
        have ho := Hown.out
        rw [hl] at ho
        exact ⟨_, rfl, ho, hbel⟩
  · have hc : areasCode es = 1 := by simp [areasCode, k1]
    have hr : classesOut es = [] := by simp [classesOut, k1]
    have hk0 : idsCode es [] = 1 := by rw [idsCode_nil, hc]
    have k1' : parcelsOk es = false := by simpa using k1
    rw [hc, hr]
    go_enter Try.func28, Try.ntmps28
    go_wp2_with (go_at_call 51; refine (impl_parcelsCode _ _ _ es _ _ _ [] _ hmax (by omega) h (Sl.nil_ _ _ _ _ _)).mono ?_; rintro e w1 ⟨rfl, hb1⟩; rw [hk0])
    go_ret2
    exact ⟨_, rfl, own_new_empty _ _ _ _ _ hb1.size, below_al hb1 _⟩
set_option maxHeartbeats 1000000 in
theorem spec_AreasOfClasses (A : Option Addr) (n c : Nat) (es : List Q4) (w : World) (hmax : n ≤ 1048576) (h : Sl w w.heap.size 4 Q4.cells A n es) :
    Calls Try.prog 27 #[.slice A n c] w fun e w' => ∃ v, e = .returned (.tuple #[v, .int .i64 (areasCode es)]) ∧ Own w' w.heap.size 2 1 icell v (classesOut es) ∧ Below w.heap.size w w' := by
  by_cases k1 : parcelsOk es = true
  · have hc : areasCode es = 0 := by simp [areasCode, k1]
    have hr : classesOut es = areasOf (·.d) 4 es := by simp [classesOut, k1]
    have hk0 : idsCode es [] = 0 := by rw [idsCode_nil, hc]
    rw [hc, hr]
    obtain ⟨i0, hi, hz0, hz1, hz2⟩ := info_parts info_i64
    have hmk := make_all Try.underlying34 hi hz0 4 (by rw [hz2]; omega) (by omega)
    rw [hz1] at hmk
    replace hmk : ∀ w, (Instr.makeSlice 34 (.int .i64 4) (.int .i64 4)).run Try.prog w = .ok (.slice (some ⟨w.heap.size, 0, none⟩) 4 4) (w.alloc (.cells (madeCells #[.int .i64 0] 4) 2)) := hmk
    clear hi hz0 hz1 hz2 hc hr
    have Hn := Lib.hid h.len
    have Hok := Lib.hid k1
    go_enter Try.func27, Try.ntmps27
    go_wp2_with (go_at_call 47; refine (spec_l19Ok _ _ _ es _ hmax h).mono ?_; rintro e w1 ⟨rfl, hb1⟩; rw [k1])
    clear hmk
    have hb1s := hb1.size
    go_loopw [5] (fun i wr => ∃ k : Nat, k ≤ n ∧ i = .int .i64 k ∧ Hid (Own wr w.heap.size 2 1 icell (.slice (some ⟨w1.heap.size, 0, none⟩) 4 4) (areasOf (·.d) 4 (es.take k))) ∧ Below w.heap.size w wr) (fun i _ => n - (intOf i).toNat)
    case atStart => exact ⟨0, by omega, rfl, Lib.hid (by rw [areasOf_zero]; exact (own_zeros w1 _ 4 (by omega)).base_le hb1.size), below_al hb1 _⟩
    case round =>
      obtain ⟨k, hk, rfl, Hown, hbel⟩ := hrel
      by_cases hlt : k < n
      · obtain ⟨b, off, rfl, hb, H⟩ := h.at_ (by omega)
        obtain ⟨e, he⟩ := h.get hlt
        obtain ⟨c0, c1, c2, c3⟩ := (H.below hbel hb).q4 he
        obtain ⟨_, _, ⟨e3, e4⟩, e1, e2⟩ := parcelOk_iff.1 ((parcels_all Hok.out).2 e (List.mem_of_getElem? he))
        obtain ⟨o, ho⟩ : ∃ o : Nat, e.d = (o : Int) := ⟨e.d.toNat, by omega⟩
        rw [ho] at c3
        have ho40 : o < 4 := by omega
        have d0 := (own_has Hown.out icell_len).i1 (areasOf_get (key := (·.d)) (es := es.take k) ho40)
        obtain ⟨s1, s2⟩ := areas_bd Hok.out (·.d) o k
        rw [Nat.zero_add] at d0
        have hgl : w1.heap.size < wr.heap.size := (World.ownsRow.lt Hown.out _ rfl).2
        have hfr := own_free Hown.out o
        have Ho := Lib.hid ho
        have He := Lib.hid he
        clear he ho
        go_wp2
        go_region
        go_wp2
        go_roundw
        case rel =>
          refine ⟨k + 1, by omega, by go_num, Lib.hid ?_, ?_⟩
          · rw [areasOf_succ He.out Ho.out]
            have hst := Own.store (u := .int .i64 (sumBy (fun q => if q.d = (o : Int) then q.c else 0) (es.take k) + e.c)) (j := 0) icell_len Hown.out (areasOf_get (key := (·.d)) (es := es.take k) ho40) (by omega) rfl
            rw [Nat.mul_one, Nat.add_zero] at hst
            exact hst
          · exact below_dr (below_st hbel _ hb1s _)
        case measure => simp [intOf]; omega
      · go_wp2
        go_ret2
        have hkn : k = n := by omega
        subst hkn
        have hl : List.take k es = es := List.take_of_length_le (by rw [Hn.out]; omega)
        have ho := Hown.out
        rw [hl] at ho
        exact ⟨_, rfl, ho, hbel⟩
  · have hc : areasCode es = 1 := by simp [areasCode, k1]
    have hr : classesOut es = [] := by simp [classesOut, k1]
    have hk0 : idsCode es [] = 1 := by rw [idsCode_nil, hc]
    have k1' : parcelsOk es = false := by simpa using k1
    rw [hc, hr]
    go_enter Try.func27, Try.ntmps27
    go_wp2_with (go_at_call 47; refine (spec_l19Ok _ _ _ es _ hmax h).mono ?_; rintro e w1 ⟨rfl, hb1⟩; rw [k1'])
    go_ret2
    exact ⟨_, rfl, own_nil _ _ _ _ _, hb1⟩

end Go.Proofs.Ytiibamemkmffoaa

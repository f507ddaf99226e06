/- Walks over functions of this seat, by contract. Conditions: those that each theorem states. -/
import Derived.Test.YtiibamemkmffoaaP6
namespace Go.Proofs.Ytiibamemkmffoaa
open Go.RowKit Go.Sort

def largeCode (es : List Q4) : Int := if parcelsOk es = false then 1 else if es.length = 0 then 3 else 0
def largeP (xs : List Int) (i : Nat) : Bool := xs[i]? == some (gmax xs)
def largeOf (es : List Q4) : Int := if largeCode es = 0 then ((idxs (largeP (areasOf (·.b) 40 es)) 40)[0]?).getD 0 else 0
theorem largeOf_pos {es : List Q4} (h : largeCode es = 0) : largeOf es = ((idxs (largeP (areasOf (·.b) 40 es)) 40)[0]?).getD 0 := if_pos h
theorem largeOf_neg {es : List Q4} (h : largeCode es ≠ 0) : largeOf es = 0 := if_neg h
theorem firstMax_one {xs : List Int} {x : Int} (h : xs[0]? = some x) : firstMax xs 1 0 :=
  ⟨by omega, x, h, fun j y hj hy => by have : j = 0 := by omega
                                       subst this; rw [h] at hy; injection hy with hy; omega, fun j y hj => by omega⟩
theorem firstMax_up {xs : List Int} {k p : Nat} {x y : Int} (h : firstMax xs k p) (hp : xs[p]? = some y) (hk : xs[k]? = some x) (hlt : y < x) : firstMax xs (k + 1) k := by
  obtain ⟨hpk, m, hm, h1, h2⟩ := h
  rw [hp] at hm; injection hm with hm; subst hm
  refine ⟨by omega, x, hk, fun j z hj hz => ?_, fun j z hj hz => ?_⟩
  · rcases Nat.lt_or_ge j k with h3 | h3
    · have := h1 j z h3 hz; omega
    · have : j = k := by omega
      subst this; rw [hk] at hz; injection hz with hz; omega
  · have := h1 j z hj hz; omega
theorem firstMax_no {xs : List Int} {k p : Nat} {x y : Int} (h : firstMax xs k p) (hp : xs[p]? = some y) (hk : xs[k]? = some x) (hle : x ≤ y) : firstMax xs (k + 1) p := by
  obtain ⟨hpk, m, hm, h1, h2⟩ := h
  rw [hp] at hm; injection hm with hm; subst hm
  refine ⟨by omega, y, hp, fun j z hj hz => ?_, h2⟩
  rcases Nat.lt_or_ge j k with h3 | h3
  · exact h1 j z h3 hz
  · have : j = k := by omega
    subst this; rw [hk] at hz; injection hz with hz; omega
theorem impl_LargestOwner_1 (i : Nat) (g0 : Nat) (A : Option Addr) (n c : Nat) (xs : List Int) (W : World) (hi : i < n) (hmax : n ≤ 1048576)
    (x0 : W.cell? ⟨g0, 0, none⟩ = some (.slice A n c)) (h : Sl W W.heap.size 1 icell A n xs) :
    Calls Try.prog 58 #[.int .i64 i, .pointer (some ⟨g0, 0, none⟩)] W fun e w' => e = .returned (.bool (largeP xs i)) ∧ Below W.heap.size W w' := by
  obtain ⟨b, off, rfl, hb, H⟩ := h.at_ (by omega)
  obtain ⟨e, he⟩ := h.get hi
  have c0 := H.i1 he
  have hr : largeP xs i = (e == gmax xs) := by simp [largeP, he]
  rw [hr]
  clear hr he
  go_enter Try.func58, Try.ntmps58
  have z0 := fun d os => cell_regrown x0 d os
  have y0 := fun d os => cell_regrown c0 d os
  go_wp2_with fail
  refine wp_region_quiet_below (by kernel_rfl) (by kernel_rfl) ?_
  repeat (go_big_quiet_step (exact Calls.regrown_of (impl_greatest _ _ _ xs _ hmax (by omega) (h.on (below_regrown _ _ _)))))
  refine wpQuiet_nil ?_
  intro wq hwq
  have hbq := below_of_class hwq
  clear hwq
  go_wp2
  go_ret
  exact ⟨rfl, hbq⟩
set_option maxHeartbeats 400000 in
theorem impl_LargestOwner (A : Option Addr) (n c : Nat) (es : List Q4) (w : World) (hmax : n ≤ 1048576) (h : Sl w w.heap.size 4 Q4.cells A n es) :
    Calls Try.prog 26 #[.slice A n c] w fun e w' => e = .returned (.tuple #[.int .i64 (largeOf es), .int .i64 (largeCode es)]) ∧ Below w.heap.size w w' := by
  by_cases k1 : parcelsOk es = true
  · have hk0 : idsCode es [] = 0 := by rw [idsCode_nil]; simp [areasCode, k1]
    by_cases k2 : n = 0
    · have hc : largeCode es = 3 := by simp [largeCode, k1, h.len, k2]
      have hr : largeOf es = 0 := largeOf_neg (by omega)
      have hn0 : ((n : Int) == 0) = true := by simp [k2]
      rw [hc, hr]
      clear hc hr k2
      go_enter Try.func26, Try.ntmps26
      go_wp2_with (go_at_call 51; refine (impl_parcelsCode _ _ _ es _ _ _ [] _ hmax (by omega) h (Sl.nil_ _ _ _ _ _)).mono ?_; rintro e w1 ⟨rfl, hb1⟩; rw [hk0])
      go_ret2
      exact ⟨rfl, hb1⟩
    · have hc : largeCode es = 0 := by simp [largeCode, k1, h.len, k2]
      have hn0 : ((n : Int) == 0) = false := by simpa using k2
      clear k2
      rw [hc]
      obtain ⟨xs, hxs⟩ : ∃ xs, xs = areasOf (·.b) 40 es := ⟨_, rfl⟩
      have hxl : xs.length = 40 := by rw [hxs, areasOf_len]
      have hr : largeOf es = ((idxs (largeP xs) 40)[0]?).getD 0 := by rw [largeOf_pos hc, hxs]
      rw [hr]
      clear hc hr
      go_enter Try.func26, Try.ntmps26
      go_wp2_with (first
        | (go_at_call 51; refine (impl_parcelsCode _ _ _ es _ _ _ [] _ hmax (by omega) h (Sl.nil_ _ _ _ _ _)).mono ?_; rintro e w1 ⟨rfl, hb1⟩; rw [hk0])
        | (go_at_call 53; refine (impl_areasOfOwners _ _ _ es _ hmax k1 (h.on hb1)).mono ?_; rintro e w2 ⟨v2, rfl, ho2, hb2⟩; rw [← hxs] at ho2; obtain ⟨g2, c2, rfl, hg1, hg2, hfr⟩ := own_block_of ho2 hxl (by omega)))
      have Hs := own_sl ho2 icell_len
      have hcall : ∀ args W, (callFunc 58 args).run Try.prog W = .ok (.enter 58 args) W := fun _ _ => by kernel_rfl
      have hal := below_al (Below.refl w2.heap.size w2) (.cells #[.slice (some ⟨g2, 0, none⟩) 40 c2] 34)
      have x0 : (w2.alloc (.cells #[.slice (some ⟨g2, 0, none⟩) 40 c2] 34)).cell? ⟨w2.heap.size, 0, none⟩ = some (.slice (some ⟨g2, 0, none⟩) 40 c2) := by
        rw [cell_of_row _ _ _ _ _ (0, 0) (heap_alloc_new w2 _)]; rfl
      refine (impl_indicesWhere 58 _ 40 (largeP xs) _ (by omega) hcall (fun i W hi hW => ?_)).mono ?_
      · exact impl_LargestOwner_1 i _ _ 40 c2 xs W hi (by omega) (cell_on x0 hW (by simp)) ((Hs.on hal).on hW)
      rintro e w3 ⟨v3, rfl, ho3, hb3⟩
      obtain ⟨k, hk, hx⟩ := List.mem_iff_getElem.1 (gmax_mem (xs := xs) (by omega))
      have hne : ∃ q : Nat, (idxs (largeP xs) 40)[0]? = some (q : Int) := by
        have hf : xs.findIdx (fun x => x == gmax xs) < xs.length := List.findIdx_lt_length_of_exists ⟨xs[k], List.getElem_mem hk, by simp [hx]⟩
        refine ⟨xs.findIdx (fun x => x == gmax xs), idxs_first (by omega) ?_ fun j hj => ?_⟩
        · have := List.findIdx_getElem (w := hf)
          simp only [largeP, List.getElem?_eq_getElem hf]
          simpa using this
        · have := List.not_of_lt_findIdx hj
          simp only [largeP, List.getElem?_eq_getElem (Nat.lt_trans hj hf)]
          simpa using this
      obtain ⟨q, hq⟩ := hne
      have hpos : 0 < (idxs (largeP xs) 40).length := (List.getElem?_eq_some_iff.1 hq).1
      obtain ⟨m, hm⟩ : ∃ m, m = (idxs (largeP xs) 40).length := ⟨_, rfl⟩
      obtain ⟨g3, c3, rfl, hg3, hg4, _⟩ := own_block_of ho3 hm.symm (by omega)
      have y0 := (own_has ho3 icell_len).i1 hq
      simp only [Nat.add_zero] at y0
      have hm0 : 0 < m := by omega
      have Hq := Lib.hid hq
      clear hq hm hpos hx hk ho3 ho2 Hs
      go_wp2
      go_ret2
      exact ⟨by rw [Hq.out]; rfl, below_then (below_then (below_then hb1 hb2) hal) hb3⟩
  · have hk0 : idsCode es [] = 1 := by rw [idsCode_nil]; simp [areasCode, k1]
    have hc : largeCode es = 1 := by simp [largeCode, k1]
    have hr : largeOf es = 0 := largeOf_neg (by omega)
    rw [hc, hr]
    go_enter Try.func26, Try.ntmps26
    go_wp2_with (go_at_call 51; refine (impl_parcelsCode _ _ _ es _ _ _ [] _ hmax (by omega) h (Sl.nil_ _ _ _ _ _)).mono ?_; rintro e w1 ⟨rfl, hb1⟩; rw [hk0])
    go_ret2
    exact ⟨rfl, hb1⟩
set_option maxHeartbeats 400000 in
theorem spec_LargestOwner (A : Option Addr) (n c : Nat) (es : List Q4) (w : World) (hmax : n ≤ 1048576) (h : Sl w w.heap.size 4 Q4.cells A n es) :
    Calls Try.prog 25 #[.slice A n c] w fun e w' => e = .returned (.tuple #[.int .i64 (largeOf es), .int .i64 (largeCode es)]) ∧ Below w.heap.size w w' := by
  by_cases k1 : parcelsOk es = true
  · by_cases k2 : n = 0
    · have hc : largeCode es = 3 := by simp [largeCode, k1, h.len, k2]
      have hr : largeOf es = 0 := largeOf_neg (by omega)
      have hn0 : ((n : Int) == 0) = true := by simp [k2]
      rw [hc, hr]
      clear hc hr k2
      go_enter Try.func25, Try.ntmps25
      go_wp2_with (go_at_call 47; refine (spec_l19Ok _ _ _ es _ hmax h).mono ?_; rintro e w1 ⟨rfl, hb1⟩; rw [k1])
      go_ret2
      exact ⟨rfl, hb1⟩
    · have hc : largeCode es = 0 := by simp [largeCode, k1, h.len, k2]
      have hn0 : ((n : Int) == 0) = false := by simpa using k2
      clear k2
      rw [hc]
      obtain ⟨xs, hxs⟩ : ∃ xs, xs = areasOf (·.b) 40 es := ⟨_, rfl⟩
      have hxl : xs.length = 40 := by rw [hxs, areasOf_len]
      have hr : largeOf es = ((idxs (largeP xs) 40)[0]?).getD 0 := by rw [largeOf_pos hc, hxs]
      rw [hr]
      clear hc hr
      go_enter Try.func25, Try.ntmps25
      go_wp2_with (first
        | (go_at_call 47; refine (spec_l19Ok _ _ _ es _ hmax h).mono ?_; rintro e w1 ⟨rfl, hb1⟩; rw [k1])
        | (go_at_call 56; refine (spec_l19Areas _ _ _ es _ hmax k1 (h.on hb1)).mono ?_; rintro e w2 ⟨v2, rfl, ho2, hb2⟩; rw [← hxs] at ho2; obtain ⟨g2, c2, rfl, hg1, hg2, hfr⟩ := own_block_of ho2 hxl (by omega)))
      clear k1 hxs
      have Hx := Lib.hid hxl
      have hbel2 := below_then hb1 hb2
      have Hs := own_sl ho2 icell_len
      clear hxl hb1 hb2
      go_loopw [5, 6] (fun p i wr => ∃ (k q : Nat), k ≤ 40 ∧ q < 40 ∧ i = .int .i64 k ∧ p = .int .i64 q ∧ Hid (firstMax xs k q) ∧ Below w2.heap.size w2 wr) (fun _ i _ => 40 - (intOf i).toNat)
      case atStart => exact ⟨1, 0, by omega, by omega, rfl, rfl, Lib.hid (firstMax_one (List.getElem?_eq_getElem (by rw [Hx.out]; omega))), Below.refl _ _⟩
      case round =>
        obtain ⟨k, q, hk, hq, rfl, rfl, Hf, hbel⟩ := hrel
        by_cases hlt : k < 40
        · obtain ⟨x, hx⟩ := Hs.get hlt
          obtain ⟨y, hy⟩ := Hs.get hq
          have c0 := (own_has (Own.below ho2 hbel (Nat.le_refl _)) icell_len).i1c (Nat.lt_of_lt_of_le hg2 hbel.size) hx
          have d0 := (own_has (Own.below ho2 hbel (Nat.le_refl _)) icell_len).i1c (Nat.lt_of_lt_of_le hg2 hbel.size) hy
          simp only [Nat.zero_add] at c0 d0
          have Hxx := Lib.hid hx
          have Hyy := Lib.hid hy
          clear hx hy
          go_wp2_with fail
          refine wp_region_quiet_below (by kernel_rfl) (by kernel_rfl) ?_
          repeat (go_big_quiet_step (fail))
          refine wpQuiet_nil ?_
          intro wq hwq
          have hbq := below_then hbel (below_of_class hwq)
          clear hwq c0 d0
          go_wp2
          · have hgt : y < x := by assumption
            go_roundw
            case rel => exact ⟨k + 1, k, by omega, by omega, by go_num, rfl, Lib.hid (firstMax_up Hf.out Hyy.out Hxx.out hgt), hbq⟩
            case measure => simp [intOf]; omega
          · have hgt : x ≤ y := by omega
            go_roundw
            case rel => exact ⟨k + 1, q, by omega, by omega, by go_num, rfl, Lib.hid (firstMax_no Hf.out Hyy.out Hxx.out hgt), hbq⟩
            case measure => simp [intOf]; omega
        · go_wp2
          go_ret2
          have hkn : k = 40 := by omega
          subst hkn
          have hr : ((idxs (largeP xs) 40)[0]?).getD 0 = (q : Int) := by
            have hz : (idxs (largeP xs) 40)[0]? = some (q : Int) := firstMax_idxs Hf.out Hx.out
            rw [hz]; rfl
          exact ⟨by rw [hr]; rfl, below_then hbel2 hbel⟩
  · have k1' : parcelsOk es = false := by simpa using k1
    have hc : largeCode es = 1 := by simp [largeCode, k1]
    have hr : largeOf es = 0 := largeOf_neg (by omega)
    rw [hc, hr]
    go_enter Try.func25, Try.ntmps25
    go_wp2_with (go_at_call 47; refine (spec_l19Ok _ _ _ es _ hmax h).mono ?_; rintro e w1 ⟨rfl, hb1⟩; rw [k1'])
    go_ret2
    exact ⟨rfl, hb1⟩

end Go.Proofs.Ytiibamemkmffoaa

/- Walks over functions of this seat, by contract. Conditions: those that each theorem states. -/
import Derived.Test.YthjdodamfinhaaaGa
import Derived.Test.YthjdodamfinhaaaStp
import Derived.IntWalk
namespace Go.Proofs.Ythjdodamfinhaaa
open Go.RowKit Go.Sort

theorem info_i64 : (Try.prog.info? 2).map (fun i => (i.zero, i.size, i.bytes)) = some (some (.int .i64 0), 1, 8) := by kernel_rfl
theorem impl_size_impl.Guard (A : Option Addr) (n c : Nat) (w : World) (_hn : n ≤ 9223372036854775807) : Calls Try.prog 86 #[.slice A n c] w fun e w' => e = .returned (.int .i64 n) ∧ w = w' := by
  go_enter Try.func86, Try.ntmps86
  go_wp2
  go_ret
  exact ⟨rfl, rfl⟩
theorem impl_size_int64 (A : Option Addr) (n c : Nat) (w : World) (_hn : n ≤ 9223372036854775807) : Calls Try.prog 82 #[.slice A n c] w fun e w' => e = .returned (.int .i64 n) ∧ w = w' := by
  go_enter Try.func82, Try.ntmps82
  go_wp2
  go_ret
  exact ⟨rfl, rfl⟩
set_option maxHeartbeats 400000 in
set_option maxRecDepth 100000 in
theorem impl_indicesWhere (g : Nat) (caps : Array Value) (n : Nat) (p : Nat → Bool) (w : World) (hmax : n ≤ 1048576) (hcall : ∀ args W, (callFunc g args).run Try.prog W = .ok (.enter g args) W)
    (hso : ∀ (i : Nat) (W : World), i < n → Below w.heap.size w W → Calls Try.prog g (#[.int .i64 i] ++ caps) W fun e w' => e = .returned (.bool (p i)) ∧ Below W.heap.size W w') :
    Calls Try.prog 85 #[.int .i64 n, .func (.func g) #[] caps] w fun e w' => ∃ v, e = .returned v ∧ Own w' w.heap.size 2 1 icell v (idxs p n) ∧ Below w.heap.size w w' := by
  obtain ⟨i0, hi, hz0, hz1, hz2⟩ := info_parts info_i64
  have HSO := Lib.hid hso
  clear hso
  go_enter Try.func85, Try.ntmps85
  go_wp2
  go_loopw [5, 6] (fun v i wr => ∃ k : Nat, k ≤ n ∧ i = .int .i64 k ∧ Own wr w.heap.size 2 1 icell v (idxs p k) ∧ Below w.heap.size w wr) (fun _ i _ => n - (intOf i).toNat)
  case atStart => exact ⟨0, by omega, rfl, own_new_empty _ _ _ _ _ (Nat.le_refl _), below_al (Below.refl _ _) _⟩
  case round =>
    obtain ⟨k, hk, rfl, hown, hbel⟩ := hrel
    have Hown := Lib.hid hown
    have hll := idxs_len p k
    clear hown
    by_cases hlt : k < n
    · go_wp2_with (first
        | (at_builtin; refine wpList_push rfl _ _ 39 rfl w.heap.size 2 i0 (.int .i64 0) 1 8 Try.underlying39 hi hz0 hz1 hz2 rfl (by omega) icell_len (fun e u hu => by simp [icell] at hu; subst hu; rfl) _ _ (k : Int) rfl (Hown.out.below hb1 (Nat.le_refl _)) _ rfl _ rfl (by first | rfl | simp) (by omega) (by omega) (by have := hbel.size; have := hb1.size; omega) ?_; intro v2 w2 ho2 hg2; have hbel2 := own_grown (below_then hbel hb1) (Hown.out.below hb1 (Nat.le_refl _)) (Nat.le_refl _) (Nat.le_trans hbel.size hb1.size) hg2; have Ho2 := Lib.hid ho2; clear ho2)
        | (refine (HSO.out k _ hlt hbel).mono ?_; rintro e w1 ⟨rfl, hb1⟩))
      · have hp : p k = true := by assumption
        go_roundw
        case rel => exact ⟨k + 1, by omega, by go_num, by rw [idxs_yes hp]; exact Ho2.out, hbel2⟩
        case measure => simp [intOf]; omega
      · have hp : p k = false := by assumption
        go_roundw
        case rel => exact ⟨k + 1, by omega, by go_num, by rw [idxs_no hp]; exact Hown.out.below hb1 (Nat.le_refl _), below_then hbel hb1⟩
        case measure => simp [intOf]; omega
    · go_wp2
      go_ret
      have hkn : k = n := by omega
      subst hkn
      exact ⟨_, rfl, Hown.out, hbel⟩
theorem impl_guardsAt_1 (i : Nat) (g0 g1 : Nat) (A : Option Addr) (n c : Nat) (es : List G3) (m : Int) (W : World) (hi : i < n) (hmax : n ≤ 1048576) (hok : guardsOk es = true)
    (x0 : W.cell? ⟨g0, 0, none⟩ = some (.slice A n c)) (x1 : W.cell? ⟨g1, 0, none⟩ = some (.int .i64 m)) (h : Sl W W.heap.size 3 G3.cells A n es) :
    Calls Try.prog 87 #[.int .i64 i, .pointer (some ⟨g1, 0, none⟩), .pointer (some ⟨g0, 0, none⟩)] W fun e w' => e = .returned (.bool (knowP es m i)) ∧ Below W.heap.size W w' := by
  obtain ⟨b, off, rfl, hb, H⟩ := h.at_ (by omega)
  obtain ⟨e, he⟩ := h.get hi
  obtain ⟨c0, c1, c2⟩ := H.g3 he
  obtain ⟨_, b1, b2, b3⟩ := guardOk_iff.1 ((guards_all hok).2 e (List.mem_of_getElem? he))
  rw [knowP_at he, knowsB]
  clear he
  go_enter Try.func87, Try.ntmps87
  have z0 := fun d os => cell_regrown x0 d os
  have z1 := fun d os => cell_regrown x1 d os
  have y1 := fun d os => cell_regrown c1 d os
  have y2 := fun d os => cell_regrown c2 d os
  have hwr : IntKind.i64.wrap (e.b - 1) = e.b - 1 := IntWalk.i64_in _ (by omega)
  have hi0 : (0 : Int) ≤ (i : Int) := by omega
  have hin' : (i : Int) < (n : Int) := by omega
  go_wp2_with fail
  refine wp_region_quiet_below (by kernel_rfl) (by kernel_rfl) ?_
  repeat (go_big_quiet_step (exact Calls.regrown_of (calls_below (impl_in _ _ _ _))))
  refine wpQuiet_nil ?_
  intro wq hwq
  have hbq := below_of_class hwq
  clear hwq
  go_wp2
  go_ret
  exact ⟨rfl, hbq⟩
set_option maxHeartbeats 400000 in
theorem impl_guardsAt (A : Option Addr) (n c : Nat) (es : List G3) (m : Int) (w : World) (hmax : n ≤ 1048576) (hok : guardsOk es = true) (h : Sl w w.heap.size 3 G3.cells A n es) :
    Calls Try.prog 66 #[.slice A n c, .int .i64 m] w fun e w' => ∃ v, e = .returned v ∧ Own w' w.heap.size 2 1 icell v (knowIdx es m) ∧ Below w.heap.size w w' := by
  obtain ⟨wA, hwA⟩ : ∃ wA, wA = (w.alloc (.cells #[.slice A n c] 25)).alloc (.cells #[.int .i64 m] 2) := ⟨_, rfl⟩
  have hb1 := Below.refl wA.heap.size wA
  rw [hwA] at hb1
  obtain ⟨x0, x1, hs1, hbel⟩ := boxes2 hb1
  clear hwA hb1
  go_enter Try.func66, Try.ntmps66
  go_wp2_with fail
  refine (impl_size_impl.Guard _ _ _ _ (by omega)).mono ?_
  rintro e w' ⟨rfl, rfl⟩
  go_wp2_with fail
  have hcall : ∀ args W, (callFunc 87 args).run Try.prog W = .ok (.enter 87 args) W := fun _ _ => by kernel_rfl
  refine (impl_indicesWhere 87 _ n (knowP es m) _ hmax hcall (fun i W hi hW => ?_)).mono ?_
  · exact impl_guardsAt_1 i _ _ A n c es m W hi hmax hok (cell_on x0 hW (by omega)) (cell_on x1 hW hs1) ((h.on hbel).on hW)
  rintro e w2 ⟨v, rfl, ho, hb2⟩
  go_wp2_with fail
  go_ret
  exact ⟨v, rfl, by rw [knowIdx, h.len]; exact ho.base_le hbel.size, below_then hbel hb2⟩
set_option maxHeartbeats 400000 in
theorem impl_GuardsAt (A : Option Addr) (n c : Nat) (es : List G3) (m : Int) (w : World) (hmax : n ≤ 1048576) (hnm : ∀ e ∈ es, e.s.size ≤ 1048576) (h : Sl w w.heap.size 3 G3.cells A n es) :
    Calls Try.prog 28 #[.slice A n c, .int .i64 m] w fun e w' => ∃ v, e = .returned (.tuple #[v, .int .i64 (atCode es m)]) ∧ Own w' w.heap.size 2 1 icell v (atRes es m) ∧ Below w.heap.size w w' := by
  rcases Bool.eq_false_or_eq_true (guardsOk es) with g1 | g1
  · rcases Bool.eq_false_or_eq_true (inR m 0 299999) with g2 | g2
    · have hc : atCode es m = 0 := by simp [atCode, g1, g2]
      rw [atRes_pos hc, hc]
      clear hc
      go_enter Try.func28, Try.ntmps28
      go_wp2_with (first
        | (go_at_call 20; refine (impl_ValidGuards _ _ _ es _ hmax hnm h).mono ?_; rintro e w1 ⟨rfl, hb1⟩; rw [g1])
        | (go_at_call 65; refine (impl_in _ _ _ _).mono ?_; rintro e w' ⟨rfl, rfl⟩; rw [g2])
        | (go_at_call 66; refine (impl_guardsAt _ _ _ es _ _ hmax g1 (h.on hb1)).mono ?_; rintro e w2 ⟨v2, rfl, ho2, hb2⟩))
      go_ret2
      exact ⟨_, rfl, ho2.base_le hb1.size, below_then hb1 hb2⟩
    · have hc : atCode es m = 2 := by simp [atCode, g1, g2]
      rw [atRes_neg (by omega), hc]
      clear hc
      go_enter Try.func28, Try.ntmps28
      go_wp2_with (first
        | (go_at_call 20; refine (impl_ValidGuards _ _ _ es _ hmax hnm h).mono ?_; rintro e w1 ⟨rfl, hb1⟩; rw [g1])
        | (go_at_call 65; refine (impl_in _ _ _ _).mono ?_; rintro e w' ⟨rfl, rfl⟩; rw [g2]))
      go_ret2
      exact ⟨_, rfl, own_new_empty _ _ _ _ _ hb1.size, below_al hb1 _⟩
  · have hc : atCode es m = 1 := by simp [atCode, g1]
    rw [atRes_neg (by omega), hc]
    clear hc
    go_enter Try.func28, Try.ntmps28
    go_wp2_with (go_at_call 20; refine (impl_ValidGuards _ _ _ es _ hmax hnm h).mono ?_; rintro e w1 ⟨rfl, hb1⟩; rw [g1])
    go_ret2
    exact ⟨_, rfl, own_new_empty _ _ _ _ _ hb1.size, below_al hb1 _⟩
set_option maxHeartbeats 1000000 in
theorem spec_GuardsAt (A : Option Addr) (n c : Nat) (es : List G3) (m : Int) (w : World) (hmax : n ≤ 1048576) (hnm : ∀ e ∈ es, e.s.size ≤ 1048576) (h : Sl w w.heap.size 3 G3.cells A n es) :
    Calls Try.prog 27 #[.slice A n c, .int .i64 m] w fun e w' => ∃ v, e = .returned (.tuple #[v, .int .i64 (atCode es m)]) ∧ Own w' w.heap.size 2 1 icell v (atRes es m) ∧ Below w.heap.size w w' := by
  obtain ⟨i0, hi, hz0, hz1, hz2⟩ := info_parts info_i64
  rcases Bool.eq_false_or_eq_true (guardsOk es) with g1 | g1
  · rcases Bool.eq_false_or_eq_true (inR m 0 299999) with g2 | g2
    · have hc : atCode es m = 0 := by simp [atCode, g1, g2]
      have hr : atRes es m = idxs (knowP es m) n := by rw [atRes_pos hc, knowIdx, h.len]
      rw [hr, hc]
      clear hc hr
      have Hok := Lib.hid g1
      go_enter Try.func27, Try.ntmps27
      go_wp2_with (first
        | (go_at_call 56; refine (spec_l17Ok _ _ _ es _ hmax hnm h).mono ?_; rintro e w1 ⟨rfl, hb1⟩; rw [g1])
        | (go_at_call 64; refine (spec_l00In _ _ _ _).mono ?_; rintro e w' ⟨rfl, rfl⟩; rw [g2]))
      clear g1 g2
      go_loopw [6, 7] (fun v i wr => ∃ k : Nat, k ≤ n ∧ i = .int .i64 k ∧ Hid (Own wr w.heap.size 2 1 icell v (idxs (knowP es m) k)) ∧ Below w.heap.size w wr) (fun _ i _ => n - (intOf i).toNat)
      case atStart => exact ⟨0, by omega, rfl, Lib.hid (own_new_empty _ _ _ _ _ hb1.size), below_al hb1 _⟩
      case round =>
        obtain ⟨k, hk, rfl, Hown, hbel⟩ := hrel
        have hll := idxs_len (knowP es m) k
        by_cases hlt : k < n
        · obtain ⟨b, off, rfl, hb, H⟩ := h.at_ (by omega)
          obtain ⟨e, he⟩ := h.get hlt
          obtain ⟨c0, c1, c2⟩ := (H.below hbel hb).g3c (Nat.lt_of_lt_of_le hb hbel.size) he
          obtain ⟨_, b1, b2, b3⟩ := guardOk_iff.1 ((guards_all Hok.out).2 e (List.mem_of_getElem? he))
          have Hp : Hid (knowP es m k = inR m e.a (e.b - 1)) := by show knowP es m k = _; rw [knowP_at he, knowsB]
          have hwr : IntKind.i64.wrap (e.b - 1) = e.b - 1 := IntWalk.i64_in _ (by omega)
          clear he
          obtain ⟨r, hr⟩ : ∃ r, inR m e.a (e.b - 1) = r := ⟨_, rfl⟩
          have Hr := Lib.hid hr
          clear hr
          go_wp2_with fail
          refine wp_region_quiet_below (by kernel_rfl) (by kernel_rfl) ?_
          repeat (go_big_quiet_step (exact Calls.regrown_of (calls_below (l00In_r _ _ _ r Hr.out _))))
          refine wpQuiet_nil ?_
          intro wq hwq
          have hbq := below_then hbel (below_of_class hwq)
          have Ho2 := Lib.hid (Own.below Hown.out (below_of_class hwq) (Nat.le_refl _))
          clear hwq c0 c1 c2 hwr
          cases r with
          | true =>
            go_wp2_with (at_builtin; refine wpList_push rfl _ _ 39 rfl w.heap.size 2 i0 (.int .i64 0) 1 8 Try.underlying39 hi hz0 hz1 hz2 rfl (by omega) icell_len (fun e u hu => by simp [icell] at hu; subst hu; rfl) _ _ (k : Int) rfl Ho2.out _ rfl _ rfl (by first | rfl | simp) (by omega) (by omega) hbq.size ?_; intro v3 w3 ho3 hg3; have hbel3 := own_grown hbq Ho2.out (Nat.le_refl _) hbq.size hg3; have Ho3 := Lib.hid ho3; clear ho3)
            go_roundw
            case rel => exact ⟨k + 1, by omega, by go_num, Lib.hid (by rw [idxs_yes (by rw [Hp.out, Hr.out])]; exact Ho3.out), hbel3⟩
            case measure => simp [intOf]; omega
          | false =>
            go_wp2_with fail
            go_roundw
            case rel => exact ⟨k + 1, by omega, by go_num, Lib.hid (by rw [idxs_no (by rw [Hp.out, Hr.out])]; exact Ho2.out), hbq⟩
            case measure => simp [intOf]; omega
        · go_wp2
          go_ret2
          have hkn : k = n := by omega
          subst hkn
          exact ⟨_, rfl, Hown.out, hbel⟩
    · have hc : atCode es m = 2 := by simp [atCode, g1, g2]
      rw [atRes_neg (by omega), hc]
      clear hc
      go_enter Try.func27, Try.ntmps27
      go_wp2_with (first
        | (go_at_call 56; refine (spec_l17Ok _ _ _ es _ hmax hnm h).mono ?_; rintro e w1 ⟨rfl, hb1⟩; rw [g1])
        | (go_at_call 64; refine (spec_l00In _ _ _ _).mono ?_; rintro e w' ⟨rfl, rfl⟩; rw [g2]))
      go_ret2
      exact ⟨_, rfl, own_nil _ _ _ _ _, hb1⟩
  · have hc : atCode es m = 1 := by simp [atCode, g1]
    rw [atRes_neg (by omega), hc]
    clear hc
    go_enter Try.func27, Try.ntmps27
    go_wp2_with (go_at_call 56; refine (spec_l17Ok _ _ _ es _ hmax hnm h).mono ?_; rintro e w1 ⟨rfl, hb1⟩; rw [g1])
    go_ret2
    exact ⟨_, rfl, own_nil _ _ _ _ _, hb1⟩
theorem impl_lengthCode (A : Option Addr) (n c : Nat) (es : List G3) (m : Int) (w : World) (hmax : n ≤ 1048576) (hnm : ∀ e ∈ es, e.s.size ≤ 1048576) (h : Sl w w.heap.size 3 G3.cells A n es) :
    Calls Try.prog 69 #[.slice A n c, .int .i64 m] w fun e w' => e = .returned (.int .i64 (lenCode es m)) ∧ Below w.heap.size w w' := by
  rcases Bool.eq_false_or_eq_true (guardsOk es) with g1 | g1 <;> rcases Bool.eq_false_or_eq_true (inR m 1 300000) with g2 | g2
  all_goals
    go_enter Try.func69, Try.ntmps69
    go_wp2_with (first
      | (go_at_call 20; refine (impl_ValidGuards _ _ _ es _ hmax hnm h).mono ?_; rintro e w1 ⟨rfl, hb1⟩; rw [g1])
      | (go_at_call 65; refine (impl_in _ _ _ _).mono ?_; rintro e w' ⟨rfl, rfl⟩; rw [g2]))
    go_ret
    exact ⟨ret_int (by simp [lenCode, g1, g2]), hb1⟩
theorem spec_l17Code (A : Option Addr) (n c : Nat) (es : List G3) (m : Int) (w : World) (hmax : n ≤ 1048576) (hnm : ∀ e ∈ es, e.s.size ≤ 1048576) (h : Sl w w.heap.size 3 G3.cells A n es) :
    Calls Try.prog 67 #[.slice A n c, .int .i64 m] w fun e w' => e = .returned (.int .i64 (lenCode es m)) ∧ Below w.heap.size w w' := by
  rcases Bool.eq_false_or_eq_true (guardsOk es) with g1 | g1 <;> rcases Bool.eq_false_or_eq_true (inR m 1 300000) with g2 | g2
  all_goals
    go_enter Try.func67, Try.ntmps67
    go_wp2_with (first
      | (go_at_call 56; refine (spec_l17Ok _ _ _ es _ hmax hnm h).mono ?_; rintro e w1 ⟨rfl, hb1⟩; rw [g1])
      | (go_at_call 64; refine (spec_l00In _ _ _ _).mono ?_; rintro e w' ⟨rfl, rfl⟩; rw [g2]))
    go_ret
    exact ⟨ret_int (by simp [lenCode, g1, g2]), hb1⟩

end Go.Proofs.Ythjdodamfinhaaa

/- Walks over functions of this seat, by contract. Conditions: those that each theorem states. -/
import Derived.Test.YtolnbbfbeieicaaA3
namespace Go.Proofs.Ytolnbbfbeieicaa
open Go.RowKit Go.Sort

theorem hold_nat {hold : Int} (h : inR hold 0 100 = true) : ∃ hd : Nat, hold = (hd : Int) ∧ hd ≤ 100 := by
  have := inR_iff.1 h; exact ⟨hold.toNat, by omega, by omega⟩
theorem alRes_pos {es ls : List Int} {hd : Nat} (h : alCode es ls (hd : Int) = 0) : alRes es ls (hd : Int) = stagesTo (sAt es ls) hd ls.length := by
  rw [alRes, if_pos h, Int.toNat_natCast]
theorem alRes_neg {es ls : List Int} {hold : Int} (h : alCode es ls hold ≠ 0) : alRes es ls hold = [] := if_neg h
theorem alCode_hold {es ls : List Int} {hold : Int} (h : alCode es ls hold = 0) : alC es ls = 0 ∧ inR hold 0 100 = true := by
  rw [alCode_eq] at h
  split at h
  · rename_i h1
    split at h
    · rename_i h2; exact ⟨h1, h2⟩
    · omega
  · rename_i h1; exact absurd h h1
set_option maxHeartbeats 400000 in
theorem impl_AlarmStages (A B : Option Addr) (n c m d : Nat) (es ls : List Int) (hold : Int) (w : World) (hmax : n ≤ 1048576) (hm : m ≤ 1048576) (h : Sl w w.heap.size 1 icell A n es) (h2 : Sl w w.heap.size 1 icell B m ls) :
    Calls Try.prog 7 #[.slice A n c, .slice B m d, .int .i64 hold] w fun e w' => ∃ v, e = .returned (.tuple #[v, .int .i64 (alCode es ls hold)]) ∧ Own w' w.heap.size 2 1 icell v (alRes es ls hold) ∧ Below w.heap.size w w' := by
  have Hm := Lib.hid h2.len
  by_cases g1 : alC es ls = 0
  · rcases Bool.eq_false_or_eq_true (inR hold 0 100) with g2 | g2
    · obtain ⟨hd, rfl, hhd⟩ := hold_nat g2
      have Hc : Hid (alCode es ls hd = 0) := Lib.hid (by rw [alCode_eq, if_pos g1, if_pos g2])
      have Hr : Hid (alRes es ls hd = stagesTo (sAt es ls) hd m) := Lib.hid (by rw [alRes_pos Hc.out, Hm.out])
      go_enter Try.func7, Try.ntmps7
      go_wp2_with (first
        | (go_at_call 15; refine (impl_alarmCode _ _ _ _ _ _ es ls _ hmax hm h h2).mono ?_; rintro e w1 ⟨rfl, hb1⟩; rw [g1])
        | (go_at_call 16; refine (impl_in _ _ _ _).mono ?_; rintro e w' ⟨rfl, rfl⟩; rw [g2])
        | (go_at_call 17; refine (impl_alarmStages _ _ _ _ _ _ es ls hd _ hmax hm hhd (h.on hb1) (h2.on hb1)).mono ?_; rintro e w2 ⟨v2, rfl, ho2, hb2⟩))
      go_ret2
      exact ⟨_, by rw [Hc.out]; rfl, by rw [Hr.out]; exact ho2.base_le hb1.size, below_then hb1 hb2⟩
    · have Hc : Hid (alCode es ls hold = 2) := Lib.hid (by rw [alCode_eq, if_pos g1, if_neg (by simp [g2])])
      have Hr : Hid (alRes es ls hold = []) := Lib.hid (alRes_neg (by rw [Hc.out]; omega))
      go_enter Try.func7, Try.ntmps7
      go_wp2_with (first
        | (go_at_call 15; refine (impl_alarmCode _ _ _ _ _ _ es ls _ hmax hm h h2).mono ?_; rintro e w1 ⟨rfl, hb1⟩; rw [g1])
        | (go_at_call 16; refine (impl_in _ _ _ _).mono ?_; rintro e w' ⟨rfl, rfl⟩; rw [g2]))
      go_ret2
      exact ⟨_, by rw [Hc.out]; rfl, by rw [Hr.out]; exact own_new_empty _ _ _ _ _ hb1.size, below_al hb1 _⟩
  · have Hc : Hid (alCode es ls hold = alC es ls) := Lib.hid (by rw [alCode_eq, if_neg g1])
    have Hr : Hid (alRes es ls hold = []) := Lib.hid (alRes_neg (by rw [Hc.out]; exact g1))
    have hne : (alC es ls != 0) = true := by simpa using g1
    clear g1
    go_enter Try.func7, Try.ntmps7
    go_wp2_with (go_at_call 15; refine (impl_alarmCode _ _ _ _ _ _ es ls _ hmax hm h h2).mono ?_; rintro e w1 ⟨rfl, hb1⟩)
    go_ret2
    exact ⟨_, by rw [Hc.out]; rfl, by rw [Hr.out]; exact own_new_empty _ _ _ _ _ hb1.size, below_al hb1 _⟩
set_option maxHeartbeats 400000 in
theorem spec_AlarmStages (A B : Option Addr) (n c m d : Nat) (es ls : List Int) (hold : Int) (w : World) (hmax : n ≤ 1048576) (hm : m ≤ 1048576) (h : Sl w w.heap.size 1 icell A n es) (h2 : Sl w w.heap.size 1 icell B m ls) :
    Calls Try.prog 5 #[.slice A n c, .slice B m d, .int .i64 hold] w fun e w' => ∃ v, e = .returned (.tuple #[v, .int .i64 (alCode es ls hold)]) ∧ Own w' w.heap.size 2 1 icell v (alRes es ls hold) ∧ Below w.heap.size w w' := by
  have Hm := Lib.hid h2.len
  by_cases g1 : alCode es ls hold = 0
  · obtain ⟨hd, rfl, hhd⟩ := hold_nat (alCode_hold g1).2
    have Hr : Hid (alRes es ls hd = stagesTo (sAt es ls) hd m) := Lib.hid (by rw [alRes_pos g1, Hm.out])
    rw [g1]
    go_enter Try.func5, Try.ntmps5
    go_wp2_with (first
      | (go_at_call 13; refine (spec_l16Code _ _ _ _ _ _ es ls _ _ hmax hm h h2).mono ?_; rintro e w1 ⟨rfl, hb1⟩; rw [g1])
      | (go_at_call 14; refine (spec_l16Stages _ _ _ _ _ _ es ls hd _ hmax hm hhd (h.on hb1) (h2.on hb1)).mono ?_; rintro e w2 ⟨v2, rfl, ho2, hb2⟩))
    go_ret2
    exact ⟨_, rfl, by rw [Hr.out]; exact ho2.base_le hb1.size, below_then hb1 hb2⟩
  · have Hr : Hid (alRes es ls hold = []) := Lib.hid (alRes_neg g1)
    have hne : (alCode es ls hold != 0) = true := by simpa using g1
    clear g1
    go_enter Try.func5, Try.ntmps5
    go_wp2_with (go_at_call 13; refine (spec_l16Code _ _ _ _ _ _ es ls _ _ hmax hm h h2).mono ?_; rintro e w1 ⟨rfl, hb1⟩)
    go_ret2
    exact ⟨_, rfl, by rw [Hr.out]; exact own_nil _ _ _ _ _, hb1⟩
theorem escP_at0 {xs : List Int} {x : Int} (h : xs[0]? = some x) : escP xs 0 = decide (0 < x) := by rw [escP, h]; simp
theorem escP_at {xs : List Int} {k : Nat} {x y : Int} (h : xs[k]? = some x) (hk : 0 < k) (h' : xs[k-1]? = some y) : escP xs k = decide (y < x) := by
  rw [escP, h, h']; simp; rw [if_neg (by omega)]
def lastOf (xs : List Int) (k : Nat) : Int := if k = 0 then 0 else (xs[k-1]?).getD 0
theorem escP_last {xs : List Int} {k : Nat} {x : Int} (h : xs[k]? = some x) : escP xs k = decide (lastOf xs k < x) := by rw [escP, h]; rfl
theorem lastOf_succ {xs : List Int} {k : Nat} {x : Int} (h : xs[k]? = some x) : lastOf xs (k + 1) = x := by
  rw [lastOf, if_neg (by omega), Nat.add_sub_cancel, h]; rfl
theorem escRes_neg {es ls : List Int} {hold : Int} (h : alCode es ls hold ≠ 0) : escRes es ls hold = [] := by rw [escRes, alRes_neg h]; rfl
theorem escRes_len (es ls : List Int) (hold : Int) : (escRes es ls hold).length ≤ ls.length := Nat.le_trans (idxs_len _ _) (alRes_len es ls hold)
theorem ne_box {W : World} {b E s : Nat} {α : Type} {f : α → List Value} {v : Value} {l : List α} (h : Own W b E s f v l) : v.ownBlock ≠ some W.heap.size := fun e => by
  have := (World.ownsRow.lt h _ e).2
  omega
set_option maxHeartbeats 400000 in
theorem impl_Escalations_1 (i : Nat) (g0 : Nat) (A : Option Addr) (n c : Nat) (xs : List Int) (W : World) (hi : i < n) (hmax : n ≤ 1048576)
    (x0 : W.cell? ⟨g0, 0, none⟩ = some (.slice A n c)) (h : Sl W W.heap.size 1 icell A n xs) :
    Calls Try.prog 20 #[.int .i64 i, .pointer (some ⟨g0, 0, none⟩)] W fun e w' => e = .returned (.bool (escP xs i)) ∧ Below W.heap.size W w' := by
  obtain ⟨b, off, rfl, hb, H⟩ := h.at_ (by omega)
  obtain ⟨e, he⟩ := h.get hi
  have c0 := H.i1c hb he
  have z0 := fun d os => cell_regrown x0 d os
  rcases Nat.eq_zero_or_pos i with hi0 | hi0
  · subst hi0
    simp only [Nat.add_zero] at c0
    have hn0 : (0 : Int) < (n : Int) := by omega
    have Hp := Lib.hid (escP_at0 he)
    clear he
    rcases Int.lt_or_le 0 e with h0 | h0
    · go_enter Try.func20, Try.ntmps20
      go_wp2_with fail
      refine wp_region_quiet_below (by kernel_rfl) (by kernel_rfl) ?_
      repeat (go_big_quiet_step (fail))
      refine wpQuiet_nil ?_
      intro wq hwq
      have hbq := below_of_class hwq
      clear hwq
      go_wp2
      go_ret
      exact ⟨ret_bool (by rw [Hp.out]; simp; omega), hbq⟩
    · have h00 : decide (0 < e) = false := by simp; omega
      go_enter Try.func20, Try.ntmps20
      go_wp2_with fail
      refine wp_region_quiet_below (by kernel_rfl) (by kernel_rfl) ?_
      repeat (go_big_quiet_step (fail))
      refine wpQuiet_nil ?_
      intro wq hwq
      have hbq := below_of_class hwq
      clear hwq
      go_wp2
      go_ret
      exact ⟨ret_bool (by rw [Hp.out]; simp; omega), hbq⟩
  · obtain ⟨e', he'⟩ := h.get (k := i - 1) (by omega)
    have c1 := H.i1c hb he'
    have Hp := Lib.hid (escP_at he hi0 he')
    clear he he'
    have hi1 : (0 : Int) < (i : Int) := by omega
    have hi2 : ((i : Int) == 0) = false := by simp; omega
    have hin' : (i : Int) < (n : Int) := by omega
    go_enter Try.func20, Try.ntmps20
    go_wp2_with fail
    refine wp_region_quiet_below (by kernel_rfl) (by kernel_rfl) ?_
    repeat (go_big_quiet_step (fail))
    refine wpQuiet_nil ?_
    intro wq hwq
    have hbq := below_of_class hwq
    clear hwq
    go_wp2
    go_ret
    exact ⟨ret_bool (by rw [Hp.out]), hbq⟩
set_option maxHeartbeats 400000 in
theorem impl_Escalations (A B : Option Addr) (n c m d : Nat) (es ls : List Int) (hold : Int) (w : World) (hmax : n ≤ 1048576) (hm : m ≤ 1048576) (h : Sl w w.heap.size 1 icell A n es) (h2 : Sl w w.heap.size 1 icell B m ls) :
    Calls Try.prog 12 #[.slice A n c, .slice B m d, .int .i64 hold] w fun e w' => ∃ v, e = .returned (.tuple #[v, .int .i64 (alCode es ls hold)]) ∧ Own w' w.heap.size 2 1 icell v (escRes es ls hold) ∧ Below w.heap.size w w' := by
  have Hm := Lib.hid h2.len
  by_cases g1 : alCode es ls hold = 0
  · have HL := Lib.hid (alRes_len es ls hold)
    rw [g1]
    go_enter Try.func12, Try.ntmps12
    go_wp2_with (go_at_call 7; refine (impl_AlarmStages _ _ _ _ _ _ es ls _ _ hmax hm h h2).mono ?_; rintro e w1 ⟨v1, rfl, ho1, hb1⟩; rw [g1]; obtain ⟨A1, n1, c1, rfl, hl1, _⟩ := own_shape ho1; refine Hid.out ?_)
    refine Lib.hid ?_
    have hn1 : n1 ≤ 1048576 := by have := HL.out; have := Hm.out; omega
    have hS := own_sl ho1 icell_len
    obtain ⟨wA, hwA⟩ : ∃ wA, wA = w1.alloc (.cells #[.slice A1 n1 c1] 22) := ⟨_, rfl⟩
    have hbA := Below.refl wA.heap.size wA
    rw [hwA] at hbA
    obtain ⟨x0, hs1, hbel⟩ := boxes1 hbA
    clear hwA hbA ho1
    have Hl1 := Lib.hid hl1
    clear hl1 g1
    go_wp2_with fail
    refine (impl_size_int64 _ _ _ _ (by omega)).mono ?_
    rintro e w' ⟨rfl, rfl⟩
    go_wp2_with fail
    have hcall : ∀ args W, (callFunc 20 args).run Try.prog W = .ok (.enter 20 args) W := fun _ _ => by kernel_rfl
    refine (impl_indicesWhere 20 _ n1 (escP (alRes es ls hold)) _ hn1 hcall (fun i W hi hW => ?_)).mono ?_
    · exact impl_Escalations_1 i _ A1 n1 c1 _ W hi hn1 (cell_on x0 hW (by omega)) ((hS.on hbel).on hW)
    rintro e w2 ⟨v, rfl, ho, hb2⟩
    go_wp2_with fail
    go_ret2
    exact ⟨_, rfl, by rw [escRes, Hl1.out]; exact ho.base_le (by have := hb1.size; have := hbel.size; omega), below_then hb1 (below_then hbel hb2)⟩
  · have Hr : Hid (escRes es ls hold = []) := Lib.hid (escRes_neg g1)
    have hne : (alCode es ls hold != 0) = true := by simpa using g1
    clear g1
    go_enter Try.func12, Try.ntmps12
    go_wp2_with (go_at_call 7; refine (impl_AlarmStages _ _ _ _ _ _ es ls _ _ hmax hm h h2).mono ?_; rintro e w1 ⟨v1, rfl, ho1, hb1⟩; obtain ⟨A1, n1, c1, rfl, hl1, _⟩ := own_shape ho1)
    go_ret2
    exact ⟨_, rfl, by rw [Hr.out]; have hx := own_new_empty (w1.alloc (.cells #[.slice A1 n1 c1] 22)) w.heap.size 2 1 icell (below_al hb1 _).size; rw [show (w1.alloc (.cells #[.slice A1 n1 c1] 22)).heap.size = w1.heap.size + 1 from by simp] at hx; exact hx, below_al (below_al hb1 _) _⟩
set_option maxHeartbeats 1000000 in
theorem spec_Escalations (A B : Option Addr) (n c m d : Nat) (es ls : List Int) (hold : Int) (w : World) (hmax : n ≤ 1048576) (hm : m ≤ 1048576) (h : Sl w w.heap.size 1 icell A n es) (h2 : Sl w w.heap.size 1 icell B m ls) :
    Calls Try.prog 11 #[.slice A n c, .slice B m d, .int .i64 hold] w fun e w' => ∃ v, e = .returned (.tuple #[v, .int .i64 (alCode es ls hold)]) ∧ Own w' w.heap.size 2 1 icell v (escRes es ls hold) ∧ Below w.heap.size w w' := by
  have Hm := Lib.hid h2.len
  obtain ⟨i0, hi, hz0, hz1, hz2⟩ := info_parts info_i64
  by_cases g1 : alCode es ls hold = 0
  · obtain ⟨hd, rfl, hhd⟩ := hold_nat (alCode_hold g1).2
    have hr : alRes es ls hd = stagesTo (sAt es ls) hd m := by rw [alRes_pos g1, Hm.out]
    have hr2 : escRes es ls hd = idxs (escP (stagesTo (sAt es ls) hd m)) m := by rw [escRes, hr, stagesTo_len]
    obtain ⟨all, hall⟩ : ∃ all, all = stagesTo (sAt es ls) hd m := ⟨_, rfl⟩
    have hlen : all.length = m := by rw [hall, stagesTo_len]
    rw [g1, hr2]
    clear hr hr2
    rw [← hall]
    have HA := Lib.hid hall
    have HL := Lib.hid hlen
    clear hall hlen
    go_enter Try.func11, Try.ntmps11
    go_wp2_with (first
      | (go_at_call 13; refine (spec_l16Code _ _ _ _ _ _ es ls _ _ hmax hm h h2).mono ?_; rintro e w1 ⟨rfl, hb1⟩; rw [g1])
      | (go_at_call 14; refine (spec_l16Stages _ _ _ _ _ _ es ls hd _ hmax hm hhd (h.on hb1) (h2.on hb1)).mono ?_; rintro e w2 ⟨v2, rfl, ho2, hb2⟩; rw [← HA.out] at ho2; obtain ⟨A2, n2, c2, rfl, hl2, _⟩ := own_shape ho2))
    have hn2 : n2 = m := by rw [← hl2]; exact HL.out
    clear hl2
    subst hn2
    have hbw := below_then hb1 hb2
    have HO := Lib.hid (own_alloc (ho2.base_le hb1.size) (.cells #[] 2))
    have HAp : Hid ((Value.slice A2 n2 c2).ownBlock = none ∨ (Value.slice A2 n2 c2).ownBlock ≠ (Value.slice (some ⟨w2.heap.size, 0, none⟩) 0 0).ownBlock) := Lib.hid (.inr (ne_box ho2))
    clear ho2 g1
    go_loopw [10, 11, 12] (fun v t i wr => ∃ (k : Nat) (x : Int), k ≤ n2 ∧ i = .int .i64 k ∧ t = .int .i64 x ∧ Hid (x = lastOf all k) ∧ Hid (Own wr w.heap.size 2 1 icell v (idxs (escP all) k)) ∧ Hid (Own wr w.heap.size 2 1 icell (.slice A2 n2 c2) all) ∧ Hid ((Value.slice A2 n2 c2).ownBlock = none ∨ (Value.slice A2 n2 c2).ownBlock ≠ v.ownBlock) ∧ Below w.heap.size w wr) (fun _ _ i _ => n2 - (intOf i).toNat)
    case atStart => exact ⟨0, 0, by omega, rfl, rfl, Lib.hid rfl, Lib.hid (own_new_empty _ _ _ _ _ hbw.size), HO, HAp, below_al hbw _⟩
    case round =>
      obtain ⟨k, t, hk, rfl, rfl, Ht, Hown, HO, HAp, hbel⟩ := hrel
      have hll := idxs_len (escP all) k
      by_cases hlt : k < n2
      · obtain ⟨b2, off2, rfl, hbb2, H2⟩ := (own_sl HO.out icell_len).at_ (by omega)
        obtain ⟨x, hx⟩ := (own_sl HO.out icell_len).get hlt
        have y0 := H2.i1 hx
        have Hp := Lib.hid (escP_last hx)
        have Hls := Lib.hid (lastOf_succ hx)
        have Hx := Lib.hid hx
        clear hx
        rcases Int.lt_or_le t x with htx | htx
        · go_wp2_with (at_builtin; refine wpList_push_at rfl _ _ 22 rfl w.heap.size 2 i0 (.int .i64 0) 1 8 Try.underlying22 hi hz0 hz1 hz2 rfl (by omega) icell_len (fun e u hu => by simp [icell] at hu; subst hu; rfl) _ _ (k : Int) rfl Hown.out _ rfl _ rfl (by first | rfl | simp) (by omega) (by omega) hbel.size ?_; intro v4 w4 ho4 hg4 hat4; have hbel4 := own_grown hbel Hown.out (Nat.le_refl _) hbel.size hg4; have HO4 := Lib.hid (own_other HO.out HAp.out hg4); have HA4 := Lib.hid (apart_next HO.out HAp.out (Nat.le_succ _) hat4); have Ho4 := Lib.hid ho4; clear ho4 hg4 hat4; refine Hid.out ?_)
          refine Lib.hid ?_
          obtain ⟨b4, off4, e4, _, H4⟩ := (own_sl HO4.out icell_len).at_ (by omega)
          injection e4 with e4
          injection e4 with e41 e42
          subst e41; subst e42
          have y1 := H4.i1 Hx.out
          clear H4 y0
          go_wp2_with fail
          go_roundw
          case rel => exact ⟨k + 1, x, by omega, by go_num, rfl, Lib.hid Hls.out.symm, Lib.hid (by rw [idxs_yes (by rw [Hp.out, ← Ht.out]; simp; omega)]; exact Ho4.out), HO4, HA4, hbel4⟩
          case measure => simp [intOf]; omega
        · go_wp2_with fail
          go_roundw
          case rel => exact ⟨k + 1, x, by omega, by go_num, rfl, Lib.hid Hls.out.symm, Lib.hid (by rw [idxs_no (by rw [Hp.out, ← Ht.out]; simp; omega)]; exact Hown.out), HO, HAp, hbel⟩
          case measure => simp [intOf]; omega
      · go_wp2
        go_ret2
        have hkn : k = n2 := by omega
        subst hkn
        exact ⟨_, rfl, Hown.out, hbel⟩
  · have Hr : Hid (escRes es ls hold = []) := Lib.hid (escRes_neg g1)
    have hne : (alCode es ls hold != 0) = true := by simpa using g1
    clear g1
    go_enter Try.func11, Try.ntmps11
    go_wp2_with (go_at_call 13; refine (spec_l16Code _ _ _ _ _ _ es ls _ _ hmax hm h h2).mono ?_; rintro e w1 ⟨rfl, hb1⟩)
    go_ret2
    exact ⟨_, rfl, by rw [Hr.out]; exact own_nil _ _ _ _ _, hb1⟩

end Go.Proofs.Ytolnbbfbeieicaa

/- Walks over functions of this seat, by contract. Conditions: those that each theorem states. -/
import Derived.Test.YtgbblcbpmpokdaaGreatDoorBase
namespace Go.Proofs.YtgbblcbpmpokdaaGreatDoor
open Go.RowKit Go.Sort

set_option maxHeartbeats 400000 in
theorem laws_eqInt64S (A A' : Option Addr) (n m c c' : Nat) (es fs : List Int) (w : World) (hmax : n ≤ 1048576) (hmax' : m ≤ 1048576) (h : Sl w w.heap.size 1 icell A n es) (h' : Sl w w.heap.size 1 icell A' m fs) :
    Calls Tryz.prog 6 #[.slice A n c, .slice A' m c'] w fun e w' => e = .returned (.bool (ieq es fs)) ∧ Below w.heap.size w w' := by
  have hl := h.len
  have hl' := h'.len
  by_cases hnm : n = m
  · subst hnm
    have Hl := Lib.hid hl
    have Hl' := Lib.hid hl'
    clear hl hl'
    go_enter Tryz.func6, Tryz.ntmps6
    go_wp2
    go_loopw [5] (fun i wr => ∃ k : Nat, k ≤ n ∧ i = .int .i64 k ∧ (∀ j, j < k → ∀ p q, es[j]? = some p → fs[j]? = some q → p = q) ∧ Below w.heap.size w wr) (fun i _ => n - (intOf i).toNat)
    case atStart => exact ⟨0, by omega, rfl, fun j hj => by omega, Below.refl _ _⟩
    case round =>
      obtain ⟨k, hk, rfl, hall, hbel⟩ := hrel
      have Hall := Lib.hid hall
      clear hall
      by_cases hlt : k < n
      · obtain ⟨b, off, rfl, hb, H⟩ := h.at_ (by omega)
        obtain ⟨p, hp⟩ := h.get hlt
        obtain ⟨b', off', rfl, hb', H'⟩ := h'.at_ (by omega)
        obtain ⟨q, hq⟩ := h'.get hlt
        have c0 := (H.below hbel hb).i1c (Nat.lt_of_lt_of_le hb hbel.size) hp
        have d0 := (H'.below hbel hb').i1c (Nat.lt_of_lt_of_le hb' hbel.size) hq
        have Hp := Lib.hid hp
        have Hq := Lib.hid hq
        clear hp hq
        go_wp2
        refine wp_region_quiet_below (by kernel_rfl) (by kernel_rfl) ?_
        repeat (go_big_quiet_step (fail))
        refine wpQuiet_nil ?_
        intro wq hwq
        have hbq := below_then hbel (below_of_class hwq)
        clear hwq c0 d0
        go_wp2
        · have hne : (p != q) = true := by assumption
          go_ret
          exact ⟨ret_bool (by rw [ieq_no Hp.out Hq.out (by simpa using hne)]), hbq⟩
        · have heq : (p != q) = false := by assumption
          go_roundw
          case rel =>
            refine ⟨k + 1, by omega, by go_num, ?_, hbq⟩
            intro j hj p' q' hp' hq'
            rcases Nat.lt_or_ge j k with h1 | h1
            · exact Hall.out j h1 p' q' hp' hq'
            · have : j = k := by omega
              subst this
              rw [Hp.out] at hp'; rw [Hq.out] at hq'
              injection hp' with hp'; injection hq' with hq'
              subst hp'; subst hq'; simpa using heq
          case measure => simp [intOf]; omega
      · go_wp2
        go_ret
        have hkn : k = n := by omega
        subst hkn
        exact ⟨ret_bool (by rw [ieq_yes (by rw [Hl.out, Hl'.out]) (fun j hj => Hall.out j (by rw [Hl.out] at hj; exact hj))]), hbel⟩
  · have hne : ((n : Int) != (m : Int)) = true := by rw [bne_iff_ne]; omega
    have Hl := Lib.hid hl
    have Hl' := Lib.hid hl'
    clear hl hl'
    go_enter Tryz.func6, Tryz.ntmps6
    go_wp2
    go_ret
    exact ⟨ret_bool (by rw [ieq_len (by rw [Hl.out, Hl'.out]; exact hnm)]), Below.refl _ _⟩
set_option maxHeartbeats 400000 in
theorem laws_markInt64S (base n : Nat) (v : Value) (xs : List Value) (k0 : Int) (w : World) (hmax : n ≤ 1048576) (h0 : 0 ≤ k0) (h1 : k0 ≤ 1099511627776) (h : w.ownsRow base 2 1 v n xs) :
    Calls Tryz.prog 7 #[v, .int .i64 k0] w fun e w' => e = .returned (.int .i64 (k0 + (n : Nat))) ∧ w'.ownsRow base 2 1 v n (marks k0 n) ∧ w.grownBy w' v.ownBlock := by
  rcases Nat.eq_zero_or_pos n with hz | hpos
  · obtain ⟨A, c, rfl⟩ : ∃ A c, v = .slice A n c := by
      rcases h.2 with ⟨rfl, e0⟩ | ⟨g, cap, cur, rfl, _⟩
      · subst e0; exact ⟨_, _, rfl⟩
      · exact ⟨_, _, rfl⟩
    subst hz
    have hxs : xs = [] := List.eq_nil_of_length_eq_zero (by simpa using h.1)
    subst hxs
    go_enter Tryz.func7, Tryz.ntmps7
    go_wp2
    refine wp_loop_rounds 1 ?_
    rw [rounds_succ]
    go_wp2
    go_ret
    exact ⟨ret_int (by simp), by simpa [marks] using h, World.grownBy.refl w _⟩
  · obtain ⟨g, cap, rfl, hb, hc, hm, hrow⟩ := owns_block h hpos
    have hs := hrow.start
    clear h hrow
    rw [Nat.mul_one] at hs
    go_enter Tryz.func7, Tryz.ntmps7
    go_wp2
    go_loopw [1, 5] (fun kk i wr => ∃ k : Nat, k ≤ n ∧ i = .int .i64 k ∧ kk = .int .i64 (k0 + (k : Nat)) ∧ Row wr g 2 cap (marks k0 k) ∧ w.grownBy wr (some g)) (fun _ i _ => n - (intOf i).toNat)
    case atStart => exact ⟨0, by omega, rfl, by simp, by simpa [marks] using hs, World.grownBy.refl w _⟩
    case round =>
      obtain ⟨k, hk, rfl, rfl, hrow, hgr⟩ := hrel
      by_cases hlt : k < n
      · obtain ⟨v0, x0⟩ := hrow.cell (i := k) (by omega)
        have f0 := hrow.frozen k
        go_wp2
        go_roundw
        case rel => exact ⟨k + 1, by omega, by go_num, by go_num, by rw [marks_step1]; exact hrow.push1 (marks_len _ _) _ (by omega), only_st hgr _ _⟩
        case measure => simp [intOf]; omega
      · go_wp2
        go_ret
        have hkn : k = n := by omega
        subst hkn
        exact ⟨rfl, owns_of_row (by rw [Nat.mul_one]; exact hrow) hb hc hm (by rw [marks_len, Nat.mul_one]), hgr⟩
set_option maxHeartbeats 400000 in
theorem laws_heldInt64S (base n : Nat) (v : Value) (k0 : Int) (w : World) (hmax : n ≤ 1048576) (h0 : 0 ≤ k0) (h1 : k0 ≤ 1099511627776) (h : w.ownsRow base 2 1 v n (marks k0 n)) :
    Calls Tryz.prog 8 #[v, .int .i64 k0] w fun e w' => e = .returned (.int .i64 (k0 + (n : Nat))) ∧ w = w' := by
  rcases Nat.eq_zero_or_pos n with hz | hpos
  · obtain ⟨A, c, rfl⟩ : ∃ A c, v = .slice A n c := by
      rcases h.2 with ⟨rfl, e0⟩ | ⟨g, cap, cur, rfl, _⟩
      · subst e0; exact ⟨_, _, rfl⟩
      · exact ⟨_, _, rfl⟩
    subst hz
    go_enter Tryz.func8, Tryz.ntmps8
    go_wp2
    refine wp_loop_rounds 1 ?_
    rw [rounds_succ]
    go_wp2
    go_ret
    exact ⟨ret_int (by simp), rfl⟩
  · obtain ⟨g, cap, rfl, hb, hc, hm, hrow⟩ := owns_block h hpos
    clear h
    go_enter Tryz.func8, Tryz.ntmps8
    go_wp2
    go_loop [1, 5] (fun kk i => ∃ k : Nat, k ≤ n ∧ i = .int .i64 k ∧ kk = .int .i64 (k0 + (k : Nat))) (fun _ i => n - (intOf i).toNat)
    case atStart => exact ⟨0, by omega, rfl, by simp⟩
    case round =>
      obtain ⟨k, hk, rfl, rfl⟩ := hrel
      by_cases hlt : k < n
      · have x0 := hrow.at_ (marks_get k0 n k (by omega))
        go_wp2
        go_round
        case rel => exact ⟨k + 1, by omega, by go_num, by go_num⟩
        case measure => simp [intOf]; omega
      · go_wp2
        go_ret
        have hkn : k = n := by omega
        subst hkn
        exact ⟨rfl, rfl⟩
theorem laws_eqInt64S_self (A A' : Option Addr) (n m c c' : Nat) (es : List Int) (w : World) (hmax : n ≤ 1048576) (hmax' : m ≤ 1048576) (h : Sl w w.heap.size 1 icell A n es) (h' : Sl w w.heap.size 1 icell A' m es) :
    Calls Tryz.prog 6 #[.slice A n c, .slice A' m c'] w fun e w' => e = .returned (.bool true) ∧ Below w.heap.size w w' := by
  rw [← ieq_self es]; exact laws_eqInt64S A A' n m c c' es es w hmax hmax' h h'

end Go.Proofs.YtgbblcbpmpokdaaGreatDoor

/- Walks over functions of this seat, by contract. Conditions: those that each theorem states. -/
import Derived.Test.YtgbblcbpmpokdaaS1
namespace Go.Proofs.Ytgbblcbpmpokdaa
open Go.RowKit Go.Sort

set_option maxHeartbeats 8000000 in
set_option maxRecDepth 100000 in
theorem symMerge_l {α : Type} [Inhabited α] (enc : α → Value) (lt : α → α → Bool) (R V : α → α → Prop) (o : Ord lt R V) (g : Nat) (lb : Array Value) (sf : Nat) (sb : Array Value) (blk off : Nat)
    (eg : ∀ args w, (callFunc g args).run Try.prog w = .ok (.enter g args) w)
    (a m b : Nat) (d : Array α) (w : World) (hless : LessReads Try.prog g lb enc lt blk off d.size w) (hswap : SwapSwaps Try.prog sf sb enc blk off d.size) (hH : Holds enc w blk off d) (hblk : blk < w.heap.size) (h1 : a < m) (h2 : m < b) (h3 : b ≤ d.size) (hsz : d.size < 4611686018427387904)
    (hr : Srt R d m b) (hx : Crs V d a m b) (k1 : m = a + 1) :
    Calls Try.prog 119 #[.agg #[.func (.func g) #[] lb, .func (.func sf) #[] sb], .int .i64 a, .int .i64 m, .int .i64 b] w fun e w' => e = .returned (.tuple #[]) ∧ ∃ d', Mrg R d d' a b ∧ SW enc w blk off d' w' := by
  have hne : w.heap.size ≠ blk := by omega
  have Hr := Lib.hid hr
  have Hx := Lib.hid hx
  have e1 : ((m : Int) - (a : Int) == 1) = true := by rw [beq_iff_eq]; omega
  have hma : a + 1 ≤ m := by omega
  have K1 := Lib.hid k1
  clear k1 hr hx
  go_enter Try.func119, Try.ntmps119
  go_wp2
  go_loopw [8, 9] (fun vi vj wr => ∃ (i j : Nat), vi = .int .i64 i ∧ vj = .int .i64 j ∧ m ≤ i ∧ i ≤ j ∧ j ≤ b ∧ Hid (i = m ∨ lt d[i - 1]! d[a]! = true) ∧ Hid (j = b ∨ lt d[j]! d[a]! = false) ∧ SW enc w blk off d wr ∧ Bx2 w.heap.size (.func (.func g) #[] lb) (.func (.func sf) #[] sb) wr) (fun vi vj _ => (intOf vj).toNat - (intOf vi).toNat)
  case atStart => exact ⟨m, b, by go_num, by go_num, by omega, by omega, by omega, Lib.hid (.inl rfl), Lib.hid (.inl rfl), (SW.start hH).alloc _, Bx2.new _ _ _ _⟩
  case round =>
    obtain ⟨i, j, rfl, rfl, hi, hij, hj, HI, HJ, hW, hB⟩ := hrel
    by_cases hlt : i < j
    · have hc := hW.less hless rfl ((i + j) / 2) a (by omega) (by omega)
      have HW := Lib.hid hW
      have HB := Lib.hid hB
      obtain ⟨c0, c1, cl⟩ := hB
      clear hW
      rw [show ((((i + j) / 2 : Nat)) : Int) = ((i : Int) + (j : Int)) / 2 from by omega] at hc
      cases hv : lt d[(i + j) / 2]! d[a]! with
      | true =>
        have Hv := Lib.hid hv
        rw [hv] at hc
        clear hv
        go_wp2_with (go_at_fn g; refine hc.mono ?_; rintro e w1 ⟨rfl, q, rfl⟩)
        go_roundw
        case rel => exact ⟨(i + j) / 2 + 1, j, by go_num, rfl, by omega, by omega, by omega, Lib.hid (.inr (by rw [Nat.add_sub_cancel]; exact Hv.out)), HJ, HW.out.drewN q, HB.out.drewN q⟩
        case measure => simp [intOf]; omega
      | false =>
        have Hv := Lib.hid hv
        rw [hv] at hc
        clear hv
        go_wp2_with (go_at_fn g; refine hc.mono ?_; rintro e w1 ⟨rfl, q, rfl⟩)
        go_roundw
        case rel => exact ⟨i, (i + j) / 2, rfl, by go_num, by omega, by omega, by omega, HI, Lib.hid (.inr (Hv.out)), HW.out.drewN q, HB.out.drewN q⟩
        case measure => simp [intOf]; omega
    · obtain rfl : i = j := by omega
      go_wp2_with fail
      have HW0 := Lib.hid hW
      have HB0 := Lib.hid hB
      clear hW hB
      go_loopw [11] (fun vk wr => ∃ (k : Nat) (dk : Array α), vk = .int .i64 k ∧ a ≤ k ∧ k ≤ i - 1 ∧ Hid (MovU d dk a b (k - a)) ∧ SW enc w blk off dk wr ∧ Bx2 w.heap.size (.func (.func g) #[] lb) (.func (.func sf) #[] sb) wr) (fun vk _ => i - (intOf vk).toNat)
      case atStart => exact ⟨a, d, rfl, by omega, by omega, Lib.hid (by rw [Nat.sub_self]; exact MovU.zero d a b), HW0.out, HB0.out⟩
      case round =>
        obtain ⟨k, dk, rfl, hk, hki, HM, hW, hB⟩ := hrel
        by_cases hlk : k < i - 1
        · have hds := HM.out.size
          have hs := hswap wr dk (hW.holds hblk hH hds) hds k (k + 1) (by omega) (by omega)
          rw [show ((k + 1 : Nat) : Int) = (k : Int) + 1 from by omega] at hs
          have HW := Lib.hid (hW.swap hblk k (k + 1) (by omega) (by omega))
          have HB := Lib.hid (hB.st2 hne (off + k) (off + (k + 1)) (enc dk[k + 1]!) (enc dk[k]!))
          obtain ⟨c0, c1, cl⟩ := hB
          clear hW
          have hk1 : (k : Int) < (i : Int) - 1 := by omega
          go_wp2
          go_roundw
          case rel => exact ⟨k + 1, swp dk k (k + 1), by go_num, by omega, by omega, Lib.hid (by
            have := HM.out.succ (by omega) h3
            rw [show a + (k - a) = k from by omega, show k - a + 1 = k + 1 - a from by omega] at this
            exact this), by first | exact HW.out | simpa using HW.out, by first | exact HB.out | simpa using HB.out⟩
          case measure => simp [intOf]; omega
        · have hk1 : ¬ (k : Int) < (i : Int) - 1 := by omega
          have hke : k = i - 1 := by omega
          have HW := Lib.hid hW
          go_wp2
          (try simp only [Exit.inBlock, Exit.then]); refine bodyPost_ret (results_none rfl _ _ _) rfl ?_
          refine ⟨rfl, dk, ?_, HW.out⟩
          have hM := HM.out
          rw [hke] at hM
          have hmm : m = a + 1 := K1.out
          refine MovU.done o hM (by omega) (by omega) h3 (by rw [← hmm]; exact Hr.out) (by rw [← hmm]; exact Hx.out) ?_ HJ.out
          rw [← hmm]; exact HI.out
set_option maxHeartbeats 8000000 in
set_option maxRecDepth 100000 in
theorem symMerge_r {α : Type} [Inhabited α] (enc : α → Value) (lt : α → α → Bool) (R V : α → α → Prop) (o : Ord lt R V) (g : Nat) (lb : Array Value) (sf : Nat) (sb : Array Value) (blk off : Nat)
    (eg : ∀ args w, (callFunc g args).run Try.prog w = .ok (.enter g args) w)
    (a m b : Nat) (d : Array α) (w : World) (hless : LessReads Try.prog g lb enc lt blk off d.size w) (hswap : SwapSwaps Try.prog sf sb enc blk off d.size) (hH : Holds enc w blk off d) (hblk : blk < w.heap.size) (h1 : a < m) (h2 : m < b) (h3 : b ≤ d.size) (hsz : d.size < 4611686018427387904)
    (hl : Srt R d a m) (hx : Crs V d a m b) (k1 : ¬ m = a + 1) (k2 : b = m + 1) :
    Calls Try.prog 119 #[.agg #[.func (.func g) #[] lb, .func (.func sf) #[] sb], .int .i64 a, .int .i64 m, .int .i64 b] w fun e w' => e = .returned (.tuple #[]) ∧ ∃ d', Mrg R d d' a b ∧ SW enc w blk off d' w' := by
  have hne : w.heap.size ≠ blk := by omega
  have Hl := Lib.hid hl
  have Hx := Lib.hid hx
  have e1 : ((m : Int) - (a : Int) == 1) = false := by rw [beq_eq_false_iff_ne]; omega
  have e2 : ((b : Int) - (m : Int) == 1) = true := by rw [beq_iff_eq]; omega
  have hmb : m + 1 ≤ b := by omega
  have K2 := Lib.hid k2
  clear k1 k2 hl hx
  go_enter Try.func119, Try.ntmps119
  go_wp2
  go_loopw [12, 13] (fun vi vj wr => ∃ (i j : Nat), vi = .int .i64 i ∧ vj = .int .i64 j ∧ a ≤ i ∧ i ≤ j ∧ j ≤ m ∧ Hid (i = a ∨ lt d[m]! d[i - 1]! = false) ∧ Hid (j = m ∨ lt d[m]! d[j]! = true) ∧ SW enc w blk off d wr ∧ Bx2 w.heap.size (.func (.func g) #[] lb) (.func (.func sf) #[] sb) wr) (fun vi vj _ => (intOf vj).toNat - (intOf vi).toNat)
  case atStart => exact ⟨a, m, by go_num, by go_num, by omega, by omega, by omega, Lib.hid (.inl rfl), Lib.hid (.inl rfl), (SW.start hH).alloc _, Bx2.new _ _ _ _⟩
  case round =>
    obtain ⟨i, j, rfl, rfl, hi, hij, hj, HI, HJ, hW, hB⟩ := hrel
    by_cases hlt : i < j
    · have hc := hW.less hless rfl m ((i + j) / 2) (by omega) (by omega)
      have HW := Lib.hid hW
      have HB := Lib.hid hB
      obtain ⟨c0, c1, cl⟩ := hB
      clear hW
      rw [show ((((i + j) / 2 : Nat)) : Int) = ((i : Int) + (j : Int)) / 2 from by omega] at hc
      cases hv : lt d[m]! d[(i + j) / 2]! with
      | true =>
        have Hv := Lib.hid hv
        rw [hv] at hc
        clear hv
        go_wp2_with (go_at_fn g; refine hc.mono ?_; rintro e w1 ⟨rfl, q, rfl⟩)
        go_roundw
        case rel => exact ⟨i, (i + j) / 2, rfl, by go_num, by omega, by omega, by omega, HI, Lib.hid (.inr (Hv.out)), HW.out.drewN q, HB.out.drewN q⟩
        case measure => simp [intOf]; omega
      | false =>
        have Hv := Lib.hid hv
        rw [hv] at hc
        clear hv
        go_wp2_with (go_at_fn g; refine hc.mono ?_; rintro e w1 ⟨rfl, q, rfl⟩)
        go_roundw
        case rel => exact ⟨(i + j) / 2 + 1, j, by go_num, rfl, by omega, by omega, by omega, Lib.hid (.inr (by rw [Nat.add_sub_cancel]; exact Hv.out)), HJ, HW.out.drewN q, HB.out.drewN q⟩
        case measure => simp [intOf]; omega
    · obtain rfl : i = j := by omega
      go_wp2_with fail
      have HW0 := Lib.hid hW
      have HB0 := Lib.hid hB
      clear hW hB
      go_loopw [15] (fun vk wr => ∃ (k : Nat) (dk : Array α), vk = .int .i64 k ∧ i ≤ k ∧ k ≤ m ∧ Hid (MovD d dk a m (m - k)) ∧ SW enc w blk off dk wr ∧ Bx2 w.heap.size (.func (.func g) #[] lb) (.func (.func sf) #[] sb) wr) (fun vk _ => (intOf vk).toNat)
      case atStart => exact ⟨m, d, rfl, by omega, by omega, Lib.hid (by rw [Nat.sub_self]; exact MovD.zero d a m), HW0.out, HB0.out⟩
      case round =>
        obtain ⟨k, dk, rfl, hk, hki, HM, hW, hB⟩ := hrel
        by_cases hlk : i < k
        · have hds := HM.out.size
          have hs := hswap wr dk (hW.holds hblk hH hds) hds k (k - 1) (by omega) (by omega)
          rw [show ((k - 1 : Nat) : Int) = (k : Int) - 1 from by omega] at hs
          have HW := Lib.hid (hW.swap hblk k (k - 1) (by omega) (by omega))
          have HB := Lib.hid (hB.st2 hne (off + k) (off + (k - 1)) (enc dk[k - 1]!) (enc dk[k]!))
          obtain ⟨c0, c1, cl⟩ := hB
          clear hW
          have hk1 : (i : Int) < (k : Int) := by omega
          go_wp2
          go_roundw
          case rel => exact ⟨k - 1, swp dk k (k - 1), by go_num, by omega, by omega, Lib.hid (by
            have := HM.out.succ (by omega) (by omega)
            rw [show m - (m - k) = k from by omega, show m - k + 1 = m - (k - 1) from by omega] at this
            exact this), by first | exact HW.out | simpa using HW.out, by first | exact HB.out | simpa using HB.out⟩
          case measure => simp [intOf]; omega
        · have hk1 : ¬ (i : Int) < (k : Int) := by omega
          have hke : k = i := by omega
          have HW := Lib.hid hW
          go_wp2
          (try simp only [Exit.inBlock, Exit.then]); refine bodyPost_ret (results_none rfl _ _ _) rfl ?_
          refine ⟨rfl, dk, ?_, HW.out⟩
          have hM := HM.out
          rw [hke] at hM
          have hbb : b = m + 1 := K2.out
          have hXx := Hx.out
          rw [hbb] at hXx ⊢
          exact MovD.done o hM (by omega) (by omega) (by omega) Hl.out hXx HI.out HJ.out

end Go.Proofs.Ytgbblcbpmpokdaa

/- Walks over functions of this seat, by contract. Conditions: those that each theorem states. -/
import Derived.Test.YtgbblcbpmpokdaaS2
import Derived.Deep.DeepCutAuto
namespace Go.Proofs.Ytgbblcbpmpokdaa
open Go.RowKit Go.Sort

set_option maxHeartbeats 8000000 in
set_option maxRecDepth 100000 in
theorem symMerge_hi {α : Type} [Inhabited α] (enc : α → Value) (lt : α → α → Bool) (R V : α → α → Prop) (o : Ord lt R V) (g : Nat) (lb : Array Value) (sf : Nat) (sb : Array Value) (blk off : Nat)
    (eg : ∀ args w, (callFunc g args).run Try.prog w = .ok (.enter g args) w) (N : Nat)
    (ih : ∀ (a m b : Nat) (d : Array α) (w : World), b - a < N → LessReads Try.prog g lb enc lt blk off d.size w → SwapSwaps Try.prog sf sb enc blk off d.size → Holds enc w blk off d → blk < w.heap.size → a < m → m < b → b ≤ d.size → d.size < 4611686018427387904 →
      Srt R d a m → Srt R d m b → Crs V d a m b →
      Calls Try.prog 119 #[.agg #[.func (.func g) #[] lb, .func (.func sf) #[] sb], .int .i64 a, .int .i64 m, .int .i64 b] w fun e w' => e = .returned (.tuple #[]) ∧ ∃ d', Mrg R d d' a b ∧ SW enc w blk off d' w')
    (a m b : Nat) (d : Array α) (w : World) (hN : b - a < N + 1) (hless : LessReads Try.prog g lb enc lt blk off d.size w) (hswap : SwapSwaps Try.prog sf sb enc blk off d.size) (hH : Holds enc w blk off d) (hblk : blk < w.heap.size) (h1 : a < m) (h2 : m < b) (h3 : b ≤ d.size) (hsz : d.size < 4611686018427387904)
    (hl : Srt R d a m) (hr : Srt R d m b) (hx : Crs V d a m b) (k1 : ¬ m = a + 1) (k2 : ¬ b = m + 1) (hm : m ≤ (a + b) / 2) :
    Calls Try.prog 119 #[.agg #[.func (.func g) #[] lb, .func (.func sf) #[] sb], .int .i64 a, .int .i64 m, .int .i64 b] w fun e w' => e = .returned (.tuple #[]) ∧ ∃ d', Mrg R d d' a b ∧ SW enc w blk off d' w' := by
  have hne : w.heap.size ≠ blk := by omega
  have Hl := Lib.hid hl
  have Hr := Lib.hid hr
  have Hx := Lib.hid hx
  have LR : ∀ {D : Array α} {X : World}, SW enc w blk off D X → D.size = d.size → LessReads Try.prog g lb enc lt blk off d.size X := fun {D X} hA hs => SW.lessReads hA hless hblk hs
  obtain ⟨mid, hmid⟩ : ∃ mid, (a + b) / 2 = mid := ⟨_, rfl⟩
  rw [hmid] at hm
  have hmid' : ((a : Int) + (b : Int)) / 2 = (mid : Int) := by omega
  have e1 : ((m : Int) - (a : Int) == 1) = false := by rw [beq_eq_false_iff_ne]; omega
  have e2 : ((b : Int) - (m : Int) == 1) = false := by rw [beq_eq_false_iff_ne]; omega
  have hb1 : a + b < 2 * mid + 2 := by omega
  have hb2 : 2 * mid ≤ a + b := by omega
  have HM := Lib.hid hmid
  clear hmid hl hr hx
  have hm' : ¬ (mid : Int) < (m : Int) := by omega
  go_enter Try.func119, Try.ntmps119
  go_wp2_with fail
  go_loopw [18, 19] (fun vi vj wr => ∃ (i j : Nat), vi = .int .i64 i ∧ vj = .int .i64 j ∧ a ≤ i ∧ i ≤ j ∧ j ≤ m ∧ Hid (i = a ∨ lt d[mid + m - 1 - (i - 1)]! d[i - 1]! = false) ∧ Hid (j = m ∨ lt d[mid + m - 1 - j]! d[j]! = true) ∧ SW enc w blk off d wr ∧ Bx2 w.heap.size (.func (.func g) #[] lb) (.func (.func sf) #[] sb) wr) (fun vi vj _ => (intOf vj).toNat - (intOf vi).toNat)
  case atStart => exact ⟨a, m, by go_num, by go_num, by omega, by omega, by omega, Lib.hid (.inl rfl), Lib.hid (.inl rfl), (SW.start hH).alloc _, Bx2.new _ _ _ _⟩
  case round =>
    obtain ⟨i, j, rfl, rfl, hi, hij, hj, HI, HJ, hW, hB⟩ := hrel
    by_cases hlt : i < j
    · have hc := hW.less hless rfl (mid + m - 1 - (i + j) / 2) ((i + j) / 2) (by omega) (by omega)
      have HW := Lib.hid hW
      have HB := Lib.hid hB
      obtain ⟨c0, c1, cl⟩ := hB
      clear hW
      rw [show (((mid + m - 1 - (i + j) / 2 : Nat)) : Int) = (mid : Int) + (m : Int) - 1 - ((i : Int) + (j : Int)) / 2 from by omega, show ((((i + j) / 2 : Nat)) : Int) = ((i : Int) + (j : Int)) / 2 from by omega] at hc
      cases hv : lt d[mid + m - 1 - (i + j) / 2]! d[(i + j) / 2]! with
      | true =>
        have Hv := Lib.hid hv
        rw [hv] at hc
        clear hv
        go_wp2_with (go_at_fn g; refine hc.mono ?_; rintro e w1 ⟨rfl, q, rfl⟩)
        go_roundw
        case rel => exact ⟨i, (i + j) / 2, rfl, by go_num, by omega, by omega, by omega, HI, Lib.hid (.inr (Hv.out)), HW.out.drewN q, HB.out.drewN q⟩
        case measure => simp [intOf]; omega
      | false =>
        have Hv := Lib.hid hv
        rw [hv] at hc
        clear hv
        go_wp2_with (go_at_fn g; refine hc.mono ?_; rintro e w1 ⟨rfl, q, rfl⟩)
        go_roundw
        case rel => exact ⟨(i + j) / 2 + 1, j, by go_num, rfl, by omega, by omega, by omega, Lib.hid (.inr (by rw [Nat.add_sub_cancel]; exact Hv.out)), HJ, HW.out.drewN q, HB.out.drewN q⟩
        case measure => simp [intOf]; omega
    · obtain rfl : i = j := by omega
      obtain ⟨e, he⟩ : ∃ e, mid + m = i + e := ⟨mid + m - i, by omega⟩
      have he' : (mid : Int) + (m : Int) - (i : Int) = (e : Int) := by omega
      have HC : Hid (CutAt lt d a m b i) := Lib.hid (by
        have hm := HM.out
        refine ⟨by omega, by omega, by omega, by omega, by omega, ?_, ?_⟩
        · rw [hm]
          rcases HI.out with h | h
          · first | exact .inl (by omega) | exact .inr (.inl (by omega))
          · exact .inr (.inr h)
        · rw [hm]
          rcases HJ.out with h | h
          · first | exact .inl (by omega) | exact .inr (.inl (by omega))
          · exact .inr (.inr h))
      have HW0 := Lib.hid hW
      have HB0 := Lib.hid hB
      obtain ⟨c0, c1, cl⟩ := hB
      clear hW
      go_upto_region 40 with fail
      go_cut [145] (fun s wx => ∃ p : Bool, s = .bool p ∧ Hid (p = decide (i < m ∧ m < e)) ∧ wr = wx)
      case first =>
        by_cases q1 : i < m <;> by_cases q2 : m < e
        all_goals
          go_wp2_with fail
          go_meet
          exact ⟨_, rfl, Lib.hid (by simp [q1, q2]), rfl⟩
      case rest =>
      obtain ⟨p, rfl, Hp, hwc⟩ := hcut
      subst hwc
      go_upto_if 145 with fail
      go_cut [] (fun wx => ∃ d1 : Array α, Hid (Half R V d d1 a m b i) ∧ SW enc w blk off d1 wx ∧ Bx2 w.heap.size (.func (.func g) #[] lb) (.func (.func sf) #[] sb) wx)
      case first =>
        cases p with
        | true =>
          obtain ⟨q1, q2⟩ : i < m ∧ m < e := of_decide_eq_true Hp.out.symm
          have hds : d.size = d.size := rfl
          have hc := rotate enc (.func g) #[] lb sf sb blk off i m e d wr hswap (HW0.out.holds hblk hH rfl) (HW0.out.lt hblk) q1 q2 (by omega) hsz
          go_wp2_with (go_at_call 133; refine hc.mono ?_; rintro ee w1 ⟨rfl, d1, r1, k1⟩)
          go_meet
          exact ⟨d1, Lib.hid (Half.rot o HC.out h1 h2 h3 Hl.out Hr.out Hx.out (by rw [HM.out, show mid + m - i = e from by omega]; exact r1)), sw_then HW0.out hblk k1 r1.size, HB0.out.sw hne k1⟩
        | false =>
          have hno : ¬ (i < m ∧ m < e) := of_decide_eq_false Hp.out.symm
          go_wp2_with fail
          go_meet
          exact ⟨d, Lib.hid (Half.none o HC.out h1 h2 h3 Hl.out Hr.out Hx.out (by rw [HM.out]; omega)), HW0.out, HB0.out⟩
      case rest =>
      obtain ⟨d1, HF, hW1, hB1⟩ := hcut
      obtain ⟨wr1, hwr1⟩ : ∃ x : World, x = wc := ⟨_, rfl⟩
      subst hwr1
      clear c0 c1 cl
      have hd1 := HF.out.size
      have HW1 := Lib.hid hW1
      have HB1 := Lib.hid hB1
      obtain ⟨c0, c1, cl⟩ := hB1
      clear hW1
      go_upto_region 42 with fail
      go_cut [158] (fun s wx => ∃ p : Bool, s = .bool p ∧ Hid (p = decide (a < i ∧ i < mid)) ∧ wr1 = wx)
      case first =>
        by_cases q1 : a < i <;> by_cases q2 : i < mid
        all_goals
          go_wp2_with fail
          go_meet
          exact ⟨_, rfl, Lib.hid (by simp [q1, q2]), rfl⟩
      case rest =>
      obtain ⟨p, rfl, Hp, hwc⟩ := hcut
      subst hwc
      go_upto_if 158 with fail
      go_cut [] (fun wx => ∃ d2 : Array α, Hid (Mrg R d1 d2 a mid) ∧ SW enc w blk off d2 wx ∧ Bx2 w.heap.size (.func (.func g) #[] lb) (.func (.func sf) #[] sb) wx)
      case first =>
        cases p with
        | true =>
          obtain ⟨q1, q2⟩ : a < i ∧ i < mid := of_decide_eq_true Hp.out.symm
          have hc := ih a i mid d1 wr1 (by omega) (by rw [hd1]; exact LR (HW1.out) hd1) (by rw [hd1]; exact hswap) (HW1.out.holds hblk hH hd1) (HW1.out.lt hblk) q1 q2 (by omega) (by omega) HF.out.l1 (by rw [← HM.out]; exact HF.out.l2) (by rw [← HM.out]; exact HF.out.x1)
          go_wp2_with (go_at_call 119; refine hc.mono ?_; rintro ee w1 ⟨rfl, d2, r2, k2⟩)
          go_meet
          exact ⟨d2, Lib.hid r2, sw_then HW1.out hblk k2 (r2.perm.1), HB1.out.sw hne k2⟩
        | false =>
          have hno : ¬ (a < i ∧ i < mid) := of_decide_eq_false Hp.out.symm
          go_wp2_with fail
          go_meet
          exact ⟨d1, Lib.hid (by have := HF.out.left (by rw [HM.out]; omega); rw [HM.out] at this; exact this), HW1.out, HB1.out⟩
      case rest =>
      obtain ⟨d2, HG0, hW2, hB2⟩ := hcut
      obtain ⟨wr2, hwr2⟩ : ∃ x : World, x = wc := ⟨_, rfl⟩
      subst hwr2
      clear c0 c1 cl
      have HG : Hid (Mrg R d1 d2 a ((a + b) / 2)) := Lib.hid (by rw [HM.out]; exact HG0.out)
      have hd2 : d2.size = d.size := HG.out.perm.1.trans hd1
      have HW2 := Lib.hid hW2
      have HB2 := Lib.hid hB2
      obtain ⟨c0, c1, cl⟩ := hB2
      clear hW2
      have hme : mid + m - i = e := by omega
      have hsame : ∀ q, mid ≤ q → d2[q]! = d1[q]! := fun q hq => perm_same HG0.out.perm (.inr hq)
      go_upto_region 44 with fail
      go_cut [171] (fun s wx => ∃ p : Bool, s = .bool p ∧ Hid (p = decide (mid < e ∧ e < b)) ∧ wr2 = wx)
      case first =>
        by_cases q1 : mid < e <;> by_cases q2 : e < b
        all_goals
          go_wp2_with fail
          go_meet
          exact ⟨_, rfl, Lib.hid (by simp [q1, q2]), rfl⟩
      case rest =>
      obtain ⟨p, rfl, Hp, hwc⟩ := hcut
      subst hwc
      cases p with
      | true =>
        obtain ⟨q1, q2⟩ : mid < e ∧ e < b := of_decide_eq_true Hp.out.symm
        have R1 : Srt R d2 mid e := fun p q p1 p2 p3 => by
          rw [hsame p p1, hsame q (by omega)]
          have := HF.out.r1
          rw [HM.out, hme] at this
          exact this p q p1 p2 p3
        have R2 : Srt R d2 e b := fun p q p1 p2 p3 => by
          rw [hsame p (by omega), hsame q (by omega)]
          have := HF.out.r2
          rw [HM.out, hme] at this
          exact this p q p1 p2 p3
        have R3x : Crs V d2 mid e b := fun p q p1 p2 p3 p4 => by
          rw [hsame p p1, hsame q (by omega)]
          have := HF.out.x2
          rw [HM.out, hme] at this
          exact this p q p1 p2 p3 p4
        have hc := ih mid e b d2 wr2 (by omega) (by rw [hd2]; exact LR (HW2.out) hd2) (by rw [hd2]; exact hswap) (HW2.out.holds hblk hH hd2) (HW2.out.lt hblk) q1 q2 (by omega) (by omega) R1 R2 R3x
        go_wp2_with (go_at_call 119; refine hc.mono ?_; rintro ee w1 ⟨rfl, d3, r3, k3⟩)
        go_end0
        exact ⟨rfl, d3, Half.done HF.out h1 h2 h3 HG.out (by rw [HM.out]; exact r3), sw_then HW2.out hblk k3 (r3.perm.1)⟩
      | false =>
        have hno : ¬ (mid < e ∧ e < b) := of_decide_eq_false Hp.out.symm
        go_wp2_with fail
        go_end0
        exact ⟨rfl, d2, Half.done HF.out h1 h2 h3 HG.out (HF.out.right HG.out.perm (by rw [HM.out, hme]; omega)), HW2.out⟩

end Go.Proofs.Ytgbblcbpmpokdaa

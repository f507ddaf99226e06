/- Walks over functions of this seat, by contract. Conditions: those that each theorem states. -/
import Derived.Test.YtgbblcbpmpokdaaS3c
import Derived.Test.YtgbblcbpmpokdaaBlk
namespace Go.Proofs.Ytgbblcbpmpokdaa
open Go.RowKit Go.Sort

set_option maxHeartbeats 8000000 in
set_option maxRecDepth 100000 in
theorem stable {α : Type} [Inhabited α] (enc : α → Value) (lt : α → α → Bool) (R V : α → α → Prop) (o : Ord lt R V) (g : Nat) (lb : Array Value) (sf : Nat) (sb : Array Value) (blk off : Nat)
    (eg : ∀ args w, (callFunc g args).run Try.prog w = .ok (.enter g args) w)
    (n : Nat) (d : Array α) (w : World) (hn : d.size = n) (hless : LessReads Try.prog g lb enc lt blk off n w) (hswap : SwapSwaps Try.prog sf sb enc blk off n) (hH : Holds enc w blk off d) (hblk : blk < w.heap.size) (hsz : n < 1152921504606846976) (hv : Srt V d 0 n) :
    Calls Try.prog 93 #[.agg #[.func (.func g) #[] lb, .func (.func sf) #[] sb], .int .i64 n] w fun e w' => e = .returned (.tuple #[]) ∧ ∃ d', Mrg R d d' 0 n ∧ SW enc w blk off d' w' := by
  have hne : w.heap.size ≠ blk := by omega
  have ins : ∀ (a b : Nat) (dk : Array α) (W : World), SW enc w blk off dk W → dk.size = n → a ≤ b → b ≤ n → Calls Try.prog 118 #[.agg #[.func (.func g) #[] lb, .func (.func sf) #[] sb], .int .i64 a, .int .i64 b] W fun e w' => e = .returned (.tuple #[]) ∧ SW enc W blk off (Sort.insertionSort lt dk a b) w' := fun a b dk W hW hs hab hb => by
    have hc := Try.insertionSort_func_w enc lt g lb sf sb blk off a b dk W eg (by rw [hs]; exact hW.lessReads hless hblk hs) (by rw [hs]; exact hswap) (hW.holds hblk hH (by rw [hs, hn])) (hW.lt hblk) hab (by omega) (by omega)
    refine hc.mono ?_
    rintro e w' ⟨rfl, q, os, rfl⟩
    exact ⟨rfl, q, os, rfl⟩
  have mer : ∀ (a m b : Nat) (dk : Array α) (W : World), SW enc w blk off dk W → dk.size = n → a < m → m < b → b ≤ n → Srt R dk a m → Srt R dk m b → Crs V dk a m b → Calls Try.prog 119 #[.agg #[.func (.func g) #[] lb, .func (.func sf) #[] sb], .int .i64 a, .int .i64 m, .int .i64 b] W fun e w' => e = .returned (.tuple #[]) ∧ ∃ d', Mrg R dk d' a b ∧ SW enc W blk off d' w' := fun a m b dk W hW hs h1 h2 h3 r1 r2 r3 =>
    symMerge enc lt R V o g lb sf sb blk off eg (b - a + 1) a m b dk W (by omega) (by rw [hs]; exact hW.lessReads hless hblk hs) (by rw [hs]; exact hswap) (hW.holds hblk hH (by rw [hs, hn])) (hW.lt hblk) h1 h2 (by omega) (by omega) r1 r2 r3
  clear hless hswap
  have HV := Lib.hid hv
  clear hv
  go_enter Try.func93, Try.ntmps93
  go_wp2_with fail
  go_loopw [5, 6] (fun va vb wr => ∃ (j a : Nat) (dk : Array α), va = .int .i64 a ∧ vb = .int .i64 ((a + 20 : Nat) : Int) ∧ Hid (a = j * 20) ∧ a ≤ n ∧ Hid (Pass R V (fun d a x => Srt V d a x) d dk n 20 j) ∧ SW enc w blk off dk wr ∧ Bx2 w.heap.size (.func (.func g) #[] lb) (.func (.func sf) #[] sb) wr) (fun va _ _ => n - (intOf va).toNat)
  case atStart => exact ⟨0, 0, d, by go_num, by go_num, Lib.hid (by omega), by omega, Lib.hid (Pass.ins0 HV.out), (SW.start hH).alloc _, Bx2.new _ _ _ _⟩
  case round =>
    obtain ⟨j, a, dk, rfl, rfl, HA, han, HP, hW, hB⟩ := hrel
    have hds : dk.size = n := HP.out.perm.1.trans hn
    have HW := Lib.hid hW
    have HB := Lib.hid hB
    obtain ⟨c0, c1, cl⟩ := hB
    by_cases hlt : a + 20 ≤ n
    · have hc := ins a (a + 20) dk wr hW hds (by omega) hlt
      clear hW
      go_wp2_with (go_at_call 118; refine hc.mono ?_; rintro e w1 ⟨rfl, k1⟩)
      have hst : Pass R V (fun d a x => Srt V d a x) d (Sort.insertionSort lt dk a (a + 20)) n 20 (j + 1) := by
        have ha := HA.out
        have hsrt := HP.out.todo j (a + 20) (Nat.le_refl _) (by omega) hlt
        rw [← ha] at hsrt
        refine HP.out.step loc_srt (by omega) (b := a + 20) (by omega) (by omega) hlt (.inl (by omega)) ?_
        rw [← ha]
        exact ins_mrg o (by omega) (by omega) hsrt
      have hsi : (Sort.insertionSort lt dk a (a + 20)).size = n := hst.perm.1.trans hn
      have HS := Lib.hid hst
      clear hst
      go_roundw
      case rel => exact ⟨j + 1, a + 20, _, by go_num, by go_num, Lib.hid (by have := HA.out; omega), hlt, HS, sw_then HW.out hblk k1 (by rw [hsi, hds]), HB.out.sw hne k1⟩
      case measure => simp [intOf]; omega
    · have hc := ins a n dk wr hW hds han (Nat.le_refl _)
      clear hW
      go_wp2_with (go_at_call 118; refine hc.mono ?_; rintro e w1 ⟨rfl, k1⟩)
      have hst : Runs R V d (Sort.insertionSort lt dk a n) n 20 := by
        have ha := HA.out
        have hsrt := HP.out.todo j n (Nat.le_refl _) (by omega) (Nat.le_refl _)
        rw [← ha] at hsrt
        refine Pass.last (j := j + 1) (HP.out.step loc_srt (by omega) (b := n) (by omega) (by omega) (Nat.le_refl _) (.inr rfl) ?_) (by omega)
        rw [← ha]
        exact ins_mrg o (by omega) (by omega) hsrt
      have hsi : (Sort.insertionSort lt dk a n).size = n := hst.perm.1.trans hn
      have HS := Lib.hid hst
      have HW1 := Lib.hid (sw_then HW.out hblk k1 (by rw [hsi, hds]))
      have HB1 := Lib.hid (HB.out.sw hne k1)
      generalize Sort.insertionSort lt dk a n = d1 at hst hsi HS HW1
      clear hst c0 c1 cl k1 HW HB HP HA hlt
      go_loopw [4] (fun vs wr => ∃ (s : Nat) (dk : Array α), vs = .int .i64 s ∧ 0 < s ∧ Hid (Runs R V d dk n s) ∧ SW enc w blk off dk wr ∧ Bx2 w.heap.size (.func (.func g) #[] lb) (.func (.func sf) #[] sb) wr) (fun vs _ => n - (intOf vs).toNat)
      case atStart => exact ⟨20, d1, by go_num, by omega, HS, HW1.out, HB1.out⟩
      case round =>
        clear HS HW1 HB1
        obtain ⟨s, dk, rfl, hs0, HR, hW, hB⟩ := hrel
        by_cases hsn : s < n
        · have HW0 := Lib.hid hW
          have HB0 := Lib.hid hB
          clear hW hB
          go_wp2_with fail
          go_loopw [5, 6] (fun va vb wz => ∃ (j a : Nat) (dk : Array α), va = .int .i64 a ∧ vb = .int .i64 ((a + 2 * s : Nat) : Int) ∧ Hid (a = j * (2 * s)) ∧ a ≤ n ∧ Hid (Pass R V (Two R V s) d dk n (2 * s) j) ∧ SW enc w blk off dk wz ∧ Bx2 w.heap.size (.func (.func g) #[] lb) (.func (.func sf) #[] sb) wz) (fun va _ _ => n - (intOf va).toNat)
          case atStart => exact ⟨0, 0, dk, by go_num, by go_num, Lib.hid (by omega), by omega, Lib.hid HR.out.pass, HW0.out, HB0.out⟩
          case round =>
            clear HR HW0 HB0
            obtain ⟨j, a, dk, rfl, rfl, HA, han, HP, hW, hB⟩ := hrel
            have hds : dk.size = n := HP.out.perm.1.trans hn
            have HW := Lib.hid hW
            have HB := Lib.hid hB
            obtain ⟨c0, c1, cl⟩ := hB
            have tw : ∀ x, x ≤ a + 2 * s → x ≤ n → Two R V s dk a x := fun x x1 x2 => by
              have := HP.out.todo j x (Nat.le_refl _) (by rw [← HA.out]; exact x1) x2
              rwa [← HA.out] at this
            by_cases hlt : a + 2 * s ≤ n
            · obtain ⟨t1, t2, t3⟩ := tw (a + 2 * s) (Nat.le_refl _) hlt
              have hc := mer a (a + s) (a + 2 * s) dk wr hW hds (by omega) (by omega) hlt (t1 (a + s) (Nat.le_refl _) (by omega)) t2 t3
              clear hW tw t1 t2 t3
              go_wp2_with (go_at_call 119; refine hc.mono ?_; rintro e w1 ⟨rfl, d2, m2, k2⟩)
              have hs2 : d2.size = dk.size := m2.perm.1
              have HS : Hid (Pass R V (Two R V s) d d2 n (2 * s) (j + 1)) := Lib.hid (HP.out.step loc_two (by omega) (b := a + 2 * s) (by have := HA.out; omega) (by have := HA.out; omega) hlt (.inl (by have := HA.out; omega)) (by rw [← HA.out]; exact m2))
              go_roundw
              case rel => exact ⟨j + 1, a + 2 * s, d2, by go_num, by go_num, Lib.hid (by have := HA.out; rw [Nat.add_mul]; omega), hlt, HS, sw_then HW.out hblk k2 hs2, HB.out.sw hne k2⟩
              case measure => simp [intOf]; omega
            · obtain ⟨t1, t2, t3⟩ := tw n (by omega) (Nat.le_refl _)
              have hjn : n ≤ (j + 1) * (2 * s) := by have := HA.out; rw [Nat.add_mul]; omega
              by_cases hm : a + s < n
              · have hc := mer a (a + s) n dk wr hW hds (by omega) hm (Nat.le_refl _) (t1 (a + s) (Nat.le_refl _) (by omega)) t2 t3
                clear hW tw t1 t2 t3
                go_wp2_with (go_at_call 119; refine hc.mono ?_; rintro e w1 ⟨rfl, d2, m2, k2⟩)
                have hs2 : d2.size = dk.size := m2.perm.1
                have HS : Hid (Runs R V d d2 n (2 * s)) := Lib.hid ((HP.out.step loc_two (by omega) (b := n) (by have := HA.out; omega) (by have := HA.out; omega) (Nat.le_refl _) (.inr rfl) (by rw [← HA.out]; exact m2)).last hjn)
                go_roundw
                case rel => exact ⟨2 * s, d2, by go_num, by omega, HS, sw_then HW.out hblk k2 hs2, HB.out.sw hne k2⟩
                case measure => simp [intOf]; omega
              · have HS : Hid (Runs R V d dk n (2 * s)) := Lib.hid ((HP.out.step loc_two (by omega) (b := n) (by have := HA.out; omega) (by have := HA.out; omega) (Nat.le_refl _) (.inr rfl) (by rw [← HA.out]; exact ⟨permIn_refl _ _ _, t1 n (by omega) (Nat.le_refl _)⟩)).last hjn)
                clear hW tw t1 t2 t3
                go_wp2_with fail
                go_roundw
                case rel => exact ⟨2 * s, dk, by go_num, by omega, HS, HW.out, HB.out⟩
                case measure => simp [intOf]; omega
        · have HM : Hid (Mrg R d dk 0 n) := Lib.hid (HR.out.whole (by omega))
          have HW0 := Lib.hid hW
          clear hW hB
          go_wp2_with fail
          go_end0
          exact ⟨rfl, dk, HM.out, HW0.out⟩

end Go.Proofs.Ytgbblcbpmpokdaa

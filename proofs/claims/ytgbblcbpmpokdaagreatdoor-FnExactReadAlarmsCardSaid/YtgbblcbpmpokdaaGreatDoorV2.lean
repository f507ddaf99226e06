/- Walks over functions of this seat, by contract. Conditions: those that each theorem states. -/
import Derived.Test.YtgbblcbpmpokdaaGreatDoorV1
import Derived.Test.YtgbblcbpmpokdaaGreatDoorZ7
namespace Go.Proofs.YtgbblcbpmpokdaaGreatDoor
open Go.RowKit Go.Sort

theorem impl_LevelText_no (n : Int) (hn : lvl n = false) (w : World) : Calls Tryz.prog 28 #[.int .i64 n] w fun e w' => e = .returned (.string (bs [])) ∧ Below w.heap.size w w' := by
  go_enter Tryz.func28, Tryz.ntmps28
  go_wp2_with (go_at_call 48; refine (impl_ValidLevel _ _).mono ?_; rintro e w' ⟨rfl, rfl⟩; rw [hn])
  go_ret
  exact ⟨rfl, Below.refl _ _⟩
theorem impl_LevelT (n : Int) (w : World) (htab : Lib.TabIs Tryz.prog w "internal/strconv.uint64pow10" .u64 Lib.pow10Tab) :
    Calls Tryz.prog 28 #[.int .i64 n] w fun e w' => e = .returned (.string (bs (lvT n))) ∧ Below w.heap.size w w' := by
  rcases Bool.eq_false_or_eq_true (lvl n) with h | h
  · rw [lvT, if_pos h]; exact impl_LevelText n h w htab
  · rw [lvT, if_neg (by simp [h])]; exact impl_LevelText_no n h w
theorem rl_pos {l : List UInt8} {N : Int} (hN : nI l = N) (h : lvT N = l) : rl l = some N := by unfold rl; rw [hN, if_pos h]
theorem rl_neg {l : List UInt8} {N : Int} (hN : nI l = N) (h : ¬ lvT N = l) : rl l = none := by unfold rl; rw [hN, if_neg h]
theorem six_sl (w : World) (E : TypeId) : Sl (w.alloc (.cells #[.string ⟨#[43]⟩, .string ⟨#[]⟩, .string ⟨#[46]⟩, .string ⟨#[]⟩, .string ⟨#[109]⟩, .string ⟨#[]⟩] E)) (w.alloc (.cells #[.string ⟨#[43]⟩, .string ⟨#[]⟩, .string ⟨#[46]⟩, .string ⟨#[]⟩, .string ⟨#[109]⟩, .string ⟨#[]⟩] E)).heap.size 1 zscl (some ⟨w.heap.size, 0, none⟩) 6 [⟨#[43]⟩, ⟨#[]⟩, ⟨#[46]⟩, ⟨#[]⟩, ⟨#[109]⟩, ⟨#[]⟩] := by
  have hn := heap_alloc_new w (.cells #[.string ⟨#[43]⟩, .string ⟨#[]⟩, .string ⟨#[46]⟩, .string ⟨#[]⟩, .string ⟨#[109]⟩, .string ⟨#[]⟩] E)
  refine ⟨rfl, fun _ => ⟨w.heap.size, 0, rfl, by simp, fun k x hx j v hv => ?_⟩⟩
  have hj : j = 0 ∧ v = .string x := by
    rcases j with _ | j
    · simp [zscl] at hv; exact ⟨rfl, hv.symm⟩
    · simp [zscl] at hv
  obtain ⟨rfl, rfl⟩ := hj
  rcases k with _ | _ | _ | _ | _ | _ | k
  all_goals first
    | (injection hx with hx; subst hx; rw [cell_of_row _ _ _ _ _ (0, 0) hn]; rfl)
    | (simp at hx)
set_option maxHeartbeats 4000000 in
set_option maxRecDepth 100000 in
theorem impl_ReadLevel (l : List UInt8) (w : World) (hl : l.length ≤ 1048576) (htab : Lib.TabIs Tryz.prog w "internal/strconv.uint64pow10" .u64 Lib.pow10Tab)
    (tp1 : TypeId) (p1 : Value) (hv1 : w.var? Tryz.prog "strconv.ErrRange" = some #[.iface tp1 p1]) (tp2 : TypeId) (p2 : Value) (hv2 : w.var? Tryz.prog "strconv.ErrSyntax" = some #[.iface tp2 p2]) :
    Calls Tryz.prog 13 #[.string (bs l)] w fun e w' => e = .returned (.tuple #[.int .i64 ((rl l).getD 0), .bool (rl l).isSome]) ∧ Below w.heap.size w w' := by
  have hsz : (bs l).size = l.length := bs_size l
  have hsz2 : (bs l).size ≤ 2097152 := by omega
  obtain ⟨D, hD⟩ : ∃ D, dI l = D := ⟨_, rfl⟩
  have hDl : D.length ≤ 1048576 := by rw [← hD]; have := dI_len l; omega
  obtain ⟨m, hm⟩ : ∃ m, (rdF D).getD 0 = m := ⟨_, rfl⟩
  have hbd := getD_bd D
  rw [hm] at hbd
  obtain ⟨hb1, hb2⟩ := hbd
  obtain ⟨ok, hok⟩ : ∃ ok, (rdF D).isSome = ok := ⟨_, rfl⟩
  have hls : (bs l).toList = l := bs_toList _
  obtain ⟨T1, hT1⟩ : ∃ T1, Lib.trimLeftB (strip l) 48 = T1 := ⟨_, rfl⟩
  have q1 : ∀ W : World, Calls Tryz.prog 22 #[.string (bs (strip l)), .string ⟨#[48]⟩] W fun e w' => e = .returned (.string (bs T1)) ∧ w' = W := fun W => by
    have := Tryz.strings_TrimLeft_one (bs (strip l)) 48 (by decide) W
    rw [bs_list, hT1] at this; exact this
  have q2 : ∀ W : World, Calls Tryz.prog 25 #[.string (bs l), .string ⟨#[45]⟩] W fun e w' => e = .returned (.bool (Lib.hasPrefix l [45])) ∧ w' = W := fun W => Tryz.strings_HasPrefix (bs l) ⟨#[45]⟩ W
  have q3 := fun (W : World) (h1 : Lib.TabIs Tryz.prog W "internal/strconv.uint64pow10" .u64 Lib.pow10Tab) (h2 : W.var? Tryz.prog "strconv.ErrRange" = some #[.iface tp1 p1]) (h3 : W.var? Tryz.prog "strconv.ErrSyntax" = some #[.iface tp2 p2]) => impl_ReadDecimal D W hDl h1 tp1 p1 h2 tp2 p2 h3
  rw [hm, hok] at q3
  have Q1 := Lib.hid q1
  have Q3 := Lib.hid q3
  have HM := Lib.hid hm
  clear q1 q3 hok hm hDl
  rcases Bool.eq_false_or_eq_true (Lib.hasPrefix l [45]) with hp | hp
  · have hs : sI l = -1 := if_pos hp
    rw [hp] at q2
    have Q2 := Lib.hid q2
    obtain ⟨T2, hT2⟩ : ∃ T2, Lib.trimPrefix T1 [45] = T2 := ⟨_, rfl⟩
    have hd2 : Lib.trimLeftB T2 48 = D := by rw [← hD, dI, if_pos hp, hT1, hT2]
    have q4 : ∀ W : World, Calls Tryz.prog 26 #[.string (bs T1), .string ⟨#[45]⟩] W fun e w' => e = .returned (.string (bs T2)) ∧ w' = W := fun W => by
      have := Tryz.strings_TrimPrefix (bs T1) ⟨#[45]⟩ W
      rw [bs_list, show (⟨#[45]⟩ : ByteArray).data.toList = [45] from rfl, hT2] at this; exact this
    have q5 : ∀ W : World, Calls Tryz.prog 22 #[.string (bs T2), .string ⟨#[48]⟩] W fun e w' => e = .returned (.string (bs D)) ∧ w' = W := fun W => by
      have := Tryz.strings_TrimLeft_one (bs T2) 48 (by decide) W
      rw [bs_list, hd2] at this; exact this
    have Q4 := Lib.hid q4
    have Q5 := Lib.hid q5
    obtain ⟨N, hN⟩ : ∃ N : Int, -m = N := ⟨_, rfl⟩
    have hnI : nI l = N := by rw [nI, hs, hD]; have := HM.out; omega
    have q6 := fun (W : World) (h1 : Lib.TabIs Tryz.prog W "internal/strconv.uint64pow10" .u64 Lib.pow10Tab) => impl_LevelT N W h1
    have hse := str_eq (lvT N) l
    have HT1 := Lib.hid hd2
    clear q2 q4 q5 hd2 hT2 hs hp hD hT1
    by_cases heq : lvT N = l
    · have HR := Lib.hid (rl_pos hnI heq)
      have hst : ((bs (lvT N)).toList == (bs l).toList) = true := by rw [hse, decide_eq_true heq]
      have Hst := Lib.hid hst
      have Q6 := Lib.hid q6
      clear heq hse hst q6 hnI
      go_enter Tryz.func13, Tryz.ntmps13
      go_wp2_with fail
      refine (z_New _ _ (six_sl _ _)).mono ?_
      rintro e w1 ⟨b, g2, c, rfl, hb0, hbl, hB1, c0, c1, c3, c4, fr, hg, ho⟩
      have hB := below_one hB1
      have hS := (own_sl ho zscl_len).at_ (by decide)
      obtain ⟨b', off, he, hg2, hS⟩ := hS
      injection he with he
      injection he with he1 he2
      subst he1
      subst he2
      have hbase : w.heap.size ≤ b := Nat.le_trans (below_al (Below.refl _ w) (.cells #[.string ⟨#[43]⟩, .string ⟨#[]⟩, .string ⟨#[46]⟩, .string ⟨#[]⟩, .string ⟨#[109]⟩, .string ⟨#[]⟩] 9)).size hb0
      clear ho
      have q7 := z_Replace (fun s c w => Tryz.strings_Count_one s c w) w.heap.size b g2 c (bs l) w1 hsz2 hbase hbl c0 c1 c3 c4 fr hg hS
      rw [bs_list] at q7
      have Q7 := Lib.hid q7
      clear q7 hS c0 c1 c3 c4 fr
      go_wp2_with fail
      refine (Q7.out).mono ?_
      rintro e w2 ⟨rfl, hb2⟩
      have hB := hB.trans hb2
      go_wp2_with fail
      refine (Q1.out _).mono ?_
      rintro e w3 ⟨rfl, rfl⟩
      go_wp2_with fail
      refine (Q2.out _).mono ?_
      rintro e w3 ⟨rfl, rfl⟩
      go_wp2_with fail
      refine (Q4.out _).mono ?_
      rintro e w3 ⟨rfl, rfl⟩
      go_wp2_with fail
      refine (Q5.out _).mono ?_
      rintro e w3 ⟨rfl, rfl⟩
      go_wp2_with fail
      refine (Q3.out _ (tab_on htab hB) (var_on hv1 hB) (var_on hv2 hB)).mono ?_
      rintro e w3 ⟨rfl, hb3⟩
      have hB := below_then hB hb3
      go_wp2_with fail
      refine (Q6.out _ (tab_on htab hB)).mono ?_
      rintro e w4 ⟨rfl, hb4⟩
      have hB := below_then hB hb4
      have hst := Hst.out
      try rw [hls] at hst
      go_wp2_with fail
      go_ret2
      exact ⟨by rw [HR.out]; rfl, hB⟩
    · have HR := Lib.hid (rl_neg hnI heq)
      have hst : ((bs (lvT N)).toList == (bs l).toList) = false := by rw [hse, decide_eq_false heq]
      have Hst := Lib.hid hst
      have Q6 := Lib.hid q6
      clear heq hse hst q6 hnI
      go_enter Tryz.func13, Tryz.ntmps13
      go_wp2_with fail
      refine (z_New _ _ (six_sl _ _)).mono ?_
      rintro e w1 ⟨b, g2, c, rfl, hb0, hbl, hB1, c0, c1, c3, c4, fr, hg, ho⟩
      have hB := below_one hB1
      have hS := (own_sl ho zscl_len).at_ (by decide)
      obtain ⟨b', off, he, hg2, hS⟩ := hS
      injection he with he
      injection he with he1 he2
      subst he1
      subst he2
      have hbase : w.heap.size ≤ b := Nat.le_trans (below_al (Below.refl _ w) (.cells #[.string ⟨#[43]⟩, .string ⟨#[]⟩, .string ⟨#[46]⟩, .string ⟨#[]⟩, .string ⟨#[109]⟩, .string ⟨#[]⟩] 9)).size hb0
      clear ho
      have q7 := z_Replace (fun s c w => Tryz.strings_Count_one s c w) w.heap.size b g2 c (bs l) w1 hsz2 hbase hbl c0 c1 c3 c4 fr hg hS
      rw [bs_list] at q7
      have Q7 := Lib.hid q7
      clear q7 hS c0 c1 c3 c4 fr
      go_wp2_with fail
      refine (Q7.out).mono ?_
      rintro e w2 ⟨rfl, hb2⟩
      have hB := hB.trans hb2
      go_wp2_with fail
      refine (Q1.out _).mono ?_
      rintro e w3 ⟨rfl, rfl⟩
      go_wp2_with fail
      refine (Q2.out _).mono ?_
      rintro e w3 ⟨rfl, rfl⟩
      go_wp2_with fail
      refine (Q4.out _).mono ?_
      rintro e w3 ⟨rfl, rfl⟩
      go_wp2_with fail
      refine (Q5.out _).mono ?_
      rintro e w3 ⟨rfl, rfl⟩
      go_wp2_with fail
      refine (Q3.out _ (tab_on htab hB) (var_on hv1 hB) (var_on hv2 hB)).mono ?_
      rintro e w3 ⟨rfl, hb3⟩
      have hB := below_then hB hb3
      go_wp2_with fail
      refine (Q6.out _ (tab_on htab hB)).mono ?_
      rintro e w4 ⟨rfl, hb4⟩
      have hB := below_then hB hb4
      have hst := Hst.out
      try rw [hls] at hst
      go_wp2_with fail
      go_ret2
      exact ⟨by rw [HR.out]; rfl, hB⟩
  · have hs : sI l = 1 := if_neg (by simp [hp])
    rw [hp] at q2
    have Q2 := Lib.hid q2
    obtain rfl : T1 = D := by rw [← hD, dI, if_neg (by simp [hp]), hT1]
    obtain ⟨N, hN⟩ : ∃ N : Int, m = N := ⟨_, rfl⟩
    subst hN
    have hnI : nI l = m := by rw [nI, hs, hD]; have := HM.out; omega
    have q6 := fun (W : World) (h1 : Lib.TabIs Tryz.prog W "internal/strconv.uint64pow10" .u64 Lib.pow10Tab) => impl_LevelT m W h1
    have hse := str_eq (lvT m) l
    clear q2 hs hp hD hT1
    by_cases heq : lvT m = l
    · have HR := Lib.hid (rl_pos hnI heq)
      have hst : ((bs (lvT m)).toList == (bs l).toList) = true := by rw [hse, decide_eq_true heq]
      have Hst := Lib.hid hst
      have Q6 := Lib.hid q6
      clear heq hse hst q6 hnI
      go_enter Tryz.func13, Tryz.ntmps13
      go_wp2_with fail
      refine (z_New _ _ (six_sl _ _)).mono ?_
      rintro e w1 ⟨b, g2, c, rfl, hb0, hbl, hB1, c0, c1, c3, c4, fr, hg, ho⟩
      have hB := below_one hB1
      have hS := (own_sl ho zscl_len).at_ (by decide)
      obtain ⟨b', off, he, hg2, hS⟩ := hS
      injection he with he
      injection he with he1 he2
      subst he1
      subst he2
      have hbase : w.heap.size ≤ b := Nat.le_trans (below_al (Below.refl _ w) (.cells #[.string ⟨#[43]⟩, .string ⟨#[]⟩, .string ⟨#[46]⟩, .string ⟨#[]⟩, .string ⟨#[109]⟩, .string ⟨#[]⟩] 9)).size hb0
      clear ho
      have q7 := z_Replace (fun s c w => Tryz.strings_Count_one s c w) w.heap.size b g2 c (bs l) w1 hsz2 hbase hbl c0 c1 c3 c4 fr hg hS
      rw [bs_list] at q7
      have Q7 := Lib.hid q7
      clear q7 hS c0 c1 c3 c4 fr
      go_wp2_with fail
      refine (Q7.out).mono ?_
      rintro e w2 ⟨rfl, hb2⟩
      have hB := hB.trans hb2
      go_wp2_with fail
      refine (Q1.out _).mono ?_
      rintro e w3 ⟨rfl, rfl⟩
      go_wp2_with fail
      refine (Q2.out _).mono ?_
      rintro e w3 ⟨rfl, rfl⟩
      go_wp2_with fail
      refine (Q3.out _ (tab_on htab hB) (var_on hv1 hB) (var_on hv2 hB)).mono ?_
      rintro e w3 ⟨rfl, hb3⟩
      have hB := below_then hB hb3
      go_wp2_with fail
      refine (Q6.out _ (tab_on htab hB)).mono ?_
      rintro e w4 ⟨rfl, hb4⟩
      have hB := below_then hB hb4
      have hst := Hst.out
      try rw [hls] at hst
      go_wp2_with fail
      go_ret2
      exact ⟨by rw [HR.out]; rfl, hB⟩
    · have HR := Lib.hid (rl_neg hnI heq)
      have hst : ((bs (lvT m)).toList == (bs l).toList) = false := by rw [hse, decide_eq_false heq]
      have Hst := Lib.hid hst
      have Q6 := Lib.hid q6
      clear heq hse hst q6 hnI
      go_enter Tryz.func13, Tryz.ntmps13
      go_wp2_with fail
      refine (z_New _ _ (six_sl _ _)).mono ?_
      rintro e w1 ⟨b, g2, c, rfl, hb0, hbl, hB1, c0, c1, c3, c4, fr, hg, ho⟩
      have hB := below_one hB1
      have hS := (own_sl ho zscl_len).at_ (by decide)
      obtain ⟨b', off, he, hg2, hS⟩ := hS
      injection he with he
      injection he with he1 he2
      subst he1
      subst he2
      have hbase : w.heap.size ≤ b := Nat.le_trans (below_al (Below.refl _ w) (.cells #[.string ⟨#[43]⟩, .string ⟨#[]⟩, .string ⟨#[46]⟩, .string ⟨#[]⟩, .string ⟨#[109]⟩, .string ⟨#[]⟩] 9)).size hb0
      clear ho
      have q7 := z_Replace (fun s c w => Tryz.strings_Count_one s c w) w.heap.size b g2 c (bs l) w1 hsz2 hbase hbl c0 c1 c3 c4 fr hg hS
      rw [bs_list] at q7
      have Q7 := Lib.hid q7
      clear q7 hS c0 c1 c3 c4 fr
      go_wp2_with fail
      refine (Q7.out).mono ?_
      rintro e w2 ⟨rfl, hb2⟩
      have hB := hB.trans hb2
      go_wp2_with fail
      refine (Q1.out _).mono ?_
      rintro e w3 ⟨rfl, rfl⟩
      go_wp2_with fail
      refine (Q2.out _).mono ?_
      rintro e w3 ⟨rfl, rfl⟩
      go_wp2_with fail
      refine (Q3.out _ (tab_on htab hB) (var_on hv1 hB) (var_on hv2 hB)).mono ?_
      rintro e w3 ⟨rfl, hb3⟩
      have hB := below_then hB hb3
      go_wp2_with fail
      refine (Q6.out _ (tab_on htab hB)).mono ?_
      rintro e w4 ⟨rfl, hb4⟩
      have hB := below_then hB hb4
      have hst := Hst.out
      try rw [hls] at hst
      go_wp2_with fail
      go_ret2
      exact ⟨by rw [HR.out]; rfl, hB⟩

end Go.Proofs.YtgbblcbpmpokdaaGreatDoor

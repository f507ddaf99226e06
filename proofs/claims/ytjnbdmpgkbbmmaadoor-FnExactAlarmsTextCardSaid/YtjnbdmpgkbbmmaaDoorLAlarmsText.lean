/- Proves: the law AlarmsText returns true for every input and leaves its arguments as they were (the given statement). Conditions: none beyond the statement itself. -/
import Derived.Test.YtjnbdmpgkbbmmaaDoorD4
import Derived.Test.YtjnbdmpgkbbmmaaDoorTie
import Derived.Test.YtjnbdmpgkbbmmaaDoorCards
import Derived.SevenTiedAt
import Derived.ShutString
namespace Go.Proofs.YtjnbdmpgkbbmmaaDoor
open Go.RowKit Go.Sort

set_option maxHeartbeats 400000 in
theorem laws_eqInt64S (A A' : Option Addr) (n m c c' : Nat) (es fs : List Int) (w : World) (hmax : n ≤ 1048576) (hmax' : m ≤ 1048576) (h : Sl w w.heap.size 1 icell A n es) (h' : Sl w w.heap.size 1 icell A' m fs) :
    Calls Tryd.prog 27 #[.slice A n c, .slice A' m c'] w fun e w' => e = .returned (.bool (ieq es fs)) ∧ Below w.heap.size w w' := by
  have hl := h.len
  have hl' := h'.len
  by_cases hnm : n = m
  · subst hnm
    have Hl := Lib.hid hl
    have Hl' := Lib.hid hl'
    clear hl hl'
    go_enter Tryd.func27, Tryd.ntmps27
    go_wp2
    go_loopw [5] (fun i wr => ∃ k : Nat, k ≤ n ∧ i = .int .i64 k ∧ (∀ j, j < k → ∀ p q, es[j]? = some p → fs[j]? = some q → p = q) ∧ Below w.heap.size w wr) (fun i _ => n - (intOf i).toNat)
    case atStart => exact ⟨0, by omega, rfl, fun j hj => by omega, Below.refl _ _⟩
    case round =>
      obtain ⟨k, hk, rfl, hall, hbel⟩ := hrel
      have Hall := Lib.hid hall
      clear hall
      by_cases hlt : k < n
      · obtain ⟨b, off, rfl, hb, H⟩ := h.at_ (by omega)
        obtain ⟨p, hp⟩ := h.get hlt
        obtain ⟨b', off', rfl, hb', H'⟩ := h'.at_ (by omega)
        obtain ⟨q, hq⟩ := h'.get hlt
        have c0 := (H.below hbel hb).i1c (Nat.lt_of_lt_of_le hb hbel.size) hp
        have d0 := (H'.below hbel hb').i1c (Nat.lt_of_lt_of_le hb' hbel.size) hq
        have Hp := Lib.hid hp
        have Hq := Lib.hid hq
        clear hp hq
        go_wp2
        refine wp_region_quiet_below (by kernel_rfl) (by kernel_rfl) ?_
        repeat (go_big_quiet_step (fail))
        refine wpQuiet_nil ?_
        intro wq hwq
        have hbq := below_then hbel (below_of_class hwq)
        clear hwq c0 d0
        go_wp2
        · have hne : (p != q) = true := by assumption
          go_ret
          exact ⟨ret_bool (by rw [ieq_no Hp.out Hq.out (by simpa using hne)]), hbq⟩
        · have heq : (p != q) = false := by assumption
          go_roundw
          case rel =>
            refine ⟨k + 1, by omega, by go_num, ?_, hbq⟩
            intro j hj p' q' hp' hq'
            rcases Nat.lt_or_ge j k with h1 | h1
            · exact Hall.out j h1 p' q' hp' hq'
            · have : j = k := by omega
              subst this
              rw [Hp.out] at hp'; rw [Hq.out] at hq'
              injection hp' with hp'; injection hq' with hq'
              subst hp'; subst hq'; simpa using heq
          case measure => simp [intOf]; omega
      · go_wp2
        go_ret
        have hkn : k = n := by omega
        subst hkn
        exact ⟨ret_bool (by rw [ieq_yes (by rw [Hl.out, Hl'.out]) (fun j hj => Hall.out j (by rw [Hl.out] at hj; exact hj))]), hbel⟩
  · have hne : ((n : Int) != (m : Int)) = true := by rw [bne_iff_ne]; omega
    have Hl := Lib.hid hl
    have Hl' := Lib.hid hl'
    clear hl hl'
    go_enter Tryd.func27, Tryd.ntmps27
    go_wp2
    go_ret
    exact ⟨ret_bool (by rw [ieq_len (by rw [Hl.out, Hl'.out]; exact hnm)]), Below.refl _ _⟩
theorem info_int64 : (Tryd.prog.info? 2).map (fun i => (i.zero, i.size, i.bytes)) = some (some (.int .i64 0), 1, 8) := by kernel_rfl
theorem laws_toInt64S (A : Option Addr) (n c : Nat) (es : List Int) (w : World) (hmax : n ≤ 1048576) (h : Sl w w.heap.size 1 icell A n es) :
    Calls Tryd.prog 25 #[.slice A n c] w fun e w' => ∃ v, e = .returned v ∧ Own w' w.heap.size 2 1 icell v es ∧ Below w.heap.size w w' := by
  obtain ⟨i0, hi, hz0, hz1, hz2⟩ := info_parts info_int64
  have hmk := make_all Tryd.underlying47 hi hz0 n (by rw [hz2]; omega) (by omega)
  rw [hz1, Nat.mul_one] at hmk
  clear hi hz0 hz1 hz2
  have Hlen := Lib.hid h.len
  go_enter Tryd.func25, Tryd.ntmps25
  go_wp2
  clear hmk
  go_loopw [4] (fun i wr => ∃ k : Nat, k ≤ n ∧ i = .int .i64 k ∧ Row wr w.heap.size 2 n ((es.take k).flatMap icell) ∧ Below w.heap.size w wr) (fun i _ => n - (intOf i).toNat)
  case atStart => exact ⟨0, by omega, rfl, by simpa using Row.new w _ _ _, below_al (Below.refl _ _) _⟩
  case round =>
    obtain ⟨k, hk, rfl, hrow, hbel⟩ := hrel
    by_cases hlt : k < n
    · obtain ⟨b, off, rfl, hb, H⟩ := h.at_ (by omega)
      obtain ⟨e, he⟩ := h.get hlt
      have c0 := (H.below hbel hb).i1 he
      have He := Lib.hid he
      clear he
      obtain ⟨v0, x0⟩ := hrow.cell (i := k) (by omega)
      have f0 := hrow.frozen k
      go_wp2
      go_roundw
      case rel => exact ⟨k + 1, by omega, by go_num, by rw [take_flat He.out]; exact hrow.push1 (by rw [take_flat_len icell_len (by have := Hlen.out; omega), Nat.mul_one]) _ (by omega), below_st hbel _ (Nat.le_refl _) _⟩
      case measure => simp [intOf]; omega
    · go_wp2
      go_ret
      have hkn : k = n := by omega
      subst hkn
      have hlen : es.length = k := Hlen.out
      subst hlen
      rw [List.take_length] at hrow
      exact ⟨_, rfl, Row.own (by rw [Nat.mul_one]; exact hrow) icell_len (Nat.le_refl _) (by unfold maxLen; omega), hbel⟩
theorem laws_eqInt64S_self (A A' : Option Addr) (n m c c' : Nat) (es : List Int) (w : World) (hmax : n ≤ 1048576) (hmax' : m ≤ 1048576) (h : Sl w w.heap.size 1 icell A n es) (h' : Sl w w.heap.size 1 icell A' m es) :
    Calls Tryd.prog 27 #[.slice A n c, .slice A' m c'] w fun e w' => e = .returned (.bool true) ∧ Below w.heap.size w w' := by
  rw [← ieq_self es]; exact laws_eqInt64S A A' n m c c' es es w hmax hmax' h h'
set_option maxHeartbeats 4000000 in
theorem law_AlarmsText (A0 : Option Addr) (n0 c0 : Nat) (es0 : List Int) (w : World) (hr0 : n0 ≤ 9223372036854775807) (h0 : Sl w w.heap.size 1 icell A0 n0 es0) (htab : Lib.TabIs Tryd.prog w "internal/strconv.uint64pow10" .u64 Lib.pow10Tab) :
    Calls Tryd.prog 7 #[.slice A0 n0 c0] w fun e w' => e = .returned (.bool true) ∧ Below w.heap.size w w' := by
  by_cases hm0 : n0 ≤ 1048576
  rotate_left
  · go_enter Tryd.func7, Tryd.ntmps7
    go_wp2_with fail
    go_ret
    first | exact ⟨rfl, Below.refl _ _⟩ | exact ⟨rfl, below_al (Below.refl _ _) _⟩
  have m0 : n0 ≤ 1048576 := by omega
  have Hl0 := Lib.hid h0.len
  go_enter Tryd.func7, Tryd.ntmps7
  go_wp2_with fail
  refine (laws_toInt64S _ _ _ es0 _ m0 h0).mono ?_
  rintro e w1 ⟨v, rfl, o1, b1⟩
  have B1 := below_then (Below.refl _ _) b1
  obtain ⟨A1_, n1_, c1_, rfl, l1, k1_⟩ := own_shape o1
  have m1_ : n1_ ≤ 1048576 := by have := Hl0.out; omega
  have L1 := Lib.hid l1
  clear l1
  have O1 := Lib.hid o1
  clear o1
  go_wp2_with fail
  refine (spec_AlarmsText _ _ _ es0 _ m1_ (own_sl O1.out icell_len)).mono ?_
  rintro e w2 ⟨rfl, b2⟩
  have B2 := below_then B1 b2
  go_wp2_with fail
  refine (laws_toInt64S _ _ _ es0 _ m0 (h0.on B2)).mono ?_
  rintro e w3 ⟨v, rfl, o3, b3⟩
  have B3 := below_then B2 b3
  obtain ⟨A3_, n3_, c3_, rfl, l3, k3_⟩ := own_shape o3
  have m3_ : n3_ ≤ 1048576 := by have := Hl0.out; omega
  have L3 := Lib.hid l3
  clear l3
  have O3 := Lib.hid o3
  clear o3
  go_wp2_with fail
  refine (impl_AlarmsText _ _ _ es0 _ m3_ (own_sl O3.out icell_len) (tab_on htab B3)).mono ?_
  rintro e w4 ⟨rfl, b4⟩
  have B4 := below_then B3 b4
  go_wp2_with fail
  refine (laws_toInt64S _ _ _ es0 _ m0 (h0.on B4)).mono ?_
  rintro e w5 ⟨v, rfl, o5, b5⟩
  have B5 := below_then B4 b5
  obtain ⟨A5_, n5_, c5_, rfl, l5, k5_⟩ := own_shape o5
  have m5_ : n5_ ≤ 1048576 := by have := Hl0.out; omega
  have L5 := Lib.hid l5
  clear l5
  have O5 := Lib.hid o5
  clear o5
  go_wp2_with fail
  refine (laws_eqInt64S_self _ _ _ _ _ _ es0 _ m3_ m5_ (own_sl (Own.below (Own.below O3.out b4 (Nat.le_refl _)) b5 (Nat.le_refl _)) icell_len) (own_sl O5.out icell_len)).mono ?_
  rintro e w6 ⟨rfl, b6⟩
  have B6 := below_then B5 b6
  go_wp2_with fail
  go_ret
  exact ⟨rfl, B6⟩
open Go.ChangeShapes Go.WideShapes Go.ChangeAt Go.Deep Go.Joins
set_option maxRecDepth 100000
theorem door_met_AlarmsText (os : Os) (args : Array Value) : laidMetH Tryd.prog Rows.fnExactAlarmsTextRow.laid ((World.doorLaid Tryd.prog 62 os).forCall (fun _ _ => 0) ⟨#[], args, []⟩).memory :=
  laidMetH_of_parts3 (fuel := 8) (laidMet_of_run' 8 (by kernel_rfl) (by kernel_rfl)) (by kernel_rfl) (by kernel_rfl)
theorem laid_tab_AlarmsText {W : World} (hL : laidMet Tryd.prog Rows.fnExactAlarmsTextRow.laid W) : Lib.TabIs Tryd.prog W "internal/strconv.uint64pow10" .u64 Lib.pow10Tab := by
  have h := laidMet.tail (laidMet.tail (show laidMet Tryd.prog (_ :: _ :: _) W from hL))
  exact tabIs_first (g := 1) (t := 125) (e := 112) (n := 20) (by kernel_rfl) (by kernel_rfl) Tryd.underlying125 Tryd.underlying112 (by kernel_rfl) (by kernel_rfl) h
theorem lifted_AlarmsText (os : Os) (started : os.Started) (H : Type) (enc : TypeId × Value → H) :
    ReturnsInHanded {} Tryd.checked os 7 .any (fun w args => (Rows.fnExactAlarmsTextSpec.pre enc Tryd.prog Tryd.f7 [] false w args ∧ laidMetH Tryd.prog Rows.fnExactAlarmsTextRow.laid w) ∧ sizedMet enc Tryd.prog Tryd.f7 (OpenSpec.ofChange Rows.fnExactAlarmsTextSpec) false w args)
      (Rows.fnExactAlarmsTextSpec.post enc Tryd.prog Tryd.f7 false true false false) := by
  refine lift_law_laid (C := Tryd.checked) (by kernel_rfl) (by kernel_rfl) (s := Rows.fnExactAlarmsTextSpec) (T := 4) Tryd.underlying4 rfl rfl ?_ (by kernel_rfl) (by kernel_rfl) Tryd.func7 (laid := Rows.fnExactAlarmsTextRow.laid) (by kernel_rfl) started
    (ChangeSpec.witness_shaped (enc := enc) (C := Tryd.checked) (os := os) (X := fun w _ => laidMetH Tryd.prog Rows.fnExactAlarmsTextRow.laid w) false (World.doorLaid Tryd.prog 62 os) #[.slice none 0 0] 8 rfl (World.shaped_of_RefB (by kernel_rfl) (by kernel_rfl)) (by kernel_rfl) (by kernel_rfl) (by kernel_rfl) (door_met_AlarmsText os _)) ?_
  · intro H ds hl
    match ds, hl with
    | [d0], _ => rfl
  · intro W base args ds ps hval hlt hA hL hsh
    have hval' : ∀ (j : Nat) t v, (#[47] : Array TypeId)[j]? = some t → args[j]? = some v → Value.okWide Tryd.prog W .any base t v := hval
    have hA' : DataW.TrodAll enc Tryd.prog W 0 (fun _ => true) true [47] args.toList ds ps := hA
    obtain ⟨v0, d0, rfl, rfl, z0⟩ := trodAll_one hA'
    obtain ⟨A0, n0, c0, es0, rfl, hm0, hs0, _⟩ := open_int64s Tryd.underlying47 Tryd.underlying2 (by kernel_rfl) (hval' 0 47 v0 rfl rfl) z0
    exact law_AlarmsText A0 n0 c0 es0 W (by unfold maxLen at hm0; omega) hs0 (laid_tab_AlarmsText hL)
theorem row_AlarmsText : Rows.FnExactAlarmsTextSaid :=
  OpenClaim.holds_of_wide 7 Tryd.f7 rfl rfl rfl rfl rfl rfl rfl ⟨rfl, rfl, rfl, rfl, rfl⟩ rfl rfl rfl rfl rfl (by kernel_rfl) Tryd.func7 (by kernel_rfl)
    (of_decide_eq_true (by kernel_rfl)) (by unfold Func.isWrapper; first | (rw [if_pos (by decide +kernel)]; kernel_rfl) | (rw [if_neg (by decide +kernel)]; exact ⟨rfl, rfl⟩))
    (fun os started H enc _ => lifted_AlarmsText os started H enc)
theorem card_AlarmsText : Rows.FnExactAlarmsTextCardSaid :=
  Claim7.holds_tied_plain_at .later [] [.data, .data, .data] true (true, "d7e8a4f4a124d4b710e2c97cb3ea9323facd78c5137702fc7d393af6bd4d1af2") true
    row_AlarmsText (fun _ h => by cases h) (by kernel_rfl) (fun _ h => by cases h) fnExactAlarmsText_row_tie rfl ⟨rfl, rfl⟩ (by kernel_rfl) rfl
    (fun f fn hf hfn => by
      obtain rfl : f = 7 := Option.some.inj ((show Tryd.prog.funcNamed "loop.example/g01032/laws.FnExactAlarmsText" = some 7 by kernel_rfl).symm.trans hf) |>.symm
      obtain rfl : fn = Tryd.f7 := (Option.some.inj (Tryd.func7.symm.trans hfn)).symm
      exact ⟨by kernel_rfl, fun j t ht => by
        rw [Tryd.params7] at ht
        have hm : t ∈ [47] := by simpa using Array.mem_of_getElem? ht
        have hall : ([47].all fun u => !Tryd.prog.wantsStandIn u) = true := by kernel_rfl
        exact (show Tryd.prog.wantsStandIn t = false by simpa using List.all_eq_true.1 hall t hm)⟩)
    (by kernel_rfl)

end Go.Proofs.YtjnbdmpgkbbmmaaDoor

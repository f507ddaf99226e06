/- Proves: the law ReadAlarms returns true for every input and leaves its arguments as they were (the given statement). Conditions: none beyond the statement itself. -/
import Derived.Test.YtgbblcbpmpokdaaGreatDoorV6
import Derived.Test.YtgbblcbpmpokdaaGreatDoorTi
import Derived.Lay
import Derived.Test.YtgbblcbpmpokdaaGreatDoorTie
import Derived.Test.YtgbblcbpmpokdaaGreatDoorCards
import Derived.SevenTiedAt
import Derived.ShutString
import Derived.ChangeMaps5
import Derived.Shelf.Vars
namespace Go.Proofs.YtgbblcbpmpokdaaGreatDoor
open Go.RowKit Go.Sort

theorem maxLen_cell {w : World} (hsh : w.ShapedOpen Tryz.prog) : ∃ m, w.cell? ⟨0, 0, none⟩ = some (.int .i64 m) :=
  cell_of_shapedOpen_int (P := Tryz.prog) (g := 0) (t := 3) (zero := #[.int .i64 0]) hsh (of_decide_eq_true (by kernel_rfl)) (by kernel_rfl) rfl (by kernel_rfl) (by kernel_rfl) Tryz.underlying3
set_option maxHeartbeats 2000000 in
set_option maxRecDepth 100000 in
theorem law_ReadAlarms (s0 : ByteArray) (w : World) (htab : Lib.TabIs Tryz.prog w "internal/strconv.uint64pow10" .u64 Lib.pow10Tab)
    (tp1 : TypeId) (p1 : Value) (hv1 : w.var? Tryz.prog "strconv.ErrRange" = some #[.iface tp1 p1]) (tp2 : TypeId) (p2 : Value) (hv2 : w.var? Tryz.prog "strconv.ErrSyntax" = some #[.iface tp2 p2]) (hsh : w.ShapedOpen Tryz.prog) :
    Calls Tryz.prog 3 #[.string s0] w fun e w' => e = .returned (.bool true) ∧ Below w.heap.size w w' := by
  obtain ⟨l, rfl⟩ : ∃ l, s0 = bs l := ⟨_, (bs_of s0).symm⟩
  obtain ⟨m, hm⟩ := maxLen_cell hsh
  have h0 := cell_lt hm
  have hsz : (bs l).size = l.length := bs_size l
  by_cases hl : l.length ≤ 1048576
  case neg =>
    have hl' : (1048576 : Int) < (l.length : Int) := by omega
    go_enter Tryz.func3, Tryz.ntmps3
    go_wp2_with fail
    go_ret
    exact ⟨rfl, Below.refl _ _⟩
  have hl' : (l.length : Int) ≤ 1048576 := by omega
  have RB := raW_len ((spl 32 l).map bs)
  have c1 := fun W => spec_ReadAlarms l W hl
  have c2 := fun W hm ht h1 h2 => impl_ReadAlarms l W hl m hm ht tp1 p1 h1 tp2 p2 h2
  obtain ⟨es, hes⟩ : ∃ es, (raW ((spl 32 l).map bs)).getD [] = es := ⟨_, rfl⟩
  obtain ⟨ok, hok⟩ : ∃ ok, (raW ((spl 32 l).map bs)).isSome = ok := ⟨_, rfl⟩
  rw [hes, hok] at c1 c2
  rw [hes] at RB
  have C1 := Lib.hid c1
  have C2 := Lib.hid c2
  clear c1 c2 hes hok
  go_enter Tryz.func3, Tryz.ntmps3
  go_wp2_with fail
  refine (C1.out _).mono ?_
  rintro e w1 ⟨v1, rfl, o1, B1⟩
  obtain ⟨A1_, n1_, c1_, rfl, l1, _⟩ := own_shape o1
  have O1 := Lib.hid o1
  clear o1
  go_wp2_with fail
  refine (C2.out _ (cell_on hm B1 h0) (tab_on htab B1) (var_on hv1 B1) (var_on hv2 B1)).mono ?_
  rintro e w2 ⟨v2, rfl, o2, b2⟩
  have B2 := below_then B1 b2
  obtain ⟨A2_, n2_, c2_, rfl, l2, _⟩ := own_shape o2
  have O2 := Lib.hid o2
  clear o2
  go_wp2_with fail
  refine (laws_eqInt64S_self _ _ _ _ _ _ _ _ (by omega) (by omega) (own_sl O2.out icell_len) (own_sl (Own.below O1.out b2 (Nat.le_refl _)) icell_len)).mono ?_
  rintro e w3 ⟨rfl, b3⟩
  have B3 := below_then B2 b3
  go_wp2_with fail
  have O3 := Lib.hid (Own.below O2.out b3 (Nat.le_refl _))
  refine (laws_markInt64S _ _ _ _ _ _ (by omega) (by omega) (by omega) O3.out).mono ?_
  rintro e w4 ⟨rfl, p4, g4⟩
  have B4 := own_grown B3 O3.out B1.size B3.size g4
  have P4 := Lib.hid p4
  have O4 := Lib.hid (own_other (Own.below (Own.below O1.out b2 (Nat.le_refl _)) b3 (Nat.le_refl _)) (own_ne_lo O1.out O2.out (Nat.le_refl _)) g4)
  clear p4
  go_wp2_with fail
  refine (laws_heldInt64S _ _ _ _ _ (by omega) (by omega) (by omega) P4.out).mono ?_
  rintro e w' ⟨rfl, rfl⟩
  go_wp2_with fail
  refine (C2.out _ (cell_on hm B4 h0) (tab_on htab B4) (var_on hv1 B4) (var_on hv2 B4)).mono ?_
  rintro e w5 ⟨v5, rfl, o5, b5⟩
  have B5 := below_then B4 b5
  obtain ⟨A5_, n5_, c5_, rfl, l5, _⟩ := own_shape o5
  have O5 := Lib.hid o5
  clear o5
  go_wp2_with fail
  refine (laws_eqInt64S_self _ _ _ _ _ _ _ _ (by omega) (by omega) (own_sl O5.out icell_len) (own_sl (Own.below O4.out b5 (Nat.le_refl _)) icell_len)).mono ?_
  rintro e w6 ⟨rfl, b6⟩
  have B6 := below_then B5 b6
  go_wp2_with fail
  refine (laws_heldInt64S _ _ _ _ _ (by omega) (by omega) (by omega) (owns_below (owns_below P4.out b5 (Nat.le_refl _)) b6 (Nat.le_refl _))).mono ?_
  rintro e w' ⟨rfl, rfl⟩
  go_wp2_with fail
  go_ret
  exact ⟨rfl, B6⟩
open Go.ChangeShapes Go.WideShapes Go.ChangeAt Go.Deep Go.Joins
set_option maxRecDepth 100000
theorem door_met_ReadAlarms (os : Os) (args : Array Value) : laidMetH Tryz.prog Rows.fnExactReadAlarmsRow.laid ((World.laidAll Tryz.prog os Rows.fnExactReadAlarmsRow.laid).forCall (fun _ _ => 0) ⟨#[], args, []⟩).memory := by
  rw [MakeChecks.laidMetH_plain _ _ _ (by kernel_rfl)]; exact laidMet_laidAll _ (by kernel_rfl) (by kernel_rfl)
theorem laid_tab_ReadAlarms {W : World} (hL : laidMet Tryz.prog Rows.fnExactReadAlarmsRow.laid W) : Lib.TabIs Tryz.prog W "internal/strconv.uint64pow10" .u64 Lib.pow10Tab := by
  have h := laidMet.tail (laidMet.tail (show laidMet Tryz.prog (_ :: _ :: _) W from hL))
  exact tabIs_first (g := 5) (t := 159) (e := 107) (n := 20) (by kernel_rfl) (by kernel_rfl) Tryz.underlying159 Tryz.underlying107 (by kernel_rfl) (by kernel_rfl) h
theorem star_err : "*" ++ "errors.errorString" = "*errors.errorString" := by decide
theorem row_err (u : TypeId) (h : Tryz.prog.typeName? 3 u = some "*errors.errorString") : u = 155 :=
  typeName_ptr_named (nm := "errors.errorString") (by rw [star_err]; kernel_rfl) (by kernel_rfl) (by decide) u (by rw [star_err]; exact h)
theorem laid_range_ReadAlarms {W : World} (hL : laidMet Tryz.prog Rows.fnExactReadAlarmsRow.laid W) : ∃ tp p, W.var? Tryz.prog "strconv.ErrRange" = some #[.iface tp p] := by
  have h := laidMet.tail (laidMet.tail (laidMet.tail (laidMet.tail (show laidMet Tryz.prog (_ :: _ :: _ :: _ :: _) W from hL))))
  obtain ⟨a, s, hv, _⟩ := laid_sentinel h (g := 4) (by kernel_rfl) (by kernel_rfl) Tryz.underlying74 row_err Tryz.underlying155 Tryz.underlying157 rfl rfl Tryz.underlying9 (by kernel_rfl) (by kernel_rfl)
  exact ⟨_, _, hv⟩
theorem laid_syntax_ReadAlarms {W : World} (hL : laidMet Tryz.prog Rows.fnExactReadAlarmsRow.laid W) : ∃ tp p, W.var? Tryz.prog "strconv.ErrSyntax" = some #[.iface tp p] := by
  have h := laidMet.tail (laidMet.tail (laidMet.tail (laidMet.tail (laidMet.tail (show laidMet Tryz.prog (_ :: _ :: _ :: _ :: _ :: _) W from hL)))))
  obtain ⟨a, s, hv, _⟩ := laid_sentinel h (g := 3) (by kernel_rfl) (by kernel_rfl) Tryz.underlying74 row_err Tryz.underlying155 Tryz.underlying157 rfl rfl Tryz.underlying9 (by kernel_rfl) (by kernel_rfl)
  exact ⟨_, _, hv⟩
theorem lifted_ReadAlarms (os : Os) (started : os.Started) (H : Type) (enc : TypeId × Value → H) :
    ReturnsInHanded {} Tryz.checked os 3 .any (fun w args => (Rows.fnExactReadAlarmsSpec.pre enc Tryz.prog Tryz.f3 [] false w args ∧ laidMetH Tryz.prog Rows.fnExactReadAlarmsRow.laid w) ∧ sizedMet enc Tryz.prog Tryz.f3 (OpenSpec.ofChange Rows.fnExactReadAlarmsSpec) false w args)
      (Rows.fnExactReadAlarmsSpec.post enc Tryz.prog Tryz.f3 false true false false) := by
  refine lift_law_laid (C := Tryz.checked) (by kernel_rfl) (by kernel_rfl) (s := Rows.fnExactReadAlarmsSpec) (T := 4) Tryz.underlying4 rfl rfl ?_ (by kernel_rfl) (by kernel_rfl) Tryz.func3 (laid := Rows.fnExactReadAlarmsRow.laid) (by kernel_rfl) started
    (ChangeSpec.witness_shaped (enc := enc) (C := Tryz.checked) (os := os) (X := fun w _ => laidMetH Tryz.prog Rows.fnExactReadAlarmsRow.laid w) false (World.laidAll Tryz.prog os Rows.fnExactReadAlarmsRow.laid) #[.string ⟨#[]⟩] 8 (World.laidAll_os _ _ _) (World.shaped_of_ZipB (by kernel_rfl) (by kernel_rfl)) (by kernel_rfl) (by kernel_rfl) (by kernel_rfl) (door_met_ReadAlarms os _)) ?_
  · intro H ds hl
    match ds, hl with
    | [d0], _ => rfl
  · intro W base args ds ps hval hlt hA hL hsh
    have hval' : ∀ (j : Nat) t v, (#[9] : Array TypeId)[j]? = some t → args[j]? = some v → Value.okWide Tryz.prog W .any base t v := hval
    have hA' : DataW.TrodAll enc Tryz.prog W 0 (fun _ => true) true [9] args.toList ds ps := hA
    obtain ⟨v0, d0, rfl, rfl, z0⟩ := trodAll_one hA'
    obtain ⟨s0, rfl, _, _, hz0⟩ := Go.ChangeMaps.open_string Tryz.underlying9 (hval' 0 9 v0 rfl rfl) z0
    obtain ⟨tp1, p1, hv1⟩ := laid_range_ReadAlarms hL
    obtain ⟨tp2, p2, hv2⟩ := laid_syntax_ReadAlarms hL
    exact law_ReadAlarms s0 W (laid_tab_ReadAlarms hL) tp1 p1 hv1 tp2 p2 hv2 hsh
theorem row_ReadAlarms : Rows.FnExactReadAlarmsSaid :=
  OpenClaim.holds_of_wide 3 Tryz.f3 rfl rfl rfl rfl rfl rfl rfl ⟨rfl, rfl, rfl, rfl, rfl⟩ rfl rfl rfl rfl rfl (by kernel_rfl) Tryz.func3 (by kernel_rfl)
    (of_decide_eq_true (by kernel_rfl)) (by unfold Func.isWrapper; first | (rw [if_pos (by decide +kernel)]; kernel_rfl) | (rw [if_neg (by decide +kernel)]; exact ⟨rfl, rfl⟩))
    (fun os started H enc _ => lifted_ReadAlarms os started H enc)
theorem card_ReadAlarms : Rows.FnExactReadAlarmsCardSaid :=
  Claim7.holds_tied_plain_at .later [] [.data, .data, .data, .data, .sentinel, .sentinel, .pinned] true (true, "d170515632a545aa1df5eed31fe52f52ffe07e56d095906aaf245a1f9da41e6e") true
    row_ReadAlarms (fun _ h => by cases h) (by kernel_rfl) (fun _ h => by cases h) fnExactReadAlarms_row_tie rfl ⟨rfl, rfl⟩ (by kernel_rfl) rfl
    (fun f fn hf hfn => by
      obtain rfl : f = 3 := Option.some.inj ((show Tryz.prog.funcNamed "loop.example/g01032/laws.FnExactReadAlarms" = some 3 by kernel_rfl).symm.trans hf) |>.symm
      obtain rfl : fn = Tryz.f3 := (Option.some.inj (Tryz.func3.symm.trans hfn)).symm
      exact ⟨by kernel_rfl, fun j t ht => by
        rw [Tryz.params3] at ht
        have hm : t ∈ [9] := by simpa using Array.mem_of_getElem? ht
        have hall : ([9].all fun u => !Tryz.prog.wantsStandIn u) = true := by kernel_rfl
        exact (show Tryz.prog.wantsStandIn t = false by simpa using List.all_eq_true.1 hall t hm)⟩)
    (by kernel_rfl)

end Go.Proofs.YtgbblcbpmpokdaaGreatDoor

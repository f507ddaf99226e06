/- Proves: the law ReadGuard returns true for every input and leaves its arguments as they were (the given statement). Conditions: none beyond the statement itself. -/
import Derived.Test.YtjnbdmpgkbbmmaaDoorR10
import Derived.Test.YtjnbdmpgkbbmmaaDoorTie
import Derived.Test.YtjnbdmpgkbbmmaaDoorCards
import Derived.SevenTiedAt
import Derived.ShutString
import Derived.ChangeMaps5
import Derived.Shelf.Vars
namespace Go.Proofs.YtjnbdmpgkbbmmaaDoor
open Go.RowKit Go.Sort

theorem laws_toGuard (q : G3) (w : World) : Calls Tryd.prog 22 #[.agg #[.string q.s, .int .i64 q.a, .int .i64 q.b]] w fun e w' => e = .returned (.agg #[.string q.s, .int .i64 q.a, .int .i64 q.b]) ∧ Below w.heap.size w w' := by
  go_enter Tryd.func22, Tryd.ntmps22
  go_wp2
  exact bodyPost_ret (v := .agg #[.string q.s, .int .i64 q.a, .int .i64 q.b]) (by simp [results, Tryd.results22, go_sem]) rfl
    ⟨rfl, below_al (below_al (below_al (Below.refl _ _) _) _) _⟩
theorem laws_eqGuard (p q : G3) (w : World) : Calls Tryd.prog 33 #[.agg #[.string p.s, .int .i64 p.a, .int .i64 p.b], .agg #[.string q.s, .int .i64 q.a, .int .i64 q.b]] w fun e w' => e = .returned (.bool (g3eq p q)) ∧ Below w.heap.size w w' := by
  go_enter Tryd.func33, Tryd.ntmps33
  go_wp2
  all_goals (go_ret; exact ⟨ret_bool (by simp_all [g3eq]), below_al (below_al (Below.refl _ _) _) _⟩)
theorem cell_lt {w : World} {b o : Nat} {v : Value} (h : w.cell? ⟨b, o, none⟩ = some v) : b < w.heap.size := by
  rcases Nat.lt_or_ge b w.heap.size with h' | h'
  · exact h'
  · simp [World.cell?, Array.getElem?_eq_none h'] at h
theorem maxLen_cell {w : World} (hsh : w.ShapedOpen Tryd.prog) : ∃ m, w.cell? ⟨0, 0, none⟩ = some (.int .i64 m) :=
  cell_of_shapedOpen_int (P := Tryd.prog) (g := 0) (t := 3) (zero := #[.int .i64 0]) hsh (of_decide_eq_true (by kernel_rfl)) (by kernel_rfl) rfl (by kernel_rfl) (by kernel_rfl) Tryd.underlying3
set_option maxHeartbeats 2000000 in
set_option maxRecDepth 100000 in
theorem law_ReadGuard (s0 : ByteArray) (w : World) (htab : Lib.TabIs Tryd.prog w "internal/strconv.uint64pow10" .u64 Lib.pow10Tab)
    (tp1 : TypeId) (p1 : Value) (hv1 : w.var? Tryd.prog "strconv.ErrRange" = some #[.iface tp1 p1]) (tp2 : TypeId) (p2 : Value) (hv2 : w.var? Tryd.prog "strconv.ErrSyntax" = some #[.iface tp2 p2]) (hsh : w.ShapedOpen Tryd.prog) :
    Calls Tryd.prog 9 #[.string s0] w fun e w' => e = .returned (.bool true) ∧ Below w.heap.size w w' := by
  obtain ⟨l, rfl⟩ : ∃ l, s0 = bs l := ⟨_, (bs_of s0).symm⟩
  obtain ⟨m, hm⟩ : ∃ m, w.cell? ⟨0, 0, none⟩ = some (.int .i64 m) := maxLen_cell hsh
  have h0 : 0 < w.heap.size := cell_lt hm
  have hsz : (bs l).size = l.length := bs_size l
  by_cases hl : l.length ≤ 1048576
  case neg =>
    have hl' : (1048576 : Int) < (l.length : Int) := by omega
    go_enter Tryd.func9, Tryd.ntmps9
    go_wp2_with fail
    go_ret
    exact ⟨rfl, Below.refl _ _⟩
  have hl' : (l.length : Int) ≤ 1048576 := by omega
  obtain ⟨q, b, hq⟩ : ∃ (q : G3) (b : Bool), resG (readG (spl 32 l)) = .tuple #[.agg #[.string q.s, .int .i64 q.a, .int .i64 q.b], .bool b] := ⟨⟨_, _, _⟩, _, rfl⟩
  have c1 := fun W => spec_ReadGuard l W hl
  have c2 := fun W hm h0 ht h1 h2 => impl_ReadGuard l W hl m hm h0 ht tp1 p1 h1 tp2 p2 h2
  rw [guards_read, hq] at c2
  rw [hq] at c1
  have C1 := Lib.hid c1
  have C2 := Lib.hid c2
  clear c1 c2 hq
  go_enter Tryd.func9, Tryd.ntmps9
  go_wp2_with (go_at_call 31; refine (C1.out _).mono ?_; rintro e w1 ⟨rfl, hb1⟩)
  go_wp2_with fail
  refine (C2.out _ (cell_on hm (below_al hb1 _) h0) (Nat.lt_of_lt_of_le h0 (below_al hb1 _).size) (tab_on htab (below_al hb1 _)) (var_on hv1 (below_al hb1 _)) (var_on hv2 (below_al hb1 _))).mono ?_
  rintro e w2 ⟨rfl, hb2⟩
  have hB := below_then (below_al hb1 _) hb2
  obtain ⟨y0, y1, y2, _, yl⟩ := box3s hb2
  go_wp2_with fail
  refine (laws_eqGuard q q _).mono ?_
  rintro e w3 ⟨rfl, hb3⟩
  rw [g3eq_self]
  go_wp2_with fail
  go_ret
  exact ⟨rfl, below_then (below_al hB _) hb3⟩
open Go.ChangeShapes Go.WideShapes Go.ChangeAt Go.Deep Go.Joins
set_option maxRecDepth 100000
theorem door_met_ReadGuard (os : Os) (args : Array Value) : laidMetH Tryd.prog Rows.fnExactReadGuardRow.laid ((World.doorLaid Tryd.prog 62 os).forCall (fun _ _ => 0) ⟨#[], args, []⟩).memory :=
  laidMetH_of_parts3 (fuel := 8) (laidMet_of_run' 8 (by kernel_rfl) (by kernel_rfl)) (by kernel_rfl) (by kernel_rfl)
theorem laid_tab_ReadGuard {W : World} (hL : laidMet Tryd.prog Rows.fnExactReadGuardRow.laid W) : Lib.TabIs Tryd.prog W "internal/strconv.uint64pow10" .u64 Lib.pow10Tab := by
  have h := laidMet.tail (laidMet.tail (show laidMet Tryd.prog (_ :: _ :: _) W from hL))
  exact tabIs_first (g := 1) (t := 125) (e := 112) (n := 20) (by kernel_rfl) (by kernel_rfl) Tryd.underlying125 Tryd.underlying112 (by kernel_rfl) (by kernel_rfl) h
theorem star_err : "*" ++ "errors.errorString" = "*errors.errorString" := by decide
theorem row_err (u : TypeId) (h : Tryd.prog.typeName? 3 u = some "*errors.errorString") : u = 147 :=
  typeName_ptr_named (nm := "errors.errorString") (by rw [star_err]; kernel_rfl) (by kernel_rfl) (by decide) u (by rw [star_err]; exact h)
theorem laid_range_ReadGuard {W : World} (hL : laidMet Tryd.prog Rows.fnExactReadGuardRow.laid W) : ∃ tp p, W.var? Tryd.prog "strconv.ErrRange" = some #[.iface tp p] := by
  have h := laidMet.tail (laidMet.tail (laidMet.tail (show laidMet Tryd.prog (_ :: _ :: _ :: _) W from hL)))
  obtain ⟨a, s, hv, _⟩ := laid_sentinel h (g := 3) (by kernel_rfl) (by kernel_rfl) Tryd.underlying95 row_err Tryd.underlying147 Tryd.underlying149 rfl rfl Tryd.underlying9 (by kernel_rfl) (by kernel_rfl)
  exact ⟨_, _, hv⟩
theorem laid_syntax_ReadGuard {W : World} (hL : laidMet Tryd.prog Rows.fnExactReadGuardRow.laid W) : ∃ tp p, W.var? Tryd.prog "strconv.ErrSyntax" = some #[.iface tp p] := by
  have h := laidMet.tail (laidMet.tail (laidMet.tail (laidMet.tail (show laidMet Tryd.prog (_ :: _ :: _ :: _ :: _) W from hL))))
  obtain ⟨a, s, hv, _⟩ := laid_sentinel h (g := 2) (by kernel_rfl) (by kernel_rfl) Tryd.underlying95 row_err Tryd.underlying147 Tryd.underlying149 rfl rfl Tryd.underlying9 (by kernel_rfl) (by kernel_rfl)
  exact ⟨_, _, hv⟩
theorem lifted_ReadGuard (os : Os) (started : os.Started) (H : Type) (enc : TypeId × Value → H) :
    ReturnsInHanded {} Tryd.checked os 9 .any (fun w args => (Rows.fnExactReadGuardSpec.pre enc Tryd.prog Tryd.f9 [] false w args ∧ laidMetH Tryd.prog Rows.fnExactReadGuardRow.laid w) ∧ sizedMet enc Tryd.prog Tryd.f9 (OpenSpec.ofChange Rows.fnExactReadGuardSpec) false w args)
      (Rows.fnExactReadGuardSpec.post enc Tryd.prog Tryd.f9 false true false false) := by
  refine lift_law_laid (C := Tryd.checked) (by kernel_rfl) (by kernel_rfl) (s := Rows.fnExactReadGuardSpec) (T := 4) Tryd.underlying4 rfl rfl ?_ (by kernel_rfl) (by kernel_rfl) Tryd.func9 (laid := Rows.fnExactReadGuardRow.laid) (by kernel_rfl) started
    (ChangeSpec.witness_shaped (enc := enc) (C := Tryd.checked) (os := os) (X := fun w _ => laidMetH Tryd.prog Rows.fnExactReadGuardRow.laid w) false (World.doorLaid Tryd.prog 62 os) #[.string ⟨#[]⟩] 8 rfl (World.shaped_of_RefB (by kernel_rfl) (by kernel_rfl)) (by kernel_rfl) (by kernel_rfl) (by kernel_rfl) (door_met_ReadGuard os _)) ?_
  · intro H ds hl
    match ds, hl with
    | [d0], _ => rfl
  · intro W base args ds ps hval hlt hA hL hsh
    have hval' : ∀ (j : Nat) t v, (#[9] : Array TypeId)[j]? = some t → args[j]? = some v → Value.okWide Tryd.prog W .any base t v := hval
    have hA' : DataW.TrodAll enc Tryd.prog W 0 (fun _ => true) true [9] args.toList ds ps := hA
    obtain ⟨v0, d0, rfl, rfl, z0⟩ := trodAll_one hA'
    obtain ⟨s0, rfl, _, _, hz0⟩ := Go.ChangeMaps.open_string Tryd.underlying9 (hval' 0 9 v0 rfl rfl) z0
    obtain ⟨tp1, p1, hv1⟩ := laid_range_ReadGuard hL
    obtain ⟨tp2, p2, hv2⟩ := laid_syntax_ReadGuard hL
    exact law_ReadGuard s0 W (laid_tab_ReadGuard hL) tp1 p1 hv1 tp2 p2 hv2 hsh
theorem row_ReadGuard : Rows.FnExactReadGuardSaid :=
  OpenClaim.holds_of_wide 9 Tryd.f9 rfl rfl rfl rfl rfl rfl rfl ⟨rfl, rfl, rfl, rfl, rfl⟩ rfl rfl rfl rfl rfl (by kernel_rfl) Tryd.func9 (by kernel_rfl)
    (of_decide_eq_true (by kernel_rfl)) (by unfold Func.isWrapper; first | (rw [if_pos (by decide +kernel)]; kernel_rfl) | (rw [if_neg (by decide +kernel)]; exact ⟨rfl, rfl⟩))
    (fun os started H enc _ => lifted_ReadGuard os started H enc)
theorem card_ReadGuard : Rows.FnExactReadGuardCardSaid :=
  Claim7.holds_tied_plain_at .later [] [.data, .data, .data, .sentinel, .sentinel] true (true, "d7e8a4f4a124d4b710e2c97cb3ea9323facd78c5137702fc7d393af6bd4d1af2") true
    row_ReadGuard (fun _ h => by cases h) (by kernel_rfl) (fun _ h => by cases h) fnExactReadGuard_row_tie rfl ⟨rfl, rfl⟩ (by kernel_rfl) rfl
    (fun f fn hf hfn => by
      obtain rfl : f = 9 := Option.some.inj ((show Tryd.prog.funcNamed "loop.example/g01032/laws.FnExactReadGuard" = some 9 by kernel_rfl).symm.trans hf) |>.symm
      obtain rfl : fn = Tryd.f9 := (Option.some.inj (Tryd.func9.symm.trans hfn)).symm
      exact ⟨by kernel_rfl, fun j t ht => by
        rw [Tryd.params9] at ht
        have hm : t ∈ [9] := by simpa using Array.mem_of_getElem? ht
        have hall : ([9].all fun u => !Tryd.prog.wantsStandIn u) = true := by kernel_rfl
        exact (show Tryd.prog.wantsStandIn t = false by simpa using List.all_eq_true.1 hall t hm)⟩)
    (by kernel_rfl)

end Go.Proofs.YtjnbdmpgkbbmmaaDoor

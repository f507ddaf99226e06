/- Proves: the law ReadDefect returns true for every input and leaves its arguments as they were (the given statement). Conditions: none beyond the statement itself. -/
import Derived.Test.YtogjkcakoahpiaaDoorR8
import Derived.Test.YtogjkcakoahpiaaDoorTie
import Derived.Test.YtogjkcakoahpiaaDoorCards
import Derived.SevenTiedAt
import Derived.ShutString
import Derived.ChangeMaps5
import Derived.Shelf.Vars
namespace Go.Proofs.YtogjkcakoahpiaaDoor
open Go.RowKit Go.Sort

theorem laws_toDefect (q : Q4) (w : World) : Calls Tryd.prog 9 #[.agg #[.int .i64 q.a, .int .i64 q.b, .int .i64 q.c, .int .i64 q.d]] w fun e w' => e = .returned (.agg #[.int .i64 q.a, .int .i64 q.b, .int .i64 q.c, .int .i64 q.d]) ∧ Below w.heap.size w w' := by
  go_enter Tryd.func9, Tryd.ntmps9
  go_wp2
  exact bodyPost_ret (v := .agg #[.int .i64 q.a, .int .i64 q.b, .int .i64 q.c, .int .i64 q.d]) (by simp [results, Tryd.results9, go_sem]) rfl
    ⟨rfl, below_al (below_al (below_al (Below.refl _ _) _) _) _⟩
theorem laws_eqDefect (p q : Q4) (w : World) : Calls Tryd.prog 7 #[.agg #[.int .i64 p.a, .int .i64 p.b, .int .i64 p.c, .int .i64 p.d], .agg #[.int .i64 q.a, .int .i64 q.b, .int .i64 q.c, .int .i64 q.d]] w fun e w' => e = .returned (.bool (q4eq p q)) ∧ Below w.heap.size w w' := by
  go_enter Tryd.func7, Tryd.ntmps7
  go_wp2
  all_goals (go_ret; exact ⟨ret_bool (by simp_all [q4eq]), below_al (below_al (Below.refl _ _) _) _⟩)
set_option maxHeartbeats 2000000 in
set_option maxRecDepth 100000 in
theorem law_ReadDefect (s0 : ByteArray) (w : World) (htab : Lib.TabIs Tryd.prog w "internal/strconv.uint64pow10" .u64 Lib.pow10Tab)
    (tp1 : TypeId) (p1 : Value) (hv1 : w.var? Tryd.prog "strconv.ErrRange" = some #[.iface tp1 p1]) (tp2 : TypeId) (p2 : Value) (hv2 : w.var? Tryd.prog "strconv.ErrSyntax" = some #[.iface tp2 p2]) :
    Calls Tryd.prog 3 #[.string s0] w fun e w' => e = .returned (.bool true) ∧ Below w.heap.size w w' := by
  obtain ⟨l, rfl⟩ : ∃ l, s0 = bs l := ⟨_, (bs_of s0).symm⟩
  have hsz : (bs l).size = l.length := bs_size l
  by_cases hl : l.length ≤ 1048576
  case neg =>
    have hl' : (1048576 : Int) < (l.length : Int) := by omega
    go_enter Tryd.func3, Tryd.ntmps3
    go_wp2_with fail
    go_ret
    exact ⟨rfl, Below.refl _ _⟩
  have hl' : (l.length : Int) ≤ 1048576 := by omega
  obtain ⟨q, b, hq⟩ : ∃ (q : Q4) (b : Bool), resQ (readF (spl 32 l)) = .tuple #[.agg #[.int .i64 q.a, .int .i64 q.b, .int .i64 q.c, .int .i64 q.d], .bool b] := ⟨⟨_, _, _, _⟩, _, rfl⟩
  have c1 := fun W => spec_ReadDefect l W hl
  have c2 := fun W ht h1 h2 => impl_ReadDefect l W hl ht tp1 p1 h1 tp2 p2 h2
  rw [defects_read, hq] at c2
  rw [hq] at c1
  have C1 := Lib.hid c1
  have C2 := Lib.hid c2
  clear c1 c2 hq
  go_enter Tryd.func3, Tryd.ntmps3
  go_wp2_with (go_at_call 5; refine (C1.out _).mono ?_; rintro e w1 ⟨rfl, hb1⟩)
  go_wp2_with fail
  refine (C2.out _ (tab_on htab (below_al hb1 _)) (var_on hv1 (below_al hb1 _)) (var_on hv2 (below_al hb1 _))).mono ?_
  rintro e w2 ⟨rfl, hb2⟩
  have hB := below_then (below_al hb1 _) hb2
  obtain ⟨y0, y1, y2, y3, _, yl⟩ := box4s hb2
  go_wp2_with fail
  refine (laws_eqDefect q q _).mono ?_
  rintro e w3 ⟨rfl, hb3⟩
  rw [q4eq_self]
  go_wp2_with fail
  go_ret
  exact ⟨rfl, below_then (below_al hB _) hb3⟩
open Go.ChangeShapes Go.WideShapes Go.ChangeAt Go.Deep Go.Joins
set_option maxRecDepth 100000
theorem door_met_ReadDefect (os : Os) (args : Array Value) : laidMetH Tryd.prog Rows.fnExactReadDefectRow.laid ((World.doorLaid Tryd.prog 62 os).forCall (fun _ _ => 0) ⟨#[], args, []⟩).memory :=
  laidMetH_of_parts3 (fuel := 8) (laidMet_of_run' 8 (by kernel_rfl) (by kernel_rfl)) (by kernel_rfl) (by kernel_rfl)
theorem laid_tab_ReadDefect {W : World} (hL : laidMet Tryd.prog Rows.fnExactReadDefectRow.laid W) : Lib.TabIs Tryd.prog W "internal/strconv.uint64pow10" .u64 Lib.pow10Tab := by
  have h := laidMet.tail (laidMet.tail (show laidMet Tryd.prog (_ :: _ :: _) W from hL))
  exact tabIs_first (g := 0) (t := 75) (e := 60) (n := 20) (by kernel_rfl) (by kernel_rfl) Tryd.underlying75 Tryd.underlying60 (by kernel_rfl) (by kernel_rfl) h
theorem star_err : "*" ++ "errors.errorString" = "*errors.errorString" := by decide
theorem row_err (u : TypeId) (h : Tryd.prog.typeName? 3 u = some "*errors.errorString") : u = 87 :=
  typeName_ptr_named (nm := "errors.errorString") (by rw [star_err]; kernel_rfl) (by kernel_rfl) (by decide) u (by rw [star_err]; exact h)
theorem laid_range_ReadDefect {W : World} (hL : laidMet Tryd.prog Rows.fnExactReadDefectRow.laid W) : ∃ tp p, W.var? Tryd.prog "strconv.ErrRange" = some #[.iface tp p] := by
  have h := laidMet.tail (laidMet.tail (laidMet.tail (show laidMet Tryd.prog (_ :: _ :: _ :: _) W from hL)))
  obtain ⟨a, s, hv, _⟩ := laid_sentinel h (g := 2) (by kernel_rfl) (by kernel_rfl) Tryd.underlying53 row_err Tryd.underlying87 Tryd.underlying89 rfl rfl Tryd.underlying9 (by kernel_rfl) (by kernel_rfl)
  exact ⟨_, _, hv⟩
theorem laid_syntax_ReadDefect {W : World} (hL : laidMet Tryd.prog Rows.fnExactReadDefectRow.laid W) : ∃ tp p, W.var? Tryd.prog "strconv.ErrSyntax" = some #[.iface tp p] := by
  have h := laidMet.tail (laidMet.tail (laidMet.tail (laidMet.tail (show laidMet Tryd.prog (_ :: _ :: _ :: _ :: _) W from hL))))
  obtain ⟨a, s, hv, _⟩ := laid_sentinel h (g := 1) (by kernel_rfl) (by kernel_rfl) Tryd.underlying53 row_err Tryd.underlying87 Tryd.underlying89 rfl rfl Tryd.underlying9 (by kernel_rfl) (by kernel_rfl)
  exact ⟨_, _, hv⟩
theorem lifted_ReadDefect (os : Os) (started : os.Started) (H : Type) (enc : TypeId × Value → H) :
    ReturnsInHanded {} Tryd.checked os 3 .any (fun w args => (Rows.fnExactReadDefectSpec.pre enc Tryd.prog Tryd.f3 [] false w args ∧ laidMetH Tryd.prog Rows.fnExactReadDefectRow.laid w) ∧ sizedMet enc Tryd.prog Tryd.f3 (OpenSpec.ofChange Rows.fnExactReadDefectSpec) false w args)
      (Rows.fnExactReadDefectSpec.post enc Tryd.prog Tryd.f3 false true false false) := by
  refine lift_law_laid (C := Tryd.checked) (by kernel_rfl) (by kernel_rfl) (s := Rows.fnExactReadDefectSpec) (T := 4) Tryd.underlying4 rfl rfl ?_ (by kernel_rfl) (by kernel_rfl) Tryd.func3 (laid := Rows.fnExactReadDefectRow.laid) (by kernel_rfl) started
    (ChangeSpec.witness_shaped (enc := enc) (C := Tryd.checked) (os := os) (X := fun w _ => laidMetH Tryd.prog Rows.fnExactReadDefectRow.laid w) false (World.doorLaid Tryd.prog 62 os) #[.string ⟨#[]⟩] 8 rfl (World.shaped_of_RefB (by kernel_rfl) (by kernel_rfl)) (by kernel_rfl) (by kernel_rfl) (by kernel_rfl) (door_met_ReadDefect os _)) ?_
  · intro H ds hl
    match ds, hl with
    | [d0], _ => rfl
  · intro W base args ds ps hval hlt hA hL hsh
    have hval' : ∀ (j : Nat) t v, (#[9] : Array TypeId)[j]? = some t → args[j]? = some v → Value.okWide Tryd.prog W .any base t v := hval
    have hA' : DataW.TrodAll enc Tryd.prog W 0 (fun _ => true) true [9] args.toList ds ps := hA
    obtain ⟨v0, d0, rfl, rfl, z0⟩ := trodAll_one hA'
    obtain ⟨s0, rfl, _, _, hz0⟩ := Go.ChangeMaps.open_string Tryd.underlying9 (hval' 0 9 v0 rfl rfl) z0
    obtain ⟨tp1, p1, hv1⟩ := laid_range_ReadDefect hL
    obtain ⟨tp2, p2, hv2⟩ := laid_syntax_ReadDefect hL
    exact law_ReadDefect s0 W (laid_tab_ReadDefect hL) tp1 p1 hv1 tp2 p2 hv2
theorem row_ReadDefect : Rows.FnExactReadDefectSaid :=
  OpenClaim.holds_of_wide 3 Tryd.f3 rfl rfl rfl rfl rfl rfl rfl ⟨rfl, rfl, rfl, rfl, rfl⟩ rfl rfl rfl rfl rfl (by kernel_rfl) Tryd.func3 (by kernel_rfl)
    (of_decide_eq_true (by kernel_rfl)) (by unfold Func.isWrapper; first | (rw [if_pos (by decide +kernel)]; kernel_rfl) | (rw [if_neg (by decide +kernel)]; exact ⟨rfl, rfl⟩))
    (fun os started H enc _ => lifted_ReadDefect os started H enc)
theorem card_ReadDefect : Rows.FnExactReadDefectCardSaid :=
  Claim7.holds_tied_plain_at .later [] [.data, .data, .data, .sentinel, .sentinel] true (true, "d442ca518a84ce44caa2015d8e3f95b3914a0699343af537091c7636aedc6ec3") true
    row_ReadDefect (fun _ h => by cases h) (by kernel_rfl) (fun _ h => by cases h) fnExactReadDefect_row_tie rfl ⟨rfl, rfl⟩ (by kernel_rfl) rfl
    (fun f fn hf hfn => by
      obtain rfl : f = 3 := Option.some.inj ((show Tryd.prog.funcNamed "loop.example/g01032/laws.FnExactReadDefect" = some 3 by kernel_rfl).symm.trans hf) |>.symm
      obtain rfl : fn = Tryd.f3 := (Option.some.inj (Tryd.func3.symm.trans hfn)).symm
      exact ⟨by kernel_rfl, fun j t ht => by
        rw [Tryd.params3] at ht
        have hm : t ∈ [9] := by simpa using Array.mem_of_getElem? ht
        have hall : ([9].all fun u => !Tryd.prog.wantsStandIn u) = true := by kernel_rfl
        exact (show Tryd.prog.wantsStandIn t = false by simpa using List.all_eq_true.1 hall t hm)⟩)
    (by kernel_rfl)

end Go.Proofs.YtogjkcakoahpiaaDoor

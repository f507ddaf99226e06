/- Proves: the law BillText returns true for every input and leaves its arguments as they were (the given statement). Conditions: none beyond the statement itself. -/
import Derived.Test.YtjnbdmpgkbbmmaaDoorD2
import Derived.Test.YtjnbdmpgkbbmmaaDoorTie
import Derived.Test.YtjnbdmpgkbbmmaaDoorCards
import Derived.SevenTiedAt
import Derived.ShutString
namespace Go.Proofs.YtjnbdmpgkbbmmaaDoor
open Go.RowKit Go.Sort

theorem laws_toBill (q : Q4) (w : World) : Calls Tryd.prog 12 #[.agg #[.int .i64 q.a, .int .i64 q.b, .int .i64 q.c, .int .i64 q.d]] w fun e w' => e = .returned (.agg #[.int .i64 q.a, .int .i64 q.b, .int .i64 q.c, .int .i64 q.d]) ∧ Below w.heap.size w w' := by
  go_enter Tryd.func12, Tryd.ntmps12
  go_wp2
  exact bodyPost_ret (v := .agg #[.int .i64 q.a, .int .i64 q.b, .int .i64 q.c, .int .i64 q.d]) (by simp [results, Tryd.results12, go_sem]) rfl
    ⟨rfl, below_al (below_al (below_al (Below.refl _ _) _) _) _⟩
theorem laws_toParcel (q : Q4) (w : World) : Calls Tryd.prog 15 #[.agg #[.int .i64 q.a, .int .i64 q.b, .int .i64 q.c, .int .i64 q.d]] w fun e w' => e = .returned (.agg #[.int .i64 q.a, .int .i64 q.b, .int .i64 q.c, .int .i64 q.d]) ∧ Below w.heap.size w w' := by
  go_enter Tryd.func15, Tryd.ntmps15
  go_wp2
  exact bodyPost_ret (v := .agg #[.int .i64 q.a, .int .i64 q.b, .int .i64 q.c, .int .i64 q.d]) (by simp [results, Tryd.results15, go_sem]) rfl
    ⟨rfl, below_al (below_al (below_al (Below.refl _ _) _) _) _⟩
theorem laws_toDefect (q : Q4) (w : World) : Calls Tryd.prog 18 #[.agg #[.int .i64 q.a, .int .i64 q.b, .int .i64 q.c, .int .i64 q.d]] w fun e w' => e = .returned (.agg #[.int .i64 q.a, .int .i64 q.b, .int .i64 q.c, .int .i64 q.d]) ∧ Below w.heap.size w w' := by
  go_enter Tryd.func18, Tryd.ntmps18
  go_wp2
  exact bodyPost_ret (v := .agg #[.int .i64 q.a, .int .i64 q.b, .int .i64 q.c, .int .i64 q.d]) (by simp [results, Tryd.results18, go_sem]) rfl
    ⟨rfl, below_al (below_al (below_al (Below.refl _ _) _) _) _⟩
theorem laws_eqParcel (p q : Q4) (w : World) : Calls Tryd.prog 36 #[.agg #[.int .i64 p.a, .int .i64 p.b, .int .i64 p.c, .int .i64 p.d], .agg #[.int .i64 q.a, .int .i64 q.b, .int .i64 q.c, .int .i64 q.d]] w fun e w' => e = .returned (.bool (q4eq p q)) ∧ Below w.heap.size w w' := by
  go_enter Tryd.func36, Tryd.ntmps36
  go_wp2
  all_goals (go_ret; exact ⟨ret_bool (by simp_all [q4eq]), below_al (below_al (Below.refl _ _) _) _⟩)
theorem laws_eqDefect (p q : Q4) (w : World) : Calls Tryd.prog 30 #[.agg #[.int .i64 p.a, .int .i64 p.b, .int .i64 p.c, .int .i64 p.d], .agg #[.int .i64 q.a, .int .i64 q.b, .int .i64 q.c, .int .i64 q.d]] w fun e w' => e = .returned (.bool (q4eq p q)) ∧ Below w.heap.size w w' := by
  go_enter Tryd.func30, Tryd.ntmps30
  go_wp2
  all_goals (go_ret; exact ⟨ret_bool (by simp_all [q4eq]), below_al (below_al (Below.refl _ _) _) _⟩)
theorem impl_size_int64 (A : Option Addr) (n c : Nat) (w : World) (_hn : n ≤ 9223372036854775807) : Calls Tryd.prog 80 #[.slice A n c] w fun e w' => e = .returned (.int .i64 n) ∧ w = w' := by
  go_enter Tryd.func80, Tryd.ntmps80
  go_wp2
  go_ret
  exact ⟨rfl, rfl⟩
set_option maxHeartbeats 4000000 in
theorem law_BillText (q0 : Q4) (w : World) (htab : Lib.TabIs Tryd.prog w "internal/strconv.uint64pow10" .u64 Lib.pow10Tab) :
    Calls Tryd.prog 3 #[.agg #[.int .i64 q0.a, .int .i64 q0.b, .int .i64 q0.c, .int .i64 q0.d]] w fun e w' => e = .returned (.bool true) ∧ Below w.heap.size w w' := by
  go_enter Tryd.func3, Tryd.ntmps3
  have B0 := below_al (Below.refl _ w) (.cells #[.int .i64 q0.a, .int .i64 q0.b, .int .i64 q0.c, .int .i64 q0.d] 23)
  go_wp2_with fail
  refine (laws_toBill q0 _).mono ?_
  rintro e w1 ⟨rfl, b1⟩
  have B1 := below_then B0 b1
  have X1 := b1
  obtain ⟨y10, y11, y12, y13⟩ := box4k X1
  go_wp2_with fail
  refine (spec_BillText q0 _).mono ?_
  rintro e w2 ⟨rfl, b2⟩
  have B2 := below_then B1 b2
  have X2 := below_then X1 b2
  obtain ⟨y20, y21, y22, y23⟩ := box4k X2
  go_wp2_with fail
  refine (laws_toBill q0 _).mono ?_
  rintro e w3 ⟨rfl, b3⟩
  have B3 := below_then B2 b3
  have X3 := below_then X2 b3
  obtain ⟨y30, y31, y32, y33⟩ := box4k X3
  go_wp2_with fail
  refine (impl_BillText q0 _ (tab_on htab B3)).mono ?_
  rintro e w4 ⟨rfl, b4⟩
  have B4 := below_then B3 b4
  have X4 := below_then X3 b4
  obtain ⟨y40, y41, y42, y43⟩ := box4k X4
  go_wp2_with fail
  go_ret
  exact ⟨rfl, B4⟩
open Go.ChangeShapes Go.WideShapes Go.ChangeAt Go.Deep Go.Joins
set_option maxRecDepth 100000
theorem door_met_BillText (os : Os) (args : Array Value) : laidMetH Tryd.prog Rows.fnExactBillTextRow.laid ((World.doorLaid Tryd.prog 62 os).forCall (fun _ _ => 0) ⟨#[], args, []⟩).memory :=
  laidMetH_of_parts3 (fuel := 8) (laidMet_of_run' 8 (by kernel_rfl) (by kernel_rfl)) (by kernel_rfl) (by kernel_rfl)
theorem laid_tab_BillText {W : World} (hL : laidMet Tryd.prog Rows.fnExactBillTextRow.laid W) : Lib.TabIs Tryd.prog W "internal/strconv.uint64pow10" .u64 Lib.pow10Tab := by
  have h := laidMet.tail (laidMet.tail (show laidMet Tryd.prog (_ :: _ :: _) W from hL))
  exact tabIs_first (g := 1) (t := 125) (e := 112) (n := 20) (by kernel_rfl) (by kernel_rfl) Tryd.underlying125 Tryd.underlying112 (by kernel_rfl) (by kernel_rfl) h
theorem lifted_BillText (os : Os) (started : os.Started) (H : Type) (enc : TypeId × Value → H) :
    ReturnsInHanded {} Tryd.checked os 3 .any (fun w args => (Rows.fnExactBillTextSpec.pre enc Tryd.prog Tryd.f3 [] false w args ∧ laidMetH Tryd.prog Rows.fnExactBillTextRow.laid w) ∧ sizedMet enc Tryd.prog Tryd.f3 (OpenSpec.ofChange Rows.fnExactBillTextSpec) false w args)
      (Rows.fnExactBillTextSpec.post enc Tryd.prog Tryd.f3 false true false false) := by
  refine lift_law_laid (C := Tryd.checked) (by kernel_rfl) (by kernel_rfl) (s := Rows.fnExactBillTextSpec) (T := 4) Tryd.underlying4 rfl rfl ?_ (by kernel_rfl) (by kernel_rfl) Tryd.func3 (laid := Rows.fnExactBillTextRow.laid) (by kernel_rfl) started
    (ChangeSpec.witness_shaped (enc := enc) (C := Tryd.checked) (os := os) (X := fun w _ => laidMetH Tryd.prog Rows.fnExactBillTextRow.laid w) false (World.doorLaid Tryd.prog 62 os) #[.agg #[.int .i64 0, .int .i64 0, .int .i64 0, .int .i64 0]] 8 rfl (World.shaped_of_RefB (by kernel_rfl) (by kernel_rfl)) (by kernel_rfl) (by kernel_rfl) (by kernel_rfl) (door_met_BillText os _)) ?_
  · intro H ds hl
    match ds, hl with
    | [d0], _ => rfl
  · intro W base args ds ps hval hlt hA hL hsh
    have hval' : ∀ (j : Nat) t v, (#[23] : Array TypeId)[j]? = some t → args[j]? = some v → Value.okWide Tryd.prog W .any base t v := hval
    have hA' : DataW.TrodAll enc Tryd.prog W 0 (fun _ => true) true [23] args.toList ds ps := hA
    obtain ⟨v0, d0, rfl, rfl, z0⟩ := trodAll_one hA'
    obtain ⟨q0, rfl⟩ := open_q4 Tryd.underlying23 (by kernel_rfl) (by kernel_rfl) Tryd.underlying2 Tryd.underlying2 Tryd.underlying2 Tryd.underlying2 (hval' 0 23 v0 rfl rfl) z0
    exact law_BillText q0 W (laid_tab_BillText hL)
theorem row_BillText : Rows.FnExactBillTextSaid :=
  OpenClaim.holds_of_wide 3 Tryd.f3 rfl rfl rfl rfl rfl rfl rfl ⟨rfl, rfl, rfl, rfl, rfl⟩ rfl rfl rfl rfl rfl (by kernel_rfl) Tryd.func3 (by kernel_rfl)
    (of_decide_eq_true (by kernel_rfl)) (by unfold Func.isWrapper; first | (rw [if_pos (by decide +kernel)]; kernel_rfl) | (rw [if_neg (by decide +kernel)]; exact ⟨rfl, rfl⟩))
    (fun os started H enc _ => lifted_BillText os started H enc)
theorem card_BillText : Rows.FnExactBillTextCardSaid :=
  Claim7.holds_tied_plain_at .later [] [.data, .data, .data] true (true, "d7e8a4f4a124d4b710e2c97cb3ea9323facd78c5137702fc7d393af6bd4d1af2") true
    row_BillText (fun _ h => by cases h) (by kernel_rfl) (fun _ h => by cases h) fnExactBillText_row_tie rfl ⟨rfl, rfl⟩ (by kernel_rfl) rfl
    (fun f fn hf hfn => by
      obtain rfl : f = 3 := Option.some.inj ((show Tryd.prog.funcNamed "loop.example/g01032/laws.FnExactBillText" = some 3 by kernel_rfl).symm.trans hf) |>.symm
      obtain rfl : fn = Tryd.f3 := (Option.some.inj (Tryd.func3.symm.trans hfn)).symm
      exact ⟨by kernel_rfl, fun j t ht => by
        rw [Tryd.params3] at ht
        have hm : t ∈ [23] := by simpa using Array.mem_of_getElem? ht
        have hall : ([23].all fun u => !Tryd.prog.wantsStandIn u) = true := by kernel_rfl
        exact (show Tryd.prog.wantsStandIn t = false by simpa using List.all_eq_true.1 hall t hm)⟩)
    (by kernel_rfl)

end Go.Proofs.YtjnbdmpgkbbmmaaDoor

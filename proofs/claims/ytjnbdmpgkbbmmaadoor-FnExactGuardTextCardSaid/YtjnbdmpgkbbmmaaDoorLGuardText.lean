/- Proves: the law GuardText returns true for every input and leaves its arguments as they were (the given statement). Conditions: none beyond the statement itself. -/
import Derived.Test.YtjnbdmpgkbbmmaaDoorD3
import Derived.IntWalk
import Derived.Test.YtjnbdmpgkbbmmaaDoorTie
import Derived.Test.YtjnbdmpgkbbmmaaDoorCards
import Derived.SevenTiedAt
import Derived.ShutString
namespace Go.Proofs.YtjnbdmpgkbbmmaaDoor
open Go.RowKit Go.Sort

theorem laws_toGuard (q : G3) (w : World) : Calls Tryd.prog 22 #[.agg #[.string q.s, .int .i64 q.a, .int .i64 q.b]] w fun e w' => e = .returned (.agg #[.string q.s, .int .i64 q.a, .int .i64 q.b]) ∧ Below w.heap.size w w' := by
  go_enter Tryd.func22, Tryd.ntmps22
  go_wp2
  exact bodyPost_ret (v := .agg #[.string q.s, .int .i64 q.a, .int .i64 q.b]) (by simp [results, Tryd.results22, go_sem]) rfl
    ⟨rfl, below_al (below_al (below_al (Below.refl _ _) _) _) _⟩
theorem laws_eqGuard (p q : G3) (w : World) : Calls Tryd.prog 33 #[.agg #[.string p.s, .int .i64 p.a, .int .i64 p.b], .agg #[.string q.s, .int .i64 q.a, .int .i64 q.b]] w fun e w' => e = .returned (.bool (g3eq p q)) ∧ Below w.heap.size w w' := by
  go_enter Tryd.func33, Tryd.ntmps33
  go_wp2
  all_goals (go_ret; exact ⟨ret_bool (by simp_all [g3eq]), below_al (below_al (Below.refl _ _) _) _⟩)
theorem laws_szGuard_r (q : G3) (left : Int) (w : World) (h0 : 0 ≤ left) (h1 : left ≤ 1048576) (hz : q.s.size ≤ 9223372036854775807) :
    Calls Tryd.prog 20 #[.agg #[.string q.s, .int .i64 q.a, .int .i64 q.b], .int .i64 left] w fun e w' => ∃ r, e = .returned (.int .i64 r) ∧ (r = -1 ∨ ((0 ≤ r ∧ r ≤ left) ∧ q.s.size ≤ 1048576)) ∧ Below w.heap.size w w' := by
  have hw : IntKind.i64.wrap (left - (q.s.size : Int)) = left - (q.s.size : Int) := IntWalk.i64_in _ (by omega)
  by_cases hs : left - (q.s.size : Int) < 0
  · go_enter Tryd.func20, Tryd.ntmps20
    go_wp2
    go_ret
    exact ⟨_, rfl, .inl rfl, below_al (Below.refl _ _) _⟩
  · go_enter Tryd.func20, Tryd.ntmps20
    go_wp2
    go_ret
    exact ⟨_, rfl, .inr ⟨⟨by omega, by omega⟩, by omega⟩, below_al (Below.refl _ _) _⟩
open Go.ChangeShapes Go.WideShapes Go.ChangeAt Go.Deep Go.Joins
theorem open_g3z {P : Program} {W : World} {H : Type} {enc : TypeId × Value → H} {t : TypeId} {f0 f1 f2 : Field} {r : Reach} {b0 : Nat} {v : Value} {d : DataW H} {ps : List MemPlace} (he : P.underlying t = some (.struct #[f0, f1, f2]))
    (hone : oneCellFields P #[f0, f1, f2] = true) (hC : P.cellsOf t = 3) (i0 : P.underlying f0.type = some .string) (i1 : P.underlying f1.type = some (.int .i64)) (i2 : P.underlying f2.type = some (.int .i64))
    (hv : Value.okWide P W r b0 t v) (h : DataW.Trod enc P W 0 (fun _ => true) true t v d ps) : ∃ q : G3, v = .agg #[.string q.s, .int .i64 q.a, .int .i64 q.b] ∧ q.s.size ≤ maxLen := by
  obtain ⟨v0, v1, v2, y0, y1, y2, n, rfl, _, _, h0, h1, h2⟩ := open_agg3 he hone hC hv h
  obtain ⟨x0, e0, _, hz⟩ := DataW.trod_string i0 h0
  obtain ⟨x1, e1, _, _⟩ := DataW.trod_int i1 h1
  obtain ⟨x2, e2, _, _⟩ := DataW.trod_int i2 h2
  simp only [List.cons.injEq, and_true] at e0 e1 e2
  subst e0; subst e1; subst e2
  exact ⟨⟨x0, x1, x2⟩, rfl, hz⟩
set_option maxHeartbeats 4000000 in
theorem law_GuardText (q0 : G3) (w : World) (hz0 : q0.s.size ≤ 9223372036854775807) (htab : Lib.TabIs Tryd.prog w "internal/strconv.uint64pow10" .u64 Lib.pow10Tab) :
    Calls Tryd.prog 6 #[.agg #[.string q0.s, .int .i64 q0.a, .int .i64 q0.b]] w fun e w' => e = .returned (.bool true) ∧ Below w.heap.size w w' := by
  go_enter Tryd.func6, Tryd.ntmps6
  have B0 := below_al (Below.refl _ w) (.cells #[.string q0.s, .int .i64 q0.a, .int .i64 q0.b] 41)
  go_wp2_with fail
  refine (laws_szGuard_r q0 1048576 _ (by omega) (by omega) hz0).mono ?_
  rintro e w1 ⟨r0, rfl, hs0, b1⟩
  have B1 := below_then B0 b1
  have X1 := b1
  obtain ⟨y10, y11, y12⟩ := box3k X1
  rcases hs0 with rfl | ⟨hs0a, hs0⟩
  · go_wp2_with fail
    go_ret
    exact ⟨rfl, B1⟩
  go_wp2_with fail
  refine (laws_toGuard q0 _).mono ?_
  rintro e w2 ⟨rfl, b2⟩
  have B2 := below_then B1 b2
  have X2 := below_then X1 b2
  obtain ⟨y20, y21, y22⟩ := box3k X2
  go_wp2_with fail
  refine (spec_GuardText q0 _ hs0).mono ?_
  rintro e w3 ⟨rfl, b3⟩
  have B3 := below_then B2 b3
  have X3 := below_then X2 b3
  obtain ⟨y30, y31, y32⟩ := box3k X3
  go_wp2_with fail
  refine (laws_toGuard q0 _).mono ?_
  rintro e w4 ⟨rfl, b4⟩
  have B4 := below_then B3 b4
  have X4 := below_then X3 b4
  obtain ⟨y40, y41, y42⟩ := box3k X4
  go_wp2_with fail
  refine (impl_GuardText q0 _ hs0 (tab_on htab B4)).mono ?_
  rintro e w5 ⟨rfl, b5⟩
  have B5 := below_then B4 b5
  go_wp2_with fail
  go_ret
  exact ⟨rfl, B5⟩
open Go.ChangeShapes Go.WideShapes Go.ChangeAt Go.Deep Go.Joins
set_option maxRecDepth 100000
theorem door_met_GuardText (os : Os) (args : Array Value) : laidMetH Tryd.prog Rows.fnExactGuardTextRow.laid ((World.doorLaid Tryd.prog 62 os).forCall (fun _ _ => 0) ⟨#[], args, []⟩).memory :=
  laidMetH_of_parts3 (fuel := 8) (laidMet_of_run' 8 (by kernel_rfl) (by kernel_rfl)) (by kernel_rfl) (by kernel_rfl)
theorem laid_tab_GuardText {W : World} (hL : laidMet Tryd.prog Rows.fnExactGuardTextRow.laid W) : Lib.TabIs Tryd.prog W "internal/strconv.uint64pow10" .u64 Lib.pow10Tab := by
  have h := laidMet.tail (laidMet.tail (show laidMet Tryd.prog (_ :: _ :: _) W from hL))
  exact tabIs_first (g := 1) (t := 125) (e := 112) (n := 20) (by kernel_rfl) (by kernel_rfl) Tryd.underlying125 Tryd.underlying112 (by kernel_rfl) (by kernel_rfl) h
theorem lifted_GuardText (os : Os) (started : os.Started) (H : Type) (enc : TypeId × Value → H) :
    ReturnsInHanded {} Tryd.checked os 6 .any (fun w args => (Rows.fnExactGuardTextSpec.pre enc Tryd.prog Tryd.f6 [] false w args ∧ laidMetH Tryd.prog Rows.fnExactGuardTextRow.laid w) ∧ sizedMet enc Tryd.prog Tryd.f6 (OpenSpec.ofChange Rows.fnExactGuardTextSpec) false w args)
      (Rows.fnExactGuardTextSpec.post enc Tryd.prog Tryd.f6 false true false false) := by
  refine lift_law_laid (C := Tryd.checked) (by kernel_rfl) (by kernel_rfl) (s := Rows.fnExactGuardTextSpec) (T := 4) Tryd.underlying4 rfl rfl ?_ (by kernel_rfl) (by kernel_rfl) Tryd.func6 (laid := Rows.fnExactGuardTextRow.laid) (by kernel_rfl) started
    (ChangeSpec.witness_shaped (enc := enc) (C := Tryd.checked) (os := os) (X := fun w _ => laidMetH Tryd.prog Rows.fnExactGuardTextRow.laid w) false (World.doorLaid Tryd.prog 62 os) #[.agg #[.string ⟨#[]⟩, .int .i64 0, .int .i64 0]] 8 rfl (World.shaped_of_RefB (by kernel_rfl) (by kernel_rfl)) (by kernel_rfl) (by kernel_rfl) (by kernel_rfl) (door_met_GuardText os _)) ?_
  · intro H ds hl
    match ds, hl with
    | [d0], _ => rfl
  · intro W base args ds ps hval hlt hA hL hsh
    have hval' : ∀ (j : Nat) t v, (#[41] : Array TypeId)[j]? = some t → args[j]? = some v → Value.okWide Tryd.prog W .any base t v := hval
    have hA' : DataW.TrodAll enc Tryd.prog W 0 (fun _ => true) true [41] args.toList ds ps := hA
    obtain ⟨v0, d0, rfl, rfl, z0⟩ := trodAll_one hA'
    obtain ⟨q0, rfl, hzq0⟩ := open_g3z Tryd.underlying41 (by kernel_rfl) (by kernel_rfl) Tryd.underlying9 Tryd.underlying2 Tryd.underlying2 (hval' 0 41 v0 rfl rfl) z0
    exact law_GuardText q0 W (by unfold maxLen at hzq0; exact hzq0) (laid_tab_GuardText hL)
theorem row_GuardText : Rows.FnExactGuardTextSaid :=
  OpenClaim.holds_of_wide 6 Tryd.f6 rfl rfl rfl rfl rfl rfl rfl ⟨rfl, rfl, rfl, rfl, rfl⟩ rfl rfl rfl rfl rfl (by kernel_rfl) Tryd.func6 (by kernel_rfl)
    (of_decide_eq_true (by kernel_rfl)) (by unfold Func.isWrapper; first | (rw [if_pos (by decide +kernel)]; kernel_rfl) | (rw [if_neg (by decide +kernel)]; exact ⟨rfl, rfl⟩))
    (fun os started H enc _ => lifted_GuardText os started H enc)
theorem card_GuardText : Rows.FnExactGuardTextCardSaid :=
  Claim7.holds_tied_plain_at .later [] [.data, .data, .data] true (true, "d7e8a4f4a124d4b710e2c97cb3ea9323facd78c5137702fc7d393af6bd4d1af2") true
    row_GuardText (fun _ h => by cases h) (by kernel_rfl) (fun _ h => by cases h) fnExactGuardText_row_tie rfl ⟨rfl, rfl⟩ (by kernel_rfl) rfl
    (fun f fn hf hfn => by
      obtain rfl : f = 6 := Option.some.inj ((show Tryd.prog.funcNamed "loop.example/g01032/laws.FnExactGuardText" = some 6 by kernel_rfl).symm.trans hf) |>.symm
      obtain rfl : fn = Tryd.f6 := (Option.some.inj (Tryd.func6.symm.trans hfn)).symm
      exact ⟨by kernel_rfl, fun j t ht => by
        rw [Tryd.params6] at ht
        have hm : t ∈ [41] := by simpa using Array.mem_of_getElem? ht
        have hall : ([41].all fun u => !Tryd.prog.wantsStandIn u) = true := by kernel_rfl
        exact (show Tryd.prog.wantsStandIn t = false by simpa using List.all_eq_true.1 hall t hm)⟩)
    (by kernel_rfl)

end Go.Proofs.YtjnbdmpgkbbmmaaDoor

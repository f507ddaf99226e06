/- Proves: the law ReadParcel returns true for every input and leaves its arguments as they were (the given statement). Conditions: none beyond the statement itself. -/
import Derived.Test.YtjnbdmpgkbbmmaaDoorR7
import Derived.Test.YtjnbdmpgkbbmmaaDoorTie
import Derived.Test.YtjnbdmpgkbbmmaaDoorCards
import Derived.SevenTiedAt
import Derived.ShutString
import Derived.ChangeMaps5
namespace Go.Proofs.YtjnbdmpgkbbmmaaDoor
open Go.RowKit Go.Sort

theorem laws_toBill (q : Q4) (w : World) : Calls Tryd.prog 12 #[.agg #[.int .i64 q.a, .int .i64 q.b, .int .i64 q.c, .int .i64 q.d]] w fun e w' => e = .returned (.agg #[.int .i64 q.a, .int .i64 q.b, .int .i64 q.c, .int .i64 q.d]) ∧ Below w.heap.size w w' := by
  go_enter Tryd.func12, Tryd.ntmps12
  go_wp2
  exact bodyPost_ret (v := .agg #[.int .i64 q.a, .int .i64 q.b, .int .i64 q.c, .int .i64 q.d]) (by simp [results, Tryd.results12, go_sem]) rfl
    ⟨rfl, below_al (below_al (below_al (Below.refl _ _) _) _) _⟩
theorem laws_toParcel (q : Q4) (w : World) : Calls Tryd.prog 15 #[.agg #[.int .i64 q.a, .int .i64 q.b, .int .i64 q.c, .int .i64 q.d]] w fun e w' => e = .returned (.agg #[.int .i64 q.a, .int .i64 q.b, .int .i64 q.c, .int .i64 q.d]) ∧ Below w.heap.size w w' := by
  go_enter Tryd.func15, Tryd.ntmps15
  go_wp2
  exact bodyPost_ret (v := .agg #[.int .i64 q.a, .int .i64 q.b, .int .i64 q.c, .int .i64 q.d]) (by simp [results, Tryd.results15, go_sem]) rfl
    ⟨rfl, below_al (below_al (below_al (Below.refl _ _) _) _) _⟩
theorem laws_toDefect (q : Q4) (w : World) : Calls Tryd.prog 18 #[.agg #[.int .i64 q.a, .int .i64 q.b, .int .i64 q.c, .int .i64 q.d]] w fun e w' => e = .returned (.agg #[.int .i64 q.a, .int .i64 q.b, .int .i64 q.c, .int .i64 q.d]) ∧ Below w.heap.size w w' := by
  go_enter Tryd.func18, Tryd.ntmps18
  go_wp2
  exact bodyPost_ret (v := .agg #[.int .i64 q.a, .int .i64 q.b, .int .i64 q.c, .int .i64 q.d]) (by simp [results, Tryd.results18, go_sem]) rfl
    ⟨rfl, below_al (below_al (below_al (Below.refl _ _) _) _) _⟩
theorem laws_eqParcel (p q : Q4) (w : World) : Calls Tryd.prog 36 #[.agg #[.int .i64 p.a, .int .i64 p.b, .int .i64 p.c, .int .i64 p.d], .agg #[.int .i64 q.a, .int .i64 q.b, .int .i64 q.c, .int .i64 q.d]] w fun e w' => e = .returned (.bool (q4eq p q)) ∧ Below w.heap.size w w' := by
  go_enter Tryd.func36, Tryd.ntmps36
  go_wp2
  all_goals (go_ret; exact ⟨ret_bool (by simp_all [q4eq]), below_al (below_al (Below.refl _ _) _) _⟩)
theorem laws_eqDefect (p q : Q4) (w : World) : Calls Tryd.prog 30 #[.agg #[.int .i64 p.a, .int .i64 p.b, .int .i64 p.c, .int .i64 p.d], .agg #[.int .i64 q.a, .int .i64 q.b, .int .i64 q.c, .int .i64 q.d]] w fun e w' => e = .returned (.bool (q4eq p q)) ∧ Below w.heap.size w w' := by
  go_enter Tryd.func30, Tryd.ntmps30
  go_wp2
  all_goals (go_ret; exact ⟨ret_bool (by simp_all [q4eq]), below_al (below_al (Below.refl _ _) _) _⟩)
theorem impl_size_int64 (A : Option Addr) (n c : Nat) (w : World) (_hn : n ≤ 9223372036854775807) : Calls Tryd.prog 80 #[.slice A n c] w fun e w' => e = .returned (.int .i64 n) ∧ w = w' := by
  go_enter Tryd.func80, Tryd.ntmps80
  go_wp2
  go_ret
  exact ⟨rfl, rfl⟩
set_option maxHeartbeats 2000000 in
set_option maxRecDepth 100000 in
theorem law_ReadParcel (s0 : ByteArray) (w : World) (htab : Lib.TabIs Tryd.prog w "internal/strconv.uint64pow10" .u64 Lib.pow10Tab)
    (tp1 : TypeId) (p1 : Value) (hv1 : w.var? Tryd.prog "strconv.ErrRange" = some #[.iface tp1 p1]) (tp2 : TypeId) (p2 : Value) (hv2 : w.var? Tryd.prog "strconv.ErrSyntax" = some #[.iface tp2 p2]) :
    Calls Tryd.prog 10 #[.string s0] w fun e w' => e = .returned (.bool true) ∧ Below w.heap.size w w' := by
  obtain ⟨l, rfl⟩ : ∃ l, s0 = bs l := ⟨_, (bs_of s0).symm⟩
  have hsz : (bs l).size = l.length := bs_size l
  by_cases hl : l.length ≤ 1048576
  case neg =>
    have hl' : (1048576 : Int) < (l.length : Int) := by omega
    go_enter Tryd.func10, Tryd.ntmps10
    go_wp2_with fail
    go_ret
    exact ⟨rfl, Below.refl _ _⟩
  have hl' : (l.length : Int) ≤ 1048576 := by omega
  obtain ⟨q, b, hq⟩ : ∃ (q : Q4) (b : Bool), resQ (readP (spl 32 l)) = .tuple #[.agg #[.int .i64 q.a, .int .i64 q.b, .int .i64 q.c, .int .i64 q.d], .bool b] := ⟨⟨_, _, _, _⟩, _, rfl⟩
  have c1 := fun W => spec_ReadParcel l W hl
  have c2 := fun W ht h1 h2 => impl_ReadParcel l W hl ht tp1 p1 h1 tp2 p2 h2
  rw [parcels_read, hq] at c2
  rw [hq] at c1
  have C1 := Lib.hid c1
  have C2 := Lib.hid c2
  clear c1 c2 hq
  go_enter Tryd.func10, Tryd.ntmps10
  go_wp2_with (go_at_call 34; refine (C1.out _).mono ?_; rintro e w1 ⟨rfl, hb1⟩)
  go_wp2_with fail
  refine (C2.out _ (tab_on htab (below_al hb1 _)) (var_on hv1 (below_al hb1 _)) (var_on hv2 (below_al hb1 _))).mono ?_
  rintro e w2 ⟨rfl, hb2⟩
  have hB := below_then (below_al hb1 _) hb2
  obtain ⟨y0, y1, y2, y3, _, yl⟩ := box4s hb2
  go_wp2_with fail
  refine (laws_eqParcel q q _).mono ?_
  rintro e w3 ⟨rfl, hb3⟩
  rw [q4eq_self]
  go_wp2_with fail
  go_ret
  exact ⟨rfl, below_then (below_al hB _) hb3⟩
open Go.ChangeShapes Go.WideShapes Go.ChangeAt Go.Deep Go.Joins
set_option maxRecDepth 100000
theorem door_met_ReadParcel (os : Os) (args : Array Value) : laidMetH Tryd.prog Rows.fnExactReadParcelRow.laid ((World.doorLaid Tryd.prog 62 os).forCall (fun _ _ => 0) ⟨#[], args, []⟩).memory :=
  laidMetH_of_parts3 (fuel := 8) (laidMet_of_run' 8 (by kernel_rfl) (by kernel_rfl)) (by kernel_rfl) (by kernel_rfl)
theorem laid_tab_ReadParcel {W : World} (hL : laidMet Tryd.prog Rows.fnExactReadParcelRow.laid W) : Lib.TabIs Tryd.prog W "internal/strconv.uint64pow10" .u64 Lib.pow10Tab := by
  have h := laidMet.tail (laidMet.tail (show laidMet Tryd.prog (_ :: _ :: _) W from hL))
  exact tabIs_first (g := 1) (t := 125) (e := 112) (n := 20) (by kernel_rfl) (by kernel_rfl) Tryd.underlying125 Tryd.underlying112 (by kernel_rfl) (by kernel_rfl) h
theorem star_err : "*" ++ "errors.errorString" = "*errors.errorString" := by decide
theorem row_err (u : TypeId) (h : Tryd.prog.typeName? 3 u = some "*errors.errorString") : u = 147 :=
  typeName_ptr_named (nm := "errors.errorString") (by rw [star_err]; kernel_rfl) (by kernel_rfl) (by decide) u (by rw [star_err]; exact h)
theorem laid_range_ReadParcel {W : World} (hL : laidMet Tryd.prog Rows.fnExactReadParcelRow.laid W) : ∃ tp p, W.var? Tryd.prog "strconv.ErrRange" = some #[.iface tp p] := by
  have h := laidMet.tail (laidMet.tail (laidMet.tail (show laidMet Tryd.prog (_ :: _ :: _ :: _) W from hL)))
  obtain ⟨a, s, hv, _⟩ := laid_sentinel h (g := 3) (by kernel_rfl) (by kernel_rfl) Tryd.underlying95 row_err Tryd.underlying147 Tryd.underlying149 rfl rfl Tryd.underlying9 (by kernel_rfl) (by kernel_rfl)
  exact ⟨_, _, hv⟩
theorem laid_syntax_ReadParcel {W : World} (hL : laidMet Tryd.prog Rows.fnExactReadParcelRow.laid W) : ∃ tp p, W.var? Tryd.prog "strconv.ErrSyntax" = some #[.iface tp p] := by
  have h := laidMet.tail (laidMet.tail (laidMet.tail (laidMet.tail (show laidMet Tryd.prog (_ :: _ :: _ :: _ :: _) W from hL))))
  obtain ⟨a, s, hv, _⟩ := laid_sentinel h (g := 2) (by kernel_rfl) (by kernel_rfl) Tryd.underlying95 row_err Tryd.underlying147 Tryd.underlying149 rfl rfl Tryd.underlying9 (by kernel_rfl) (by kernel_rfl)
  exact ⟨_, _, hv⟩
theorem lifted_ReadParcel (os : Os) (started : os.Started) (H : Type) (enc : TypeId × Value → H) :
    ReturnsInHanded {} Tryd.checked os 10 .any (fun w args => (Rows.fnExactReadParcelSpec.pre enc Tryd.prog Tryd.f10 [] false w args ∧ laidMetH Tryd.prog Rows.fnExactReadParcelRow.laid w) ∧ sizedMet enc Tryd.prog Tryd.f10 (OpenSpec.ofChange Rows.fnExactReadParcelSpec) false w args)
      (Rows.fnExactReadParcelSpec.post enc Tryd.prog Tryd.f10 false true false false) := by
  refine lift_law_laid (C := Tryd.checked) (by kernel_rfl) (by kernel_rfl) (s := Rows.fnExactReadParcelSpec) (T := 4) Tryd.underlying4 rfl rfl ?_ (by kernel_rfl) (by kernel_rfl) Tryd.func10 (laid := Rows.fnExactReadParcelRow.laid) (by kernel_rfl) started
    (ChangeSpec.witness_shaped (enc := enc) (C := Tryd.checked) (os := os) (X := fun w _ => laidMetH Tryd.prog Rows.fnExactReadParcelRow.laid w) false (World.doorLaid Tryd.prog 62 os) #[.string ⟨#[]⟩] 8 rfl (World.shaped_of_RefB (by kernel_rfl) (by kernel_rfl)) (by kernel_rfl) (by kernel_rfl) (by kernel_rfl) (door_met_ReadParcel os _)) ?_
  · intro H ds hl
    match ds, hl with
    | [d0], _ => rfl
  · intro W base args ds ps hval hlt hA hL hsh
    have hval' : ∀ (j : Nat) t v, (#[9] : Array TypeId)[j]? = some t → args[j]? = some v → Value.okWide Tryd.prog W .any base t v := hval
    have hA' : DataW.TrodAll enc Tryd.prog W 0 (fun _ => true) true [9] args.toList ds ps := hA
    obtain ⟨v0, d0, rfl, rfl, z0⟩ := trodAll_one hA'
    obtain ⟨s0, rfl, _, _, hz0⟩ := Go.ChangeMaps.open_string Tryd.underlying9 (hval' 0 9 v0 rfl rfl) z0
    obtain ⟨tp1, p1, hv1⟩ := laid_range_ReadParcel hL
    obtain ⟨tp2, p2, hv2⟩ := laid_syntax_ReadParcel hL
    exact law_ReadParcel s0 W (laid_tab_ReadParcel hL) tp1 p1 hv1 tp2 p2 hv2
theorem row_ReadParcel : Rows.FnExactReadParcelSaid :=
  OpenClaim.holds_of_wide 10 Tryd.f10 rfl rfl rfl rfl rfl rfl rfl ⟨rfl, rfl, rfl, rfl, rfl⟩ rfl rfl rfl rfl rfl (by kernel_rfl) Tryd.func10 (by kernel_rfl)
    (of_decide_eq_true (by kernel_rfl)) (by unfold Func.isWrapper; first | (rw [if_pos (by decide +kernel)]; kernel_rfl) | (rw [if_neg (by decide +kernel)]; exact ⟨rfl, rfl⟩))
    (fun os started H enc _ => lifted_ReadParcel os started H enc)
theorem card_ReadParcel : Rows.FnExactReadParcelCardSaid :=
  Claim7.holds_tied_plain_at .later [] [.data, .data, .data, .sentinel, .sentinel] true (true, "d7e8a4f4a124d4b710e2c97cb3ea9323facd78c5137702fc7d393af6bd4d1af2") true
    row_ReadParcel (fun _ h => by cases h) (by kernel_rfl) (fun _ h => by cases h) fnExactReadParcel_row_tie rfl ⟨rfl, rfl⟩ (by kernel_rfl) rfl
    (fun f fn hf hfn => by
      obtain rfl : f = 10 := Option.some.inj ((show Tryd.prog.funcNamed "loop.example/g01032/laws.FnExactReadParcel" = some 10 by kernel_rfl).symm.trans hf) |>.symm
      obtain rfl : fn = Tryd.f10 := (Option.some.inj (Tryd.func10.symm.trans hfn)).symm
      exact ⟨by kernel_rfl, fun j t ht => by
        rw [Tryd.params10] at ht
        have hm : t ∈ [9] := by simpa using Array.mem_of_getElem? ht
        have hall : ([9].all fun u => !Tryd.prog.wantsStandIn u) = true := by kernel_rfl
        exact (show Tryd.prog.wantsStandIn t = false by simpa using List.all_eq_true.1 hall t hm)⟩)
    (by kernel_rfl)

end Go.Proofs.YtjnbdmpgkbbmmaaDoor

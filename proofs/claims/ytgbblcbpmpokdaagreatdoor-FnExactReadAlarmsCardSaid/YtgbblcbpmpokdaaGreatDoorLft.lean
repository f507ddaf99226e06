/-
  What this text proves: how a walk of a law that reads listed variables of the library becomes the law's row, as the text Row does it for a law that lists none.
  Conditions: none beyond those that each lemma states.
-/
import Derived.Test.YtgbblcbpmpokdaaGreatDoorRow
import Derived.LaidLaws
import Derived.LaidMore
import Derived.Stop.LaidErr
import Derived.Lib.LaidTab
import Derived.Lib.AppendIntMem
import Derived.MakeChecks
import Derived.HandedShaped
namespace Go.Proofs.YtgbblcbpmpokdaaGreatDoor
open Go.ChangeShapes Go.WideShapes Go.ChangeAt Go.RowKit Go.Deep Go.Joins

theorem tab_on {P : Program} {w w' : World} {n : String} {k : IntKind} {zs : List Int} (h : Lib.TabIs P w n k zs) (hb : Below w.heap.size w w') : Lib.TabIs P w' n k zs := Lib.tabBelow_of_tabIs h w' hb
theorem var_on {P : Program} {w w' : World} {n : String} {v : Array Value} (h : w.var? P n = some v) (hb : Below w.heap.size w w') : w'.var? P n = some v := by
  unfold World.var? at *
  cases hg : P.globalNamed n with
  | none => simp [hg] at h
  | some g =>
    simp only [hg, Option.bind_some] at h ⊢
    have hlt : g < w.heap.size := by
      rcases Nat.lt_or_ge g w.heap.size with h' | h'
      · exact h'
      · rw [Array.getElem?_eq_none h'] at h; simp at h
    rw [hb.block g hlt]; exact h

theorem tabIs_first {P : Program} {W : World} {name : String} {k : IntKind} {zs : List Int} {D : DataW Unit} {rest : List (String × DataW Unit)} {g : Nat} {t e : TypeId} {n : Nat}
    (hg : P.globalNamed name = some g) (hty : (P.globals[g]?).map (·.type) = some t) (ht : P.underlying t = some (.array n e)) (he : P.underlying e = some (.int k)) (hce : P.cellsOf e = 1) (hct : P.cellsOf t = n)
    (h : laidMet P ((name, D) :: rest) W) (hD : D = Lib.tabData k zs := by rfl) : Lib.TabIs P W name k zs := by
  subst hD; exact Lib.tabIs_of_head hg hty ht he hce hct h

theorem lift_law_laid {C : Checked} (hl : laidOutB C.prog = true) (own : ownKnob C.prog.godebug = none) {f : FuncId} {fn : Func} {s : ChangeSpec} {T : TypeId} (hT : C.prog.underlying T = some .bool) (hres : fn.resultTypes = #[T]) (hvars : s.vars = [])
    (hspec : ∀ (H : Type) (ds : List (DataW H)), ds.length = fn.params.toList.length → s.fn H ds = { results := [.lit (.bool true)], args := ds, vars := [] })
    (hread : fn.params.toList.all (fun t => C.prog.readableRec t && decide (t < C.prog.types.size)) = true) (noInit : C.prog.inits.idxOf? f = none) (hfn : C.prog.funcs[f]? = some fn)
    {laid : List (String × DataW Unit)} (hplain : (laid.all fun x => x.2.handleName?.isNone) = true)
    {os : Os} (started : os.Started) {H : Type} {enc : TypeId × Value → H}
    (witness : ∃ (w : World) (tape : Tape) (i : Input), w.os = os ∧ (w.forCall tape i).Shaped C.prog ∧ i.vars = [] ∧ Input.okWide C.prog (w.forCall tape i) .any w.heap.size f i ∧
      ((s.pre enc C.prog fn [] false (w.forCall tape i).memory i.args ∧ laidMetH C.prog laid (w.forCall tape i).memory) ∧ sizedMet enc C.prog fn (OpenSpec.ofChange s) false (w.forCall tape i).memory i.args) ∧ ({} : Assume).holds C.prog (lone (Frame.enter C.prog f i.args .normal) [] (w.forCall tape i)))
    (walk : ∀ (W : World) (base : Nat) (args : Array Value) (ds : List (DataW H)) (ps : List MemPlace), (∀ (j : Nat) t v, fn.params[j]? = some t → args[j]? = some v → Value.okWide C.prog W .any base t v) →
      (∀ x ∈ ps, x.block < W.heap.size) → DataW.TrodAll enc C.prog W 0 (fun _ => true) true fn.params.toList args.toList ds ps → laidMet C.prog laid W → W.ShapedOpen C.prog →
      Calls C.prog f args W fun e W' => e = .returned (.bool true) ∧ Below W.heap.size W W') :
    ReturnsInHanded {} C os f .any (fun w args => (s.pre enc C.prog fn [] false w args ∧ laidMetH C.prog laid w) ∧ sizedMet enc C.prog fn (OpenSpec.ofChange s) false w args) (s.post enc C.prog fn false true false false) := by
  refine returnsInHanded_of_calls own started noInit witness ?_
  intro w tape i _ hsh _ hok hpre _
  obtain ⟨_, _, _, fn', hfn', _, _, _, _, hval⟩ := hok
  have e : fn' = fn := Option.some.inj (hfn'.symm.trans hfn)
  subst e
  obtain ⟨⟨⟨ds, gs, before, hw, hc⟩, hx⟩, hz⟩ := hpre
  have hW := DataW.Whole.of_heap (w' := w.forCall tape i) (by rfl) hw
  rw [MakeChecks.laidMetH_plain _ _ _ hplain] at hx
  have hL : laidMet C.prog laid (w.forCall tape i) := hx.of_heap (by rfl)
  obtain ⟨W, hWW⟩ : ∃ W, W = w.forCall tape i := ⟨_, rfl⟩
  rw [← hWW] at hW hsh hL hval ⊢
  have hlt : ∀ x ∈ before, x.block < W.heap.size := fun x hx => hW.lt x hx
  have hW' := hW
  obtain ⟨p, q, hA, hV, hpq, _, _⟩ := hW
  rw [hvars] at hV
  obtain ⟨rfl, rfl⟩ := trodVars_none hV
  rw [List.append_nil] at hpq
  subst hpq
  refine (walk W w.heap.size i.args ds _ hval hlt hA hL hsh).mono fun e W' ⟨he, hb⟩ => ?_
  have hs : s.fn H (ds ++ []) = { results := [.lit (.bool true)], args := ds, vars := [] } := by rw [List.append_nil]; exact hspec H ds (trodAll_len hA)
  have hread' : ∀ t ∈ fn'.params.toList, C.prog.readableRec t = true ∧ t < C.prog.types.size := fun t ht => by
    have := List.all_eq_true.1 hread t ht
    simpa using this
  have hpost : s.post enc C.prog fn' false true false false W i.args (.bool true) W' := by
    refine ⟨ds, [], before, [], before, [], hW', ?_, ?_, ?_, hb.frame _, fun h => by cases h⟩
    · rw [hs, hres]; exact trodAll_mk1 (shut_bool hT true)
    · rw [hs]; exact args_stay hl hb hread' hA hlt
    · rw [hs, hvars]; exact (rfl : DataW.TrodVars enc C.prog W' _ [] [] [])
  subst he
  exact ChangeSpec.post_blind hpost
end Go.Proofs.YtgbblcbpmpokdaaGreatDoor

/- Walks over functions of this seat, by contract. Conditions: those that each theorem states. -/
import Derived.Test.YthjdodamfinhaaaGo
import Derived.Test.YthjdodamfinhaaaG3
namespace Go.Proofs.Ythjdodamfinhaaa
open Go.RowKit Go.Sort

theorem laws_szGuard_r (q : G3) (left : Int) (w : World) (h0 : 0 ≤ left) (h1 : left ≤ 1048576) (hz : q.s.size ≤ 9223372036854775807) :
    Calls Try.prog 21 #[.agg #[.string q.s, .int .i64 q.a, .int .i64 q.b], .int .i64 left] w fun e w' => ∃ r, e = .returned (.int .i64 r) ∧ (r = -1 ∨ ((0 ≤ r ∧ r ≤ left) ∧ q.s.size ≤ 1048576)) ∧ Below w.heap.size w w' := by
  have hw : IntKind.i64.wrap (left - (q.s.size : Int)) = left - (q.s.size : Int) := IntWalk.i64_in _ (by omega)
  by_cases hs : left - (q.s.size : Int) < 0
  · go_enter Try.func21, Try.ntmps21
    go_wp2
    go_ret
    exact ⟨_, rfl, .inl rfl, below_al (Below.refl _ _) _⟩
  · go_enter Try.func21, Try.ntmps21
    go_wp2
    go_ret
    exact ⟨_, rfl, .inr ⟨⟨by omega, by omega⟩, by omega⟩, below_al (Below.refl _ _) _⟩
open Go.ChangeShapes Go.WideShapes Go.ChangeAt Go.Deep Go.Joins
theorem open_g3z {P : Program} {W : World} {H : Type} {enc : TypeId × Value → H} {t : TypeId} {f0 f1 f2 : Field} {r : Reach} {b0 : Nat} {v : Value} {d : DataW H} {ps : List MemPlace} (he : P.underlying t = some (.struct #[f0, f1, f2]))
    (hone : oneCellFields P #[f0, f1, f2] = true) (hC : P.cellsOf t = 3) (i0 : P.underlying f0.type = some .string) (i1 : P.underlying f1.type = some (.int .i64)) (i2 : P.underlying f2.type = some (.int .i64))
    (hv : Value.okWide P W r b0 t v) (h : DataW.Trod enc P W 0 (fun _ => true) true t v d ps) : ∃ q : G3, v = .agg #[.string q.s, .int .i64 q.a, .int .i64 q.b] ∧ q.s.size ≤ maxLen := by
  obtain ⟨v0, v1, v2, y0, y1, y2, n, rfl, _, _, h0, h1, h2⟩ := open_agg3 he hone hC hv h
  obtain ⟨x0, e0, _, hz⟩ := DataW.trod_string i0 h0
  obtain ⟨x1, e1, _, _⟩ := DataW.trod_int i1 h1
  obtain ⟨x2, e2, _, _⟩ := DataW.trod_int i2 h2
  simp only [List.cons.injEq, and_true] at e0 e1 e2
  subst e0; subst e1; subst e2
  exact ⟨⟨x0, x1, x2⟩, rfl, hz⟩
theorem addGOut_le (es : List G3) (g : G3) : (addGOut es g).length ≤ 30 := by
  unfold addGOut
  split
  · rename_i h
    have hx : ¬ 30 ≤ es.length := fun hx => by
      unfold addGCode at h
      split at h
      · omega
      · split at h
        · omega
        · split at h
          · omega
          · omega
    simp; omega
  · simp

end Go.Proofs.Ythjdodamfinhaaa

/- Proves: the law WorstDitch returns true for every input and leaves its arguments as they were (the given statement). Conditions: none beyond the statement itself. -/
import Derived.Test.YtogjkcakoahpiaaN14
import Derived.Test.YtogjkcakoahpiaaRow
import Derived.Deep.RegionHeld3
namespace Go.Proofs.Ytogjkcakoahpiaa
open Go.RowKit Go.Sort

set_option maxHeartbeats 4000000 in
set_option maxRecDepth 100000 in
theorem law_WorstDitch (J src : Int) (A : Option Addr) (n c : Nat) (es : List Q3) (w : World) (hr : n ≤ 9223372036854775807) (h : Sl w w.heap.size 3 Q3.cells A n es) :
    Calls Try.prog 4 #[.agg #[.int .i64 J, .slice A n c], .int .i64 src] w fun e w' => e = .returned (.bool true) ∧ Below w.heap.size w w' := by
  have B0 := below_al (Below.refl _ w) (.cells #[.int .i64 J, .slice A n c] 24)
  obtain ⟨a0, a1⟩ := box2k (Below.refl (w.alloc (.cells #[.int .i64 J, .slice A n c] 24)).heap.size (w.alloc (.cells #[.int .i64 J, .slice A n c] 24)))
  have al : w.heap.size < (w.alloc (.cells #[.int .i64 J, .slice A n c] 24)).heap.size := by simp
  by_cases hm : n ≤ 1048576
  rotate_left
  · go_enter Try.func4, Try.ntmps4
    go_wp2_with fail
    refine (laws_szNet J A n c 1048576 (by omega) (by omega) hr _).mono ?_
    rintro e w1 ⟨rfl, b1⟩
    rw [if_pos (by omega)]
    go_wp2_with fail
    go_ret
    exact ⟨rfl, below_then B0 b1⟩
  have Hl := Lib.hid h.len
  obtain ⟨r, hrr⟩ : ∃ r, (1048576 : Int) - (n : Int) = r := ⟨_, rfl⟩
  have hr0 : ¬ r < 0 := by omega
  go_enter Try.func4, Try.ntmps4
  go_wp2_with fail
  refine (laws_szNet J A n c 1048576 (by omega) (by omega) hr _).mono ?_
  rintro e w1 ⟨rfl, b1⟩
  rw [if_neg (by omega), hrr]
  have B1 := below_then B0 b1
  have a0_1 := cell_on a0 b1 al
  have a1_1 := cell_on a1 b1 al
  have l1 := Nat.lt_of_lt_of_le al b1.size
  go_wp2_with fail
  refine (laws_toNet J A n c es _ hm (h.on B1)).mono ?_
  rintro e ws ⟨v, rfl, ho, bs⟩
  obtain ⟨As, ns, cs, rfl, hl, hcc⟩ := own_shape ho
  have Cs := Lib.hid hcc
  clear hcc
  have ms : ns ≤ 1048576 := by have := Hl.out; omega
  have Ls := Lib.hid hl
  clear hl
  have Os := Lib.hid ho
  clear ho
  have B2 := below_then B1 bs
  have a0_2 := cell_on a0_1 bs l1
  have a1_2 := cell_on a1_1 bs l1
  have l2 := Nat.lt_of_lt_of_le l1 bs.size
  go_wp2_with fail
  refine (spec_WorstDitch J src As ns cs es _ ms Cs.out (own_sl Os.out Q3.cells_len)).mono ?_
  rintro e wS ⟨rfl, bS⟩
  have B3 := below_then B2 bS
  have a0_3 := cell_on a0_2 bS l2
  have a1_3 := cell_on a1_2 bS l2
  have l3 := Nat.lt_of_lt_of_le l2 bS.size
  go_wp2_with fail
  refine (laws_toNet J A n c es _ hm (h.on B3)).mono ?_
  rintro e wx ⟨v, rfl, ho, bx⟩
  obtain ⟨Ax, nx, cx, rfl, hl, hcc⟩ := own_shape ho
  have Cx := Lib.hid hcc
  clear hcc
  have mx : nx ≤ 1048576 := by have := Hl.out; omega
  have Lx := Lib.hid hl
  clear hl
  have Ox := Lib.hid ho
  clear ho
  have B4 := below_then B3 bx
  have a0_4 := cell_on a0_3 bx l3
  have a1_4 := cell_on a1_3 bx l3
  have l4 := Nat.lt_of_lt_of_le l3 bx.size
  go_wp2_with fail
  have bX : Below wx.heap.size wx (wx.alloc (.cells #[.int .i64 J, .slice Ax nx cx] 30)) := below_al (Below.refl _ _) _
  have B5 := below_then B4 bX
  have a0_5 := cell_on a0_4 bX l4
  have a1_5 := cell_on a1_4 bX l4
  have l5 := Nat.lt_of_lt_of_le l4 bX.size
  have Ox2 := Lib.hid (own_alloc Ox.out (.cells #[.int .i64 J, .slice Ax nx cx] 30))
  refine (impl_WorstDitch J src Ax nx cx es _ mx Cx.out (own_sl Ox2.out Q3.cells_len)).mono ?_
  rintro e wG ⟨rfl, bG⟩
  obtain ⟨x0, x1⟩ := box2k bG
  have xl : wx.heap.size < wG.heap.size := by have := bG.size; simp at this; omega
  have B6 := below_then B5 bG
  have a0_6 := cell_on a0_5 bG l5
  have a1_6 := cell_on a1_5 bG l5
  have l6 := Nat.lt_of_lt_of_le l5 bG.size
  have Ox3 := Lib.hid (Ox2.out.below bG (Nat.le_refl _))
  go_wp2_with fail
  go_region_held3 (fun w' => w'.cell? ⟨w.heap.size, 0, none⟩ = some (.int .i64 J) ∧ w'.cell? ⟨w.heap.size, 1, none⟩ = some (.slice A n c) ∧ w'.cell? ⟨wx.heap.size, 0, none⟩ = some (.int .i64 J) ∧ w'.cell? ⟨wx.heap.size, 1, none⟩ = some (.slice Ax nx cx)) (go_keep)
    (first
      | (go_at_call 11; refine (laws_toNet J A n c es _ hm (h.on (below_dr B6))).mono ?_; rintro e wy ⟨v, rfl, ho, by_⟩; obtain ⟨Ay, ny, cy, rfl, hl, _⟩ := own_shape ho; have my : ny ≤ 1048576 := (by have := Hl.out; omega); have Oy := Lib.hid ho; clear ho hl; have bd := below_then (below_dr (Below.refl _ wG)) by_; have u0 := cell_on a0_6 bd l6; have u1 := cell_on a1_6 bd l6; have u2 := cell_on x0 bd xl; have u3 := cell_on x1 bd xl)
      | (go_at_call 13; refine (laws_eqNet J Ax Ay nx ny cx cy es _ mx my (own_sl (Own.below Ox3.out bd (Nat.le_refl _)) Q3.cells_len) (own_sl Oy.out Q3.cells_len)).mono ?_; rintro e wz ⟨rfl, bz⟩; have be := below_then bd bz; have u0 := cell_on a0_6 be l6; have u1 := cell_on a1_6 be l6; have u2 := cell_on x0 be xl; have u3 := cell_on x1 be xl))
  have Fx1 := Lib.hid (Own.below Ox3.out be (Nat.le_refl _))
  have B7 := below_then B6 be
  have a0_7 := cell_on a0_6 be l6
  have a1_7 := cell_on a1_6 be l6
  have l7 := Nat.lt_of_lt_of_le l6 be.size
  go_wp2_with fail
  go_ret
  exact ⟨rfl, B7⟩
open Go.ChangeShapes Go.WideShapes Go.ChangeAt Go.Deep Go.Joins
set_option maxRecDepth 100000
theorem open_net {H : Type} {enc : TypeId × Value → H} {W : World} {b0 : Nat} {v : Value} {d : DataW H} {ps : List MemPlace} (hv : Value.okWide Try.prog W .any b0 24 v) (h : DataW.Trod enc Try.prog W 0 (fun _ => true) true 24 v d ps) :
    ∃ (J : Int) (A : Option Addr) (n c : Nat) (es : List Q3), v = .agg #[.int .i64 J, .slice A n c] ∧ n ≤ maxLen ∧ Sl W W.heap.size 3 Q3.cells A n es := by
  have hv0 := hv
  obtain ⟨v0, v1, y0, y1, m, rfl, _, _, h0, h1⟩ := open_agg2 Try.underlying24 (by kernel_rfl) (by kernel_rfl) hv h
  obtain ⟨x0, e0, _, _⟩ := DataW.trod_int Try.underlying2 h0
  simp only [List.cons.injEq, and_true] at e0
  subst e0
  have hv1 : Value.okWide Try.prog W .any b0 22 v1 := by
    unfold Value.okWide at hv0
    simp only [Try.underlying24] at hv0
    obtain ⟨cs, hcs, _, ts, hts, _, hc⟩ := hv0
    injection hcs with hcs
    subst hcs
    have e : Try.prog.cellTypes Try.prog.depth 24 = some [2, 22] := by kernel_rfl
    rw [e] at hts
    injection hts with hts
    subst hts
    obtain ⟨u, hu, hx⟩ := hc 1 v1 rfl
    simp at hu
    subst hu
    unfold Value.okWide
    simp only [Try.underlying22]
    exact hx
  obtain ⟨A', n', c', rfl⟩ := okWide_slice Try.underlying22 hv1
  obtain ⟨A, n, c, es, e, hm, hs, _⟩ := open_q3s Try.underlying22 Try.underlying120 (by kernel_rfl) (by kernel_rfl) Try.underlying2 Try.underlying2 Try.underlying2 hv1 (⟨m, by simpa [Value.cells] using h1⟩ : DataW.Trod enc Try.prog W 0 (fun _ => true) true 22 (.slice A' n' c') _ _)
  injection e with e1 e2 e3
  subst e1 e2 e3
  exact ⟨x0, A', n', c', es, rfl, hm, hs⟩
set_option maxRecDepth 100000
theorem lifted_WorstDitch (os : Os) (started : os.Started) (H : Type) (enc : TypeId × Value → H) :
    ReturnsInHanded {} Try.checked os 4 .any (Rows.fnExactWorstDitchSpec.pre6 enc Try.prog Try.f4 [] false) (Rows.fnExactWorstDitchSpec.post enc Try.prog Try.f4 false true false false) := by
  refine lift_law (C := Try.checked) (by kernel_rfl) (by kernel_rfl) (s := Rows.fnExactWorstDitchSpec) (T := 4) Try.underlying4 rfl rfl ?_ (by kernel_rfl) (by kernel_rfl) Try.func4 started
    (ChangeSpec.witness6 (enc := enc) (C := Try.checked) false ⟨#[], #[.agg #[.int .i64 0, .slice none 0 0], .int .i64 0], []⟩ 8 (by kernel_rfl) (by kernel_rfl) (by kernel_rfl) (by kernel_rfl)) ?_
  · intro H ds hl
    match ds, hl with
    | [d0, d1], _ => rfl
  · intro W base args ds ps hval hlt hA
    have hval' : ∀ (j : Nat) t v, (#[24, 2] : Array TypeId)[j]? = some t → args[j]? = some v → Value.okWide Try.prog W .any base t v := hval
    have hA' : DataW.TrodAll enc Try.prog W 0 (fun _ => true) true [24, 2] args.toList ds ps := hA
    obtain ⟨v0, v1, d0, d1, p0, p1, rfl, rfl, rfl, z0, z1⟩ := trodAll_two hA'
    obtain ⟨J, A0, n0, c0, es0, rfl, hm0, hs0⟩ := open_net (hval' 0 24 v0 rfl rfl) z0
    obtain ⟨x1, rfl, rfl, rfl, _⟩ := open_int Try.underlying2 (hval' 1 2 v1 rfl rfl) z1
    exact law_WorstDitch J x1 A0 n0 c0 es0 W (by unfold maxLen at hm0; omega) hs0
theorem row_WorstDitch : Rows.FnExactWorstDitchSaid :=
  OpenClaim.holds_of_wide 4 Try.f4 rfl rfl rfl rfl rfl rfl rfl ⟨rfl, rfl, rfl, rfl, rfl⟩ rfl rfl rfl rfl rfl (by kernel_rfl) Try.func4 (by kernel_rfl)
    (of_decide_eq_true (by kernel_rfl)) (by unfold Func.isWrapper; first | (rw [if_pos (by decide +kernel)]; kernel_rfl) | (rw [if_neg (by decide +kernel)]; exact ⟨rfl, rfl⟩))
    (fun os started H enc _ => lifted_WorstDitch os started H enc)

end Go.Proofs.Ytogjkcakoahpiaa

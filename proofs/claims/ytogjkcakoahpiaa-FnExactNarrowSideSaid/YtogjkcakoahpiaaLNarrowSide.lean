/- Proves: the law NarrowSide returns true for every input and leaves its arguments as they were (the given statement). Conditions: none beyond the statement itself. -/
import Derived.Test.YtogjkcakoahpiaaN12
import Derived.Test.YtogjkcakoahpiaaRow
import Derived.Deep.RegionHeld3
namespace Go.Proofs.Ytogjkcakoahpiaa
open Go.RowKit Go.Sort

set_option maxHeartbeats 4000000 in
set_option maxRecDepth 100000 in
theorem law_NarrowSide (J src : Int) (A : Option Addr) (n c : Nat) (es : List Q3) (w : World) (hr : n ≤ 9223372036854775807) (h : Sl w w.heap.size 3 Q3.cells A n es) :
    Calls Try.prog 5 #[.agg #[.int .i64 J, .slice A n c], .int .i64 src] w fun e w' => e = .returned (.bool true) ∧ Below w.heap.size w w' := by
  have B0 := below_al (Below.refl _ w) (.cells #[.int .i64 J, .slice A n c] 24)
  obtain ⟨a0, a1⟩ := box2k (Below.refl (w.alloc (.cells #[.int .i64 J, .slice A n c] 24)).heap.size (w.alloc (.cells #[.int .i64 J, .slice A n c] 24)))
  have al : w.heap.size < (w.alloc (.cells #[.int .i64 J, .slice A n c] 24)).heap.size := by simp
  by_cases hm : n ≤ 1048576
  rotate_left
  · go_enter Try.func5, Try.ntmps5
    go_wp2_with fail
    refine (laws_szNet J A n c 1048576 (by omega) (by omega) hr _).mono ?_
    rintro e w1 ⟨rfl, b1⟩
    rw [if_pos (by omega)]
    go_wp2_with fail
    go_ret
    exact ⟨rfl, below_then B0 b1⟩
  have Hl := Lib.hid h.len
  obtain ⟨r, hrr⟩ : ∃ r, (1048576 : Int) - (n : Int) = r := ⟨_, rfl⟩
  have hr0 : ¬ r < 0 := by omega
  go_enter Try.func5, Try.ntmps5
  go_wp2_with fail
  refine (laws_szNet J A n c 1048576 (by omega) (by omega) hr _).mono ?_
  rintro e w1 ⟨rfl, b1⟩
  rw [if_neg (by omega), hrr]
  have B1 := below_then B0 b1
  have a0_1 := cell_on a0 b1 al
  have a1_1 := cell_on a1 b1 al
  have l1 := Nat.lt_of_lt_of_le al b1.size
  go_wp2_with fail
  refine (laws_toNet J A n c es _ hm (h.on B1)).mono ?_
  rintro e ws ⟨v, rfl, ho, bs⟩
  obtain ⟨As, ns, cs, rfl, hl, _⟩ := own_shape ho
  have ms : ns ≤ 1048576 := by have := Hl.out; omega
  have Ls := Lib.hid hl
  clear hl
  have Os := Lib.hid ho
  clear ho
  have B2 := below_then B1 bs
  have a0_2 := cell_on a0_1 bs l1
  have a1_2 := cell_on a1_1 bs l1
  have l2 := Nat.lt_of_lt_of_le l1 bs.size
  go_wp2_with fail
  refine (spec_NarrowSide J src As ns cs es _ ms (own_sl Os.out Q3.cells_len)).mono ?_
  rintro e wS ⟨v, rfl, ho, bS⟩
  obtain ⟨AS, nS, cS, rfl, hl, _⟩ := own_shape ho
  have LS := Lib.hid hl
  have OS := Lib.hid ho
  clear hl ho
  have B3 := below_then B2 bS
  have a0_3 := cell_on a0_2 bS l2
  have a1_3 := cell_on a1_2 bS l2
  have l3 := Nat.lt_of_lt_of_le l2 bS.size
  go_wp2_with fail
  refine (laws_toNet J A n c es _ hm (h.on B3)).mono ?_
  rintro e wx ⟨v, rfl, ho, bx⟩
  obtain ⟨Ax, nx, cx, rfl, hl, _⟩ := own_shape ho
  have mx : nx ≤ 1048576 := by have := Hl.out; omega
  have Lx := Lib.hid hl
  clear hl
  have Ox := Lib.hid ho
  clear ho
  have B4 := below_then B3 bx
  have a0_4 := cell_on a0_3 bx l3
  have a1_4 := cell_on a1_3 bx l3
  have l4 := Nat.lt_of_lt_of_le l3 bx.size
  go_wp2_with fail
  have bX : Below wx.heap.size wx (wx.alloc (.cells #[.int .i64 J, .slice Ax nx cx] 30)) := below_al (Below.refl _ _) _
  have B5 := below_then B4 bX
  have a0_5 := cell_on a0_4 bX l4
  have a1_5 := cell_on a1_4 bX l4
  have l5 := Nat.lt_of_lt_of_le l4 bX.size
  have Ox2 := Lib.hid (own_alloc Ox.out (.cells #[.int .i64 J, .slice Ax nx cx] 30))
  refine (impl_NarrowSide J src Ax nx cx es _ mx (own_sl Ox2.out Q3.cells_len)).mono ?_
  rintro e wG ⟨v, rfl, ho, bG⟩
  obtain ⟨AG, nG, cG, rfl, hl, _⟩ := own_shape ho
  have LG := Lib.hid hl
  have OG := Lib.hid ho
  clear hl ho
  obtain ⟨x0, x1⟩ := box2k bG
  have xl : wx.heap.size < wG.heap.size := by have := bG.size; simp at this; omega
  have B6 := below_then B5 bG
  have a0_6 := cell_on a0_5 bG l5
  have a1_6 := cell_on a1_5 bG l5
  have l6 := Nat.lt_of_lt_of_le l5 bG.size
  have Ox3 := Lib.hid (Ox2.out.below bG (Nat.le_refl _))
  have hsz : (nsL J es src).length ≤ 1048576 := nsL_len J es src
  have OS1 := Lib.hid (((OS.out.below bx (Nat.le_refl _)).below bX (Nat.le_refl _)).below bG (Nat.le_refl _))
  have neSx := own_ne_lo OS.out Ox.out (Nat.le_refl _)
  have neGx := own_ne_hi Ox.out OG.out (by simp)
  have neSG := own_ne_lo OS.out OG.out (Nat.le_trans bx.size (by simp))
  have mG : nG ≤ 1048576 := by have := LG.out; omega
  have mS : nS ≤ 1048576 := by have := LS.out; omega
  go_wp2_with fail
  refine (laws_eqInt64S AG AS nG nS cG cS (nsL J es src) (nsL J es src) _ mG mS (own_sl OG.out icell_len) (own_sl OS1.out icell_len)).mono ?_
  rintro e wE1 ⟨rfl, bE1⟩
  rw [ieq_self]
  have Fx1 := Lib.hid (Own.below Ox3.out bE1 (Nat.le_refl _))
  have FS1 := Lib.hid (Own.below OS1.out bE1 (Nat.le_refl _))
  have FG1 := Lib.hid (Own.below OG.out bE1 (Nat.le_refl _))
  have B7 := below_then B6 bE1
  have a0_7 := cell_on a0_6 bE1 l6
  have a1_7 := cell_on a1_6 bE1 l6
  have l7 := Nat.lt_of_lt_of_le l6 bE1.size
  have x0 := cell_on x0 bE1 xl
  have x1 := cell_on x1 bE1 xl
  have xl := Nat.lt_of_lt_of_le xl bE1.size
  go_wp2_with fail
  go_region_held3 (fun w' => w'.cell? ⟨w.heap.size, 0, none⟩ = some (.int .i64 J) ∧ w'.cell? ⟨w.heap.size, 1, none⟩ = some (.slice A n c) ∧ w'.cell? ⟨wx.heap.size, 0, none⟩ = some (.int .i64 J) ∧ w'.cell? ⟨wx.heap.size, 1, none⟩ = some (.slice Ax nx cx)) (go_keep)
    (first
      | (go_at_call 11; refine (laws_toNet J A n c es _ hm (h.on (below_dr B7))).mono ?_; rintro e wy ⟨v, rfl, ho, by_⟩; obtain ⟨Ay, ny, cy, rfl, hl, _⟩ := own_shape ho; have my : ny ≤ 1048576 := (by have := Hl.out; omega); have Oy := Lib.hid ho; clear ho hl; have bd := below_then (below_dr (Below.refl _ wE1)) by_; have u0 := cell_on a0_7 bd l7; have u1 := cell_on a1_7 bd l7; have u2 := cell_on x0 bd xl; have u3 := cell_on x1 bd xl)
      | (go_at_call 13; refine (laws_eqNet J Ax Ay nx ny cx cy es _ mx my (own_sl (Own.below Fx1.out bd (Nat.le_refl _)) Q3.cells_len) (own_sl Oy.out Q3.cells_len)).mono ?_; rintro e wz ⟨rfl, bz⟩; have be := below_then bd bz; have u0 := cell_on a0_7 be l7; have u1 := cell_on a1_7 be l7; have u2 := cell_on x0 be xl; have u3 := cell_on x1 be xl))
  have Fx2 := Lib.hid (Own.below Fx1.out be (Nat.le_refl _))
  have FS2 := Lib.hid (Own.below FS1.out be (Nat.le_refl _))
  have FG2 := Lib.hid (Own.below FG1.out be (Nat.le_refl _))
  have B8 := below_then B7 be
  have a0_8 := cell_on a0_7 be l7
  have a1_8 := cell_on a1_7 be l7
  have l8 := Nat.lt_of_lt_of_le l7 be.size
  have x0 := cell_on x0 be xl
  have x1 := cell_on x1 be xl
  have xl := Nat.lt_of_lt_of_le xl be.size
  go_wp2_with fail
  refine (laws_markNet J _ nx (.slice Ax nx cx) (es.flatMap Q3.cells) 1 _ mx (by omega) (by omega) (by have := Lx.out; have h9 := Fx2.out; unfold Own at h9; rw [this] at h9; exact h9)).mono ?_
  rintro e wM ⟨rfl, gM⟩
  have bA : Below wz.heap.size wz (wz.alloc (.cells #[.int .i64 J, .slice Ax nx cx] 30)) := below_al (Below.refl _ _) _
  have Fx3 := Lib.hid (Own.below Fx2.out bA (Nat.le_refl _))
  have FS3 := Lib.hid (Own.below FS2.out bA (Nat.le_refl _))
  have FG3 := Lib.hid (Own.below FG2.out bA (Nat.le_refl _))
  have B9 := below_then B8 bA
  have a0_9 := cell_on a0_8 bA l8
  have a1_9 := cell_on a1_8 bA l8
  have l9 := Nat.lt_of_lt_of_le l8 bA.size
  have rl4 := World.ownsRow.lt Fx3.out
  have FS4 := Lib.hid (own_other FS3.out neSx gM)
  have FG4 := Lib.hid (own_other FG3.out neGx gM)
  have B10 := own_grown B9 Fx3.out (by have := l1; have := b1.size; have := bs.size; have := bS.size; have := bx.size; simp only [size_alloc'] at *; omega) B9.size gM
  have nw10 : some w.heap.size ≠ (.slice Ax nx cx : Value).ownBlock := fun e => by have := (rl4 _ e.symm).1; have := l1; have := b1.size; have := bs.size; have := bS.size; have := bx.size; simp only [size_alloc'] at *; omega
  have a0_10 := ((grownO gM (b := w.heap.size) l9 nw10).1 0).trans a0_9
  have a1_10 := ((grownO gM (b := w.heap.size) l9 nw10).1 1).trans a1_9
  have l10 := Nat.lt_of_lt_of_le l9 gM.size
  go_wp2_with fail
  refine (laws_eqInt64S AG AS nG nS cG cS (nsL J es src) (nsL J es src) _ mG mS (own_sl FG4.out icell_len) (own_sl FS4.out icell_len)).mono ?_
  rintro e wE2 ⟨rfl, bE2⟩
  rw [ieq_self]
  have FS5 := Lib.hid (Own.below FS4.out bE2 (Nat.le_refl _))
  have FG5 := Lib.hid (Own.below FG4.out bE2 (Nat.le_refl _))
  have B11 := below_then B10 bE2
  have a0_11 := cell_on a0_10 bE2 l10
  have a1_11 := cell_on a1_10 bE2 l10
  have l11 := Nat.lt_of_lt_of_le l10 bE2.size
  go_wp2_with fail
  refine (laws_markInt64S _ nG _ _ 1 _ mG (by omega) (by omega) (by have := LG.out; have h9 := FG5.out; unfold Own at h9; rw [this] at h9; exact h9)).mono ?_
  rintro e wN ⟨rfl, pN, gN⟩
  have rl6 := World.ownsRow.lt FG5.out
  have FS6 := Lib.hid (own_other FS5.out neSG gN)
  have B12 := own_grown B11 FG5.out (by have := l1; have := b1.size; have := bs.size; have := bS.size; have := bx.size; simp only [size_alloc'] at *; omega) B11.size gN
  have nw12 : some w.heap.size ≠ (.slice AG nG cG : Value).ownBlock := fun e => by have := (rl6 _ e.symm).1; have := l1; have := b1.size; have := bs.size; have := bS.size; have := bx.size; simp only [size_alloc'] at *; omega
  have a0_12 := ((grownO gN (b := w.heap.size) l11 nw12).1 0).trans a0_11
  have a1_12 := ((grownO gN (b := w.heap.size) l11 nw12).1 1).trans a1_11
  have l12 := Nat.lt_of_lt_of_le l11 gN.size
  have PN := Lib.hid pN
  clear pN
  go_wp2_with fail
  refine (laws_heldInt64S _ nG _ 1 _ mG (by omega) (by omega) PN.out).mono ?_
  rintro e wH1 ⟨rfl, rfl⟩
  go_wp2_with fail
  refine (laws_toNet J A n c es _ hm (h.on B12)).mono ?_
  rintro e wh ⟨v, rfl, ho, bh⟩
  obtain ⟨Ah, nh, ch, rfl, hl, _⟩ := own_shape ho
  have mh : nh ≤ 1048576 := by have := Hl.out; omega
  have Lh := Lib.hid hl
  clear hl
  have Oh := Lib.hid ho
  clear ho
  have B13 := below_then B12 bh
  have a0_13 := cell_on a0_12 bh l12
  have a1_13 := cell_on a1_12 bh l12
  have l13 := Nat.lt_of_lt_of_le l12 bh.size
  have FSh := Lib.hid (Own.below FS6.out bh (Nat.le_refl _))
  go_wp2_with fail
  refine (impl_NarrowSide J src Ah nh ch es _ mh (own_sl Oh.out Q3.cells_len)).mono ?_
  rintro e wI ⟨v, rfl, ho, bI⟩
  obtain ⟨AI, nI, cI, rfl, hl, _⟩ := own_shape ho
  have LI := Lib.hid hl
  have OI := Lib.hid ho
  clear hl ho
  have mI : nI ≤ 1048576 := by have := LI.out; omega
  have B14 := below_then B13 bI
  have a0_14 := cell_on a0_13 bI l13
  have a1_14 := cell_on a1_13 bI l13
  have l14 := Nat.lt_of_lt_of_le l13 bI.size
  have FSi := Lib.hid (Own.below FSh.out bI (Nat.le_refl _))
  go_wp2_with fail
  refine (laws_eqInt64S AI AS nI nS cI cS (nsL J es src) (nsL J es src) _ mI mS (own_sl OI.out icell_len) (own_sl FSi.out icell_len)).mono ?_
  rintro e wJ ⟨rfl, bJ⟩
  rw [ieq_self]
  have B15 := below_then B14 bJ
  have a0_15 := cell_on a0_14 bJ l14
  have a1_15 := cell_on a1_14 bJ l14
  have l15 := Nat.lt_of_lt_of_le l14 bJ.size
  go_wp2_with fail
  refine (laws_heldInt64S _ nG _ 1 _ mG (by omega) (by omega) (owns_below (owns_below (owns_below PN.out bh (Nat.le_refl _)) bI (Nat.le_refl _)) bJ (Nat.le_refl _))).mono ?_
  rintro e wH2 ⟨rfl, rfl⟩
  go_wp2_with fail
  go_ret
  exact ⟨rfl, B15⟩
open Go.ChangeShapes Go.WideShapes Go.ChangeAt Go.Deep Go.Joins
set_option maxRecDepth 100000
theorem open_net {H : Type} {enc : TypeId × Value → H} {W : World} {b0 : Nat} {v : Value} {d : DataW H} {ps : List MemPlace} (hv : Value.okWide Try.prog W .any b0 24 v) (h : DataW.Trod enc Try.prog W 0 (fun _ => true) true 24 v d ps) :
    ∃ (J : Int) (A : Option Addr) (n c : Nat) (es : List Q3), v = .agg #[.int .i64 J, .slice A n c] ∧ n ≤ maxLen ∧ Sl W W.heap.size 3 Q3.cells A n es := by
  have hv0 := hv
  obtain ⟨v0, v1, y0, y1, m, rfl, _, _, h0, h1⟩ := open_agg2 Try.underlying24 (by kernel_rfl) (by kernel_rfl) hv h
  obtain ⟨x0, e0, _, _⟩ := DataW.trod_int Try.underlying2 h0
  simp only [List.cons.injEq, and_true] at e0
  subst e0
  have hv1 : Value.okWide Try.prog W .any b0 22 v1 := by
    unfold Value.okWide at hv0
    simp only [Try.underlying24] at hv0
    obtain ⟨cs, hcs, _, ts, hts, _, hc⟩ := hv0
    injection hcs with hcs
    subst hcs
    have e : Try.prog.cellTypes Try.prog.depth 24 = some [2, 22] := by kernel_rfl
    rw [e] at hts
    injection hts with hts
    subst hts
    obtain ⟨u, hu, hx⟩ := hc 1 v1 rfl
    simp at hu
    subst hu
    unfold Value.okWide
    simp only [Try.underlying22]
    exact hx
  obtain ⟨A', n', c', rfl⟩ := okWide_slice Try.underlying22 hv1
  obtain ⟨A, n, c, es, e, hm, hs, _⟩ := open_q3s Try.underlying22 Try.underlying120 (by kernel_rfl) (by kernel_rfl) Try.underlying2 Try.underlying2 Try.underlying2 hv1 (⟨m, by simpa [Value.cells] using h1⟩ : DataW.Trod enc Try.prog W 0 (fun _ => true) true 22 (.slice A' n' c') _ _)
  injection e with e1 e2 e3
  subst e1 e2 e3
  exact ⟨x0, A', n', c', es, rfl, hm, hs⟩
set_option maxRecDepth 100000
theorem lifted_NarrowSide (os : Os) (started : os.Started) (H : Type) (enc : TypeId × Value → H) :
    ReturnsInHanded {} Try.checked os 5 .any (Rows.fnExactNarrowSideSpec.pre6 enc Try.prog Try.f5 [] false) (Rows.fnExactNarrowSideSpec.post enc Try.prog Try.f5 false true false false) := by
  refine lift_law (C := Try.checked) (by kernel_rfl) (by kernel_rfl) (s := Rows.fnExactNarrowSideSpec) (T := 4) Try.underlying4 rfl rfl ?_ (by kernel_rfl) (by kernel_rfl) Try.func5 started
    (ChangeSpec.witness6 (enc := enc) (C := Try.checked) false ⟨#[], #[.agg #[.int .i64 0, .slice none 0 0], .int .i64 0], []⟩ 8 (by kernel_rfl) (by kernel_rfl) (by kernel_rfl) (by kernel_rfl)) ?_
  · intro H ds hl
    match ds, hl with
    | [d0, d1], _ => rfl
  · intro W base args ds ps hval hlt hA
    have hval' : ∀ (j : Nat) t v, (#[24, 2] : Array TypeId)[j]? = some t → args[j]? = some v → Value.okWide Try.prog W .any base t v := hval
    have hA' : DataW.TrodAll enc Try.prog W 0 (fun _ => true) true [24, 2] args.toList ds ps := hA
    obtain ⟨v0, v1, d0, d1, p0, p1, rfl, rfl, rfl, z0, z1⟩ := trodAll_two hA'
    obtain ⟨J, A0, n0, c0, es0, rfl, hm0, hs0⟩ := open_net (hval' 0 24 v0 rfl rfl) z0
    obtain ⟨x1, rfl, rfl, rfl, _⟩ := open_int Try.underlying2 (hval' 1 2 v1 rfl rfl) z1
    exact law_NarrowSide J x1 A0 n0 c0 es0 W (by unfold maxLen at hm0; omega) hs0
theorem row_NarrowSide : Rows.FnExactNarrowSideSaid :=
  OpenClaim.holds_of_wide 5 Try.f5 rfl rfl rfl rfl rfl rfl rfl ⟨rfl, rfl, rfl, rfl, rfl⟩ rfl rfl rfl rfl rfl (by kernel_rfl) Try.func5 (by kernel_rfl)
    (of_decide_eq_true (by kernel_rfl)) (by unfold Func.isWrapper; first | (rw [if_pos (by decide +kernel)]; kernel_rfl) | (rw [if_neg (by decide +kernel)]; exact ⟨rfl, rfl⟩))
    (fun os started H enc _ => lifted_NarrowSide os started H enc)

end Go.Proofs.Ytogjkcakoahpiaa

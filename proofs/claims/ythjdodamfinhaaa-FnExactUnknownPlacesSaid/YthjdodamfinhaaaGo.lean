/- Walks over functions of this seat, by contract. Conditions: those that each theorem states. -/
import Derived.Test.YthjdodamfinhaaaGn
namespace Go.Proofs.Ythjdodamfinhaaa
open Go.RowKit Go.Sort

set_option maxHeartbeats 2000000 in
set_option maxRecDepth 100000 in
theorem spec_AddGuard (A : Option Addr) (n c : Nat) (es : List G3) (g : G3) (w : World) (hmax : n ≤ 1048576) (hnm : ∀ e ∈ es, e.s.size ≤ 1048576) (hg : g.s.size ≤ 1048576) (h : Sl w w.heap.size 3 G3.cells A n es) :
    Calls Try.prog 22 #[.slice A n c, .agg #[.string g.s, .int .i64 g.a, .int .i64 g.b]] w fun e w' => ∃ v, e = .returned (.tuple #[v, .int .i64 (addGCode es g)]) ∧ Own w' w.heap.size 35 3 G3.cells v (addGOut es g) ∧ Below w.heap.size w w' := by
  obtain ⟨i0, hi, hz0, hz1, hz2⟩ := info_parts info_Guard
  have hal := below_al (Below.refl _ w) (.cells #[.string g.s, .int .i64 g.a, .int .i64 g.b] 35)
  have Hn := Lib.hid h.len
  obtain ⟨r1, g1⟩ : ∃ r, guardsOk es = r := ⟨_, rfl⟩
  obtain ⟨r2, g2⟩ : ∃ r, guardOk g = r := ⟨_, rfl⟩
  obtain ⟨r3, g3⟩ : ∃ r, hasS (namesOf es) g.s = r := ⟨_, rfl⟩
  cases r1 with
  | false =>
    have hc : addGCode es g = 1 := by unfold addGCode; rw [if_pos g1]
    rw [addGOut_neg (by rw [hc]; omega), hc]
    clear hc g2 g3
    go_enter Try.func22, Try.ntmps22
    go_wp2_with (go_at_call 56; refine (spec_l17Ok _ _ _ es _ hmax hnm (h.on hal)).mono ?_; rintro e w1 ⟨rfl, hb1⟩; rw [g1]; obtain ⟨x0, x1, x2⟩ := box3k hb1)
    have hbw := below_then hal hb1
    go_ret2
    exact ⟨_, rfl, own_nil _ _ _ _ _, hbw⟩
  | true =>
    cases r2 with
    | false =>
      have hc : addGCode es g = 2 := by unfold addGCode; rw [if_neg (by simp [g1]), if_pos g2]
      rw [addGOut_neg (by rw [hc]; omega), hc]
      clear hc g3
      go_enter Try.func22, Try.ntmps22
      go_wp2_with (first
          | (go_at_call 56; refine (spec_l17Ok _ _ _ es _ hmax hnm (h.on hal)).mono ?_; rintro e w1 ⟨rfl, hb1⟩; rw [g1]; obtain ⟨x0, x1, x2⟩ := box3k hb1)
          | (go_at_call 59; refine (spec_l17One _ _ g _ hg x0 x1 x2).mono ?_; rintro e w2 ⟨rfl, hb2⟩; rw [g2]; have hbx2 := below_then hb1 hb2))
      have hbw := below_then hal hbx2
      go_ret2
      exact ⟨_, rfl, own_nil _ _ _ _ _, hbw⟩
    | true =>
      have G1 := Lib.hid g1
      have G2 := Lib.hid g2
      clear g3
      go_enter Try.func22, Try.ntmps22
      go_wp2_with (first
          | (go_at_call 56; refine (spec_l17Ok _ _ _ es _ hmax hnm (h.on hal)).mono ?_; rintro e w1 ⟨rfl, hb1⟩; rw [g1]; obtain ⟨x0, x1, x2⟩ := box3k hb1)
          | (go_at_call 59; refine (spec_l17One _ _ g _ hg x0 x1 x2).mono ?_; rintro e w2 ⟨rfl, hb2⟩; rw [g2]; have hbx2 := below_then hb1 hb2))
      clear g1 g2 x0 x1 x2
      go_loopw [6] (fun q wr => ∃ k : Nat, k ≤ n ∧ q = .int .i64 k ∧ Hid (∀ (j : Nat) e, j < k → es[j]? = some e → sEq e.s g.s = false) ∧ Below (w.alloc (.cells #[.string g.s, .int .i64 g.a, .int .i64 g.b] 35)).heap.size (w.alloc (.cells #[.string g.s, .int .i64 g.a, .int .i64 g.b] 35)) wr) (fun q _ => n - (intOf q).toNat)
      case atStart => exact ⟨0, by omega, rfl, Lib.hid (fun j e hj => by omega), hbx2⟩
      case round =>
        obtain ⟨k, hk, rfl, Hg, hbel⟩ := hrel
        by_cases hlt : k < n
        · obtain ⟨b, off, rfl, hb, H⟩ := h.at_ (by omega)
          obtain ⟨e, he⟩ := h.get hlt
          have hbw := below_then hal hbel
          obtain ⟨c0, _, _⟩ := (H.below hbw hb).g3c (Nat.lt_of_lt_of_le hb hbw.size) he
          obtain ⟨x0, _, _⟩ := box3k hbel
          have z0 := fun d os => cell_regrown x0 d os
          have He := Lib.hid he
          have hk0 : (0 : Int) ≤ (k : Int) := by omega
          have hkn : (k : Int) < (n : Int) := by omega
          clear he
          rcases Bool.eq_false_or_eq_true (sEq e.s g.s) with hq | hq
          · have hq' : e.s.toList = g.s.toList := by simpa [sEq] using hq
            have hq2 : (e.s.toList == g.s.toList) = true := hq
            have Hc : Hid (addGCode es g = 4) := by show addGCode es g = 4; unfold addGCode; rw [if_neg (by simp [G1.out]), if_neg (by simp [G2.out]), if_pos (hasS_yes (namesOf_get He.out) hq)]
            go_wp2_with fail
            refine wp_region_quiet_below (by kernel_rfl) (by kernel_rfl) ?_
            repeat (go_big_quiet_step (fail))
            refine wpQuiet_nil ?_
            intro wq hwq
            have hbq := below_then hbel (below_of_class hwq)
            clear hwq c0 z0 x0
            go_wp2_with fail
            have hbw := below_then hal hbq
            go_ret2
            exact ⟨_, by rw [Hc.out]; rfl, by rw [addGOut_neg (by rw [Hc.out]; omega)]; exact own_nil _ _ _ _ _, hbw⟩
          · have hq' : ¬ e.s.toList = g.s.toList := by simpa [sEq] using hq
            have hq2 : (e.s.toList == g.s.toList) = false := hq
            have Hq := Lib.hid hq
            go_wp2_with fail
            refine wp_region_quiet_below (by kernel_rfl) (by kernel_rfl) ?_
            repeat (go_big_quiet_step (fail))
            refine wpQuiet_nil ?_
            intro wq hwq
            have hbq := below_then hbel (below_of_class hwq)
            clear hwq c0 z0 x0
            go_wp2_with fail
            go_roundw
            case rel => exact ⟨k + 1, by omega, by go_num, Lib.hid (fun j x hj hx => by
              rcases Nat.lt_or_ge j k with h1 | h1
              · exact Hg.out j x h1 hx
              · have : j = k := by omega
                subst this; rw [He.out] at hx; injection hx with hx; subst hx; exact Hq.out), hbq⟩
            case measure => simp [intOf]; omega
        · have hkn : k = n := by omega
          have hno : hasS (namesOf es) g.s = false := by
            refine hasS_no fun q y hy => ?_
            rw [namesOf, List.getElem?_map] at hy
            cases hx : es[q]? with
            | none => rw [hx] at hy; cases hy
            | some x => rw [hx] at hy; injection hy with hy; subst hy; exact Hg.out q x (by have := (List.getElem?_eq_some_iff.1 hx).1; have := Hn.out; omega) hx
          have Hno := Lib.hid hno
          clear hno
          have hbw := below_then hal hbel
          by_cases k6 : 30 ≤ n
          · have k6' : (30 : Int) ≤ (n : Int) := by omega
            have Hc : Hid (addGCode es g = 5) := by show addGCode es g = 5; unfold addGCode; rw [if_neg (by simp [G1.out]), if_neg (by simp [G2.out]), if_neg (by simp [Hno.out]), if_pos (by rw [Hn.out]; exact k6)]
            go_wp2_with fail
            go_ret2
            exact ⟨_, by rw [Hc.out]; rfl, by rw [addGOut_neg (by rw [Hc.out]; omega)]; exact own_nil _ _ _ _ _, hbw⟩
          · have k6' : (n : Int) < 30 := by omega
            have Hc : Hid (addGCode es g = 0) := by show addGCode es g = 0; unfold addGCode; rw [if_neg (by simp [G1.out]), if_neg (by simp [G2.out]), if_neg (by simp [Hno.out]), if_neg (by rw [Hn.out]; exact k6)]
            go_wp2_with (first
          | (at_builtin; refine wpList_app rfl _ _ 25 rfl w.heap.size 35 i0 _ 3 32 Try.underlying25 hi hz0 hz1 hz2 rfl (by omega) G3.cells_len g3_one _ ([] : List G3) es rfl (own_new_empty wr w.heap.size _ 3 G3.cells hbw.size) w.heap.size A n c rfl (h.below (below_al hbw _)) (by simp) (by omega) (by omega) (below_al hbw (.cells #[] 35)).size ?_; intro v2 w2' ho2 hg2; have hb2' := own_grown (below_al hbw _) (own_new_empty wr w.heap.size _ 3 G3.cells hbw.size) (Nat.le_refl _) (below_al hbw _).size hg2; have Ho2 : Hid (Own w2' w.heap.size 35 3 G3.cells v2 es) := (by (show Own w2' w.heap.size 35 3 G3.cells v2 es; simpa using ho2)); clear ho2; have hbx5 := own_grown (below_al hbel (.cells #[] 35)) (own_new_empty wr (w.heap.size + 1) _ 3 G3.cells (by have := hbel.size; simp at this; omega)) (by simp) (below_al hbel (.cells #[] 35)).size hg2; obtain ⟨y0, y1, y2⟩ := box3k hbx5)
          | (at_builtin; refine wpList_push rfl _ _ 25 rfl w.heap.size 35 i0 _ 3 32 Try.underlying25 hi hz0 hz1 hz2 rfl (by omega) G3.cells_len g3_one _ _ g rfl Ho2.out _ rfl _ rfl (by first | rfl | simp) (by rw [Hn.out]; omega) (by omega) hb2'.size ?_; intro v3 w3' ho3 hg3; have hb3' := own_grown hb2' Ho2.out (Nat.le_refl _) hb2'.size hg3))
            go_ret2
            exact ⟨_, by rw [Hc.out]; rfl, by rw [addGOut_pos Hc.out]; exact ho3, hb3'⟩

end Go.Proofs.Ythjdodamfinhaaa

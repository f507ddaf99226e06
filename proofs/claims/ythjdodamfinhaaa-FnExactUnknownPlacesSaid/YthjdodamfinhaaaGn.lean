/- Walks over functions of this seat, by contract. Conditions: those that each theorem states. -/
import Derived.Test.YthjdodamfinhaaaGl
import Derived.Deep.RegionLaw
namespace Go.Proofs.Ythjdodamfinhaaa
open Go.RowKit Go.Sort

theorem sl_boxg (w : World) (g : G3) (E : Nat) : Sl (w.alloc (.cells #[.string g.s, .int .i64 g.a, .int .i64 g.b] E)) (w.heap.size + 1) 3 G3.cells (some ⟨w.heap.size, 0, none⟩) 1 [g] :=
  ⟨rfl, fun _ => ⟨_, _, rfl, by omega, fun k e he j v hv => by
    have hk : k < [g].length := (List.getElem?_eq_some_iff.1 he).1
    have hk0 : k = 0 := by simpa using hk
    subst hk0
    simp at he; subst he
    rw [cell_of_row _ _ _ _ _ (0, 0) (heap_alloc_new w _), Nat.zero_mul, Nat.zero_add, ← Array.getElem?_toList]
    exact hv⟩⟩
theorem sl_boxgh (w : World) (g : G3) (E : Nat) : Sl (w.alloc (.cells #[.string g.s, .int .i64 g.a, .int .i64 g.b] E)) (w.alloc (.cells #[.string g.s, .int .i64 g.a, .int .i64 g.b] E)).heap.size 3 G3.cells (some ⟨w.heap.size, 0, none⟩) 1 [g] := by
  have := sl_boxg w g E
  simpa using this
theorem impl_all_other (A : Option Addr) (n c : Nat) (es : List G3) (s : ByteArray) (g0 : Nat) (w : World) (hmax : n ≤ 1048576) (x0 : w.cell? ⟨g0, 0, none⟩ = some (.string s)) (l0 : g0 < w.heap.size) (h : Sl w w.heap.size 3 G3.cells A n es) :
    Calls Try.prog 60 #[.slice A n c, .func (.func 61) #[] #[.pointer (some ⟨g0, 0, none⟩)]] w fun e w' => e = .returned (.bool (!hasS (namesOf es) s)) ∧ Below w.heap.size w w' := by
  rw [← other_all]
  refine impl_all_Guard 61 _ (otherS s) A n c es w hmax (fun _ _ => by kernel_rfl) (fun x W hx hW => ?_) h
  exact impl_AddGuard_1 x s g0 W (cell_on x0 hW l0) (by have := hW.size; omega)
theorem clone_g (A : Option Addr) (n c : Nat) (es : List G3) (w : World) (hmax : n ≤ 1048576) (h : Sl w w.heap.size 3 G3.cells A n es) (W : World) (hW : Below w.heap.size w W) :
    Calls Try.prog 62 #[.slice A n c] W fun e w' => ∃ A2 n2 c2, e = .returned (.slice A2 n2 c2) ∧ Own w' w.heap.size 35 3 G3.cells (.slice A2 n2 c2) es ∧ Below W.heap.size W w' ∧ Below w.heap.size w w' := by
  refine (impl_clone_Guard A n c es W hmax (h.on hW)).mono ?_
  rintro e w' ⟨v, rfl, ho, hb⟩
  obtain ⟨A2, n2, c2, rfl, _, _⟩ := own_shape ho
  exact ⟨A2, n2, c2, rfl, ho.base_le hW.size, hb, below_then hW hb⟩
set_option maxHeartbeats 2000000 in
set_option maxRecDepth 100000 in
theorem impl_AddGuard (A : Option Addr) (n c : Nat) (es : List G3) (g : G3) (w : World) (hmax : n ≤ 1048576) (hnm : ∀ e ∈ es, e.s.size ≤ 1048576) (hg : g.s.size ≤ 1048576) (h : Sl w w.heap.size 3 G3.cells A n es) :
    Calls Try.prog 24 #[.slice A n c, .agg #[.string g.s, .int .i64 g.a, .int .i64 g.b]] w fun e w' => ∃ v, e = .returned (.tuple #[v, .int .i64 (addGCode es g)]) ∧ Own w' w.heap.size 35 3 G3.cells v (addGOut es g) ∧ Below w.heap.size w w' := by
  obtain ⟨i0, hi, hz0, hz1, hz2⟩ := info_parts info_Guard
  have hal := below_al (Below.refl _ w) (.cells #[.string g.s, .int .i64 g.a, .int .i64 g.b] 35)
  have Hn := Lib.hid h.len
  obtain ⟨r1, g1⟩ : ∃ r, guardsOk es = r := ⟨_, rfl⟩
  obtain ⟨r2, g2⟩ : ∃ r, guardOk g = r := ⟨_, rfl⟩
  obtain ⟨r3, g3⟩ : ∃ r, hasS (namesOf es) g.s = r := ⟨_, rfl⟩
  cases r1 with
  | false =>
    have hc : addGCode es g = 1 := by unfold addGCode; rw [if_pos g1]
    rw [addGOut_neg (by rw [hc]; omega), hc]
    clear hc g2 g3
    go_enter Try.func24, Try.ntmps24
    go_wp2_with (go_at_call 20; refine (impl_ValidGuards _ _ _ es _ hmax hnm (h.on hal)).mono ?_; rintro e w1 ⟨rfl, hb1⟩; rw [g1]; obtain ⟨x0, x1, x2⟩ := box3k hb1)
    have hbw := below_then hal hb1
    go_ret2
    exact ⟨_, rfl, own_new_empty _ _ _ _ _ hbw.size, below_al hbw _⟩
  | true =>
    cases r2 with
    | false =>
      have hc : addGCode es g = 2 := by unfold addGCode; rw [if_neg (by simp [g1]), if_pos g2]
      rw [addGOut_neg (by rw [hc]; omega), hc]
      clear hc g3
      go_enter Try.func24, Try.ntmps24
      go_wp2_with (first
          | (go_at_call 20; refine (impl_ValidGuards _ _ _ es _ hmax hnm (h.on hal)).mono ?_; rintro e w1 ⟨rfl, hb1⟩; rw [g1]; obtain ⟨x0, x1, x2⟩ := box3k hb1)
          | (go_at_call 57; refine (impl_isGuard g _ hg).mono ?_; rintro e w2 ⟨rfl, hb2⟩; rw [g2]; have hbx2 := below_then hb1 hb2; obtain ⟨x3, x4, x5⟩ := box3k hbx2))
      have hbw := below_then hal hbx2
      go_ret2
      exact ⟨_, rfl, own_new_empty _ _ _ _ _ hbw.size, below_al hbw _⟩
    | true =>
      cases r3 with
      | true =>
        have hc : addGCode es g = 4 := by unfold addGCode; rw [if_neg (by simp [g1]), if_neg (by simp [g2]), if_pos g3]
        rw [addGOut_neg (by rw [hc]; omega), hc]
        clear hc
        go_enter Try.func24, Try.ntmps24
        go_wp2_with (first
          | (go_at_call 20; refine (impl_ValidGuards _ _ _ es _ hmax hnm (h.on hal)).mono ?_; rintro e w1 ⟨rfl, hb1⟩; rw [g1]; obtain ⟨x0, x1, x2⟩ := box3k hb1)
          | (go_at_call 57; refine (impl_isGuard g _ hg).mono ?_; rintro e w2 ⟨rfl, hb2⟩; rw [g2]; have hbx2 := below_then hb1 hb2; obtain ⟨x3, x4, x5⟩ := box3k hbx2)
          | (go_at_call 60; refine (impl_all_other _ _ _ es g.s _ _ hmax x3 (by have := hbx2.size; simp at this; omega) ((h.on hal).on hbx2)).mono ?_; rintro e w3 ⟨rfl, hb3⟩; rw [g3]; have hbx3 := below_then hbx2 hb3))
        have hbw := below_then hal hbx3
        go_ret2
        exact ⟨_, rfl, own_new_empty _ _ _ _ _ hbw.size, below_al hbw _⟩
      | false =>
        have hle : n ≤ 30 := by rw [← h.len]; exact (guards_all g1).1
        by_cases k6 : n = 30
        · subst k6
          have hc : addGCode es g = 5 := by unfold addGCode; rw [if_neg (by simp [g1]), if_neg (by simp [g2]), if_neg (by simp [g3]), if_pos (by rw [h.len]; omega)]
          rw [addGOut_neg (by rw [hc]; omega), hc]
          clear hc
          go_enter Try.func24, Try.ntmps24
          go_wp2_with (first
          | (go_at_call 20; refine (impl_ValidGuards _ _ _ es _ hmax hnm (h.on hal)).mono ?_; rintro e w1 ⟨rfl, hb1⟩; rw [g1]; obtain ⟨x0, x1, x2⟩ := box3k hb1)
          | (go_at_call 57; refine (impl_isGuard g _ hg).mono ?_; rintro e w2 ⟨rfl, hb2⟩; rw [g2]; have hbx2 := below_then hb1 hb2; obtain ⟨x3, x4, x5⟩ := box3k hbx2)
          | (go_at_call 60; refine (impl_all_other _ _ _ es g.s _ _ hmax x3 (by have := hbx2.size; simp at this; omega) ((h.on hal).on hbx2)).mono ?_; rintro e w3 ⟨rfl, hb3⟩; rw [g3]; have hbx3 := below_then hbx2 hb3))
          have hbw := below_then hal hbx3
          go_ret2
          exact ⟨_, rfl, own_new_empty _ _ _ _ _ hbw.size, below_al hbw _⟩
        · have hn30 : ((n : Int) == 30) = false := by simp; omega
          have hc : addGCode es g = 0 := by unfold addGCode; rw [if_neg (by simp [g1]), if_neg (by simp [g2]), if_neg (by simp [g3]), if_neg (by rw [h.len]; omega)]
          rw [addGOut_pos hc, hc]
          clear hc
          go_enter Try.func24, Try.ntmps24
          go_wp2_with (first
          | (go_at_call 20; refine (impl_ValidGuards _ _ _ es _ hmax hnm (h.on hal)).mono ?_; rintro e w1 ⟨rfl, hb1⟩; rw [g1]; obtain ⟨x0, x1, x2⟩ := box3k hb1)
          | (go_at_call 57; refine (impl_isGuard g _ hg).mono ?_; rintro e w2 ⟨rfl, hb2⟩; rw [g2]; have hbx2 := below_then hb1 hb2; obtain ⟨x3, x4, x5⟩ := box3k hbx2)
          | (go_at_call 60; refine (impl_all_other _ _ _ es g.s _ _ hmax x3 (by have := hbx2.size; simp at this; omega) ((h.on hal).on hbx2)).mono ?_; rintro e w3 ⟨rfl, hb3⟩; rw [g3]; have hbx3 := below_then hbx2 hb3))
          have hSl3 := (h.on hal).on hbx3
          have hws : w.heap.size < w3.heap.size := by have := hbx3.size; simp at this; omega
          obtain ⟨x6, x7, x8⟩ := box3k hbx3
          clear x0 x1 x2 x3 x4 x5
          go_region_held3 (fun w' => w'.cell? ⟨w.heap.size, 0, none⟩ = some (.string g.s) ∧ w'.cell? ⟨w.heap.size, 1, none⟩ = some (.int .i64 g.a) ∧ w'.cell? ⟨w.heap.size, 2, none⟩ = some (.int .i64 g.b))
            (go_keep)
            (first
              | (go_at_call 62; refine (clone_g A n _ es w3 hmax hSl3 _ (by first | exact below_dr (Below.refl _ _) | exact below_al (below_dr (Below.refl _ _)) _ | exact below_dr (below_al (Below.refl _ _) _))).mono ?_; rintro e' w4 ⟨A2, n2, cc2, rfl, hO4, hb4, hbw4⟩; have z0 := cell_on x6 hbw4 hws; have z1 := cell_on x7 hbw4 hws; have z2 := cell_on x8 hbw4 hws)
              | (refine step_app (by rfl) _ _ 25 (by rfl) w3.heap.size 35 i0 _ 3 32 Try.underlying25 hi hz0 hz1 hz2 rfl (by omega) G3.cells_len g3_one (.slice A2 n2 cc2) es [g] (by rfl) (own_alloc hO4 _) (w4.heap.size + 1) (some ⟨w4.heap.size, 0, none⟩) 1 1 (by rfl) (sl_boxg w4 g _) (by rw [Hn.out]; omega) (by omega) (by omega) (by have := hbw4.size; simp; omega) ?_; intro v5 w5 ho5 hg5; have hb5 := own_grown (below_al hbw4 _) (own_alloc hO4 _) (Nat.le_refl _) (by have := hbw4.size; simp; omega) hg5; have z0 := cell_on x6 hb5 hws; have z1 := cell_on x7 hb5 hws; have z2 := cell_on x8 hb5 hws)
              | (refine step_app (by rfl) _ _ 25 (by rfl) w3.heap.size 35 i0 _ 3 32 Try.underlying25 hi hz0 hz1 hz2 rfl (by omega) G3.cells_len g3_one (.slice A2 n2 cc2) es [g] (by rfl) hO4 w4.heap.size (some ⟨w3.heap.size, 0, none⟩) 1 1 (by rfl) (by first | exact (sl_boxgh w3.drew g _).on hb4 | exact ((sl_boxgh w3 g _).on (below_dr (Below.refl _ _))).on hb4) (by rw [Hn.out]; omega) (by omega) (by omega) (by have := hbw4.size; omega) ?_; intro v5 w5 ho5 hg5; have hb5 := own_grown hbw4 hO4 (Nat.le_refl _) hbw4.size hg5; have z0 := cell_on x6 hb5 hws; have z1 := cell_on x7 hb5 hws; have z2 := cell_on x8 hb5 hws))
          all_goals (go_wp2; go_ret2; exact ⟨_, rfl, ho5.base_le (Nat.le_of_lt hws), below_then (below_then hal hbx3) hb5⟩)

end Go.Proofs.Ythjdodamfinhaaa

/- Walks over functions of this seat, by contract. Conditions: those that each theorem states. -/
import Derived.Test.YtiibamemkmffoaaP10
namespace Go.Proofs.Ytiibamemkmffoaa
open Go.RowKit Go.Sort

set_option maxHeartbeats 1000000 in
theorem spec_l19Put (A : Option Addr) (n c : Nat) (es : List Q4) (p : Q4) (w : World) (hmax : n ≤ 1048576) (hnc : n ≤ c) (h : Sl w w.heap.size 4 Q4.cells A n es) :
    Calls Try.prog 64 #[.slice A n c, .agg #[.int .i64 p.a, .int .i64 p.b, .int .i64 p.c, .int .i64 p.d]] w fun e w' => ∃ v k, e = .returned v ∧ Own w' w.heap.size 46 4 Q4.cells v (putAt es k p) ∧ k ≤ n ∧ (∀ (j : Nat) x, k ≤ j → es[j]? = some x → p.a < x.a) ∧ (0 < k → ∃ x, es[k - 1]? = some x ∧ x.a ≤ p.a) ∧ Below w.heap.size w w' := by
  obtain ⟨i0, hi, hz0, hz1, hz2⟩ := info_parts info_Parcel
  have hal := below_al (Below.refl w.heap.size w) (.cells #[.int .i64 p.a, .int .i64 p.b, .int .i64 p.c, .int .i64 p.d] 46)
  go_enter Try.func64, Try.ntmps64
  go_wp2
  have Hn := Lib.hid h.len
  go_loopw [5] (fun i wr => ∃ k : Nat, k ≤ n ∧ i = .int .i64 k ∧ Hid (∀ (j : Nat) x, k ≤ j → es[j]? = some x → p.a < x.a) ∧ Below (w.alloc (.cells #[.int .i64 p.a, .int .i64 p.b, .int .i64 p.c, .int .i64 p.d] 46)).heap.size (w.alloc (.cells #[.int .i64 p.a, .int .i64 p.b, .int .i64 p.c, .int .i64 p.d] 46)) wr) (fun i _ => (intOf i).toNat)
  case atStart => exact ⟨n, by omega, rfl, Lib.hid (fun j x hj hx => by have := (List.getElem?_eq_some_iff.1 hx).1; have := Hn.out; omega), Below.refl _ _⟩
  case round =>
    obtain ⟨k, hk, rfl, Hgood, hbel⟩ := hrel
    obtain ⟨x0, x1, x2, x3⟩ := box4k hbel
    have hbw := below_then (below_al (Below.refl w.heap.size w) _) hbel
    have z0 := fun d os => cell_regrown x0 d os
    by_cases hpos : 0 < k
    · obtain ⟨b, off, rfl, hb, H⟩ := h.at_ (by omega)
      obtain ⟨e, he⟩ := h.get (k := k - 1) (by omega)
      obtain ⟨c0, _, _, _⟩ := (H.below hbw hb).q4c (Nat.lt_of_lt_of_le hb hbw.size) he
      have He := Lib.hid he
      clear he
      rcases Nat.lt_or_ge k c with hck | hck
      rotate_left
      · have hck0 : c = k := by omega
        have hback : ∀ W, Below w.heap.size w W → Sl W w.heap.size 4 Q4.cells (some ⟨b, off, none⟩) (n - k) (es.drop k) := fun W hW => by
          have := (h.below hW).back k c hk hnc
          rwa [if_pos hck0] at this
        go_wp2_with fail
        refine wp_region_quiet_below (by kernel_rfl) (by kernel_rfl) ?_
        repeat (go_big_quiet_step (fail))
        refine wpQuiet_nil ?_
        intro wq hwq
        have hbq := below_then hbel (below_of_class hwq)
        clear hwq c0 z0
        go_wp2_with (first
          | (at_builtin; refine wpList_app rfl _ _ 25 rfl (w.alloc (.cells #[.int .i64 p.a, .int .i64 p.b, .int .i64 p.c, .int .i64 p.d] 46)).heap.size 46 i0 _ 4 32 Try.underlying25 hi hz0 hz1 hz2 rfl (by omega) Q4.cells_len q4_one _ ([] : List Q4) (es.take k) rfl (own_new_empty _ _ _ _ _ hbq.size) w.heap.size _ k _ rfl ((h.front k hk).below (below_al (below_then hal hbq) _)) (by simp) (by omega) (by omega) (by have := hbq.size; simp at this ⊢; omega) ?_; intro v3 w3 ho3 hg3; rw [List.nil_append] at ho3; have hb3 := own_grown (below_al hbq (.cells #[] 46)) (own_new_empty _ (w.alloc (.cells #[.int .i64 p.a, .int .i64 p.b, .int .i64 p.c, .int .i64 p.d] 46)).heap.size _ 4 Q4.cells hbq.size) (Nat.le_refl _) (by have := hbq.size; simp at this ⊢; omega) hg3; obtain ⟨y0, y1, y2, y3⟩ := box4k hb3; obtain ⟨A3, n3, c3, rfl, _, _⟩ := own_shape ho3)
          | (at_builtin; refine wpList_push rfl _ _ 25 rfl (w.alloc (.cells #[.int .i64 p.a, .int .i64 p.b, .int .i64 p.c, .int .i64 p.d] 46)).heap.size 46 i0 _ 4 32 Try.underlying25 hi hz0 hz1 hz2 rfl (by omega) Q4.cells_len q4_one _ (es.take k) p rfl ho3 _ rfl _ rfl (by first | rfl | simp) (by rw [List.length_take]; omega) (by omega) (by have := hb3.size; simp at this ⊢; omega) ?_; intro v4 w4 ho4 hg4; have hb4 := own_grown hb3 ho3 (Nat.le_refl _) hb3.size hg4; obtain ⟨A4, n4, c4, rfl, _, _⟩ := own_shape ho4)
          | (at_builtin; refine wpList_app rfl _ _ 25 rfl (w.alloc (.cells #[.int .i64 p.a, .int .i64 p.b, .int .i64 p.c, .int .i64 p.d] 46)).heap.size 46 i0 _ 4 32 Try.underlying25 hi hz0 hz1 hz2 rfl (by omega) Q4.cells_len q4_one _ (es.take k ++ [p]) (es.drop k) rfl ho4 w.heap.size _ _ _ rfl (hback _ (below_then hal hb4)) (by rw [List.length_append, List.length_take]; simp; omega) (by omega) (by omega) hb4.size ?_; intro v5 w5 ho5 hg5; have hb5 := own_grown hb4 ho4 (Nat.le_refl _) hb4.size hg5))
        · have hlt : p.a < e.a := by first | assumption | omega
          go_roundw
          case rel => exact ⟨k - 1, by omega, by go_num, Lib.hid (fun j x hj hx => by
              rcases Nat.lt_or_ge j k with h1 | h1
              · have : j = k - 1 := by omega
                subst this; rw [He.out] at hx; injection hx with hx; subst hx; exact hlt
              · exact Hgood.out j x h1 hx), hbq⟩
          case measure => simp [intOf]; omega
        · have hle : e.a ≤ p.a := by omega
          go_ret
          exact ⟨_, k, rfl, ho5.base_le (by simp), hk, Hgood.out, fun _ => ⟨e, He.out, hle⟩, below_then hal hb5⟩
      · have hck0 : ¬ c = k := by omega
        have hback : ∀ W, Below w.heap.size w W → Sl W w.heap.size 4 Q4.cells (some ⟨b, off + k * 4, none⟩) (n - k) (es.drop k) := fun W hW => by
          have := (h.below hW).back k c hk hnc
          have hadd : (⟨b, off, none⟩ : Addr).add (k * 4) = ⟨b, off + k * 4, none⟩ := by unfold Addr.add; rw [if_neg (by omega)]
          rw [if_neg hck0, Option.map_some, hadd] at this
          exact this
        go_wp2_with fail
        refine wp_region_quiet_below (by kernel_rfl) (by kernel_rfl) ?_
        repeat (go_big_quiet_step (fail))
        refine wpQuiet_nil ?_
        intro wq hwq
        have hbq := below_then hbel (below_of_class hwq)
        clear hwq c0 z0
        go_wp2_with (first
          | (at_builtin; refine wpList_app rfl _ _ 25 rfl (w.alloc (.cells #[.int .i64 p.a, .int .i64 p.b, .int .i64 p.c, .int .i64 p.d] 46)).heap.size 46 i0 _ 4 32 Try.underlying25 hi hz0 hz1 hz2 rfl (by omega) Q4.cells_len q4_one _ ([] : List Q4) (es.take k) rfl (own_new_empty _ _ _ _ _ hbq.size) w.heap.size _ k _ rfl ((h.front k hk).below (below_al (below_then hal hbq) _)) (by simp) (by omega) (by omega) (by have := hbq.size; simp at this ⊢; omega) ?_; intro v3 w3 ho3 hg3; rw [List.nil_append] at ho3; have hb3 := own_grown (below_al hbq (.cells #[] 46)) (own_new_empty _ (w.alloc (.cells #[.int .i64 p.a, .int .i64 p.b, .int .i64 p.c, .int .i64 p.d] 46)).heap.size _ 4 Q4.cells hbq.size) (Nat.le_refl _) (by have := hbq.size; simp at this ⊢; omega) hg3; obtain ⟨y0, y1, y2, y3⟩ := box4k hb3; obtain ⟨A3, n3, c3, rfl, _, _⟩ := own_shape ho3)
          | (at_builtin; refine wpList_push rfl _ _ 25 rfl (w.alloc (.cells #[.int .i64 p.a, .int .i64 p.b, .int .i64 p.c, .int .i64 p.d] 46)).heap.size 46 i0 _ 4 32 Try.underlying25 hi hz0 hz1 hz2 rfl (by omega) Q4.cells_len q4_one _ (es.take k) p rfl ho3 _ rfl _ rfl (by first | rfl | simp) (by rw [List.length_take]; omega) (by omega) (by have := hb3.size; simp at this ⊢; omega) ?_; intro v4 w4 ho4 hg4; have hb4 := own_grown hb3 ho3 (Nat.le_refl _) hb3.size hg4; obtain ⟨A4, n4, c4, rfl, _, _⟩ := own_shape ho4)
          | (at_builtin; refine wpList_app rfl _ _ 25 rfl (w.alloc (.cells #[.int .i64 p.a, .int .i64 p.b, .int .i64 p.c, .int .i64 p.d] 46)).heap.size 46 i0 _ 4 32 Try.underlying25 hi hz0 hz1 hz2 rfl (by omega) Q4.cells_len q4_one _ (es.take k ++ [p]) (es.drop k) rfl ho4 w.heap.size _ _ _ rfl (hback _ (below_then hal hb4)) (by rw [List.length_append, List.length_take]; simp; omega) (by omega) (by omega) hb4.size ?_; intro v5 w5 ho5 hg5; have hb5 := own_grown hb4 ho4 (Nat.le_refl _) hb4.size hg5))
        · have hlt : p.a < e.a := by first | assumption | omega
          go_roundw
          case rel => exact ⟨k - 1, by omega, by go_num, Lib.hid (fun j x hj hx => by
              rcases Nat.lt_or_ge j k with h1 | h1
              · have : j = k - 1 := by omega
                subst this; rw [He.out] at hx; injection hx with hx; subst hx; exact hlt
              · exact Hgood.out j x h1 hx), hbq⟩
          case measure => simp [intOf]; omega
        · have hle : e.a ≤ p.a := by omega
          go_ret
          exact ⟨_, k, rfl, ho5.base_le (by simp), hk, Hgood.out, fun _ => ⟨e, He.out, hle⟩, below_then hal hb5⟩
    · rcases Nat.lt_or_ge k c with hck | hck
      rotate_left
      · have hck0 : c = k := by omega
        have hback : ∀ W, Below w.heap.size w W → Sl W w.heap.size 4 Q4.cells A (n - k) (es.drop k) := fun W hW => by
          have := (h.below hW).back k c hk hnc
          rwa [if_pos hck0] at this
        go_wp2_with fail
        refine wp_region_quiet_below (by kernel_rfl) (by kernel_rfl) ?_
        repeat (go_big_quiet_step (fail))
        refine wpQuiet_nil ?_
        intro wq hwq
        have hbq := below_then hbel (below_of_class hwq)
        clear hwq z0
        go_wp2_with (first
          | (at_builtin; refine wpList_app rfl _ _ 25 rfl (w.alloc (.cells #[.int .i64 p.a, .int .i64 p.b, .int .i64 p.c, .int .i64 p.d] 46)).heap.size 46 i0 _ 4 32 Try.underlying25 hi hz0 hz1 hz2 rfl (by omega) Q4.cells_len q4_one _ ([] : List Q4) (es.take k) rfl (own_new_empty _ _ _ _ _ hbq.size) w.heap.size _ k _ rfl ((h.front k hk).below (below_al (below_then hal hbq) _)) (by simp) (by omega) (by omega) (by have := hbq.size; simp at this ⊢; omega) ?_; intro v3 w3 ho3 hg3; rw [List.nil_append] at ho3; have hb3 := own_grown (below_al hbq (.cells #[] 46)) (own_new_empty _ (w.alloc (.cells #[.int .i64 p.a, .int .i64 p.b, .int .i64 p.c, .int .i64 p.d] 46)).heap.size _ 4 Q4.cells hbq.size) (Nat.le_refl _) (by have := hbq.size; simp at this ⊢; omega) hg3; obtain ⟨y0, y1, y2, y3⟩ := box4k hb3; obtain ⟨A3, n3, c3, rfl, _, _⟩ := own_shape ho3)
          | (at_builtin; refine wpList_push rfl _ _ 25 rfl (w.alloc (.cells #[.int .i64 p.a, .int .i64 p.b, .int .i64 p.c, .int .i64 p.d] 46)).heap.size 46 i0 _ 4 32 Try.underlying25 hi hz0 hz1 hz2 rfl (by omega) Q4.cells_len q4_one _ (es.take k) p rfl ho3 _ rfl _ rfl (by first | rfl | simp) (by rw [List.length_take]; omega) (by omega) (by have := hb3.size; simp at this ⊢; omega) ?_; intro v4 w4 ho4 hg4; have hb4 := own_grown hb3 ho3 (Nat.le_refl _) hb3.size hg4; obtain ⟨A4, n4, c4, rfl, _, _⟩ := own_shape ho4)
          | (at_builtin; refine wpList_app rfl _ _ 25 rfl (w.alloc (.cells #[.int .i64 p.a, .int .i64 p.b, .int .i64 p.c, .int .i64 p.d] 46)).heap.size 46 i0 _ 4 32 Try.underlying25 hi hz0 hz1 hz2 rfl (by omega) Q4.cells_len q4_one _ (es.take k ++ [p]) (es.drop k) rfl ho4 w.heap.size _ _ _ rfl (hback _ (below_then hal hb4)) (by rw [List.length_append, List.length_take]; simp; omega) (by omega) (by omega) hb4.size ?_; intro v5 w5 ho5 hg5; have hb5 := own_grown hb4 ho4 (Nat.le_refl _) hb4.size hg5))
        go_ret
        exact ⟨_, k, rfl, ho5.base_le (by simp), hk, Hgood.out, fun h0 => absurd h0 hpos, below_then hal hb5⟩
      · have hck0 : ¬ c = k := by omega
        have hback : ∀ W, Below w.heap.size w W → Sl W w.heap.size 4 Q4.cells (Option.map (fun (x : Addr) => x.add (k * 4)) A) (n - k) (es.drop k) := fun W hW => by
          have := (h.below hW).back k c hk hnc
          rwa [if_neg hck0] at this
        go_wp2_with fail
        refine wp_region_quiet_below (by kernel_rfl) (by kernel_rfl) ?_
        repeat (go_big_quiet_step (fail))
        refine wpQuiet_nil ?_
        intro wq hwq
        have hbq := below_then hbel (below_of_class hwq)
        clear hwq z0
        go_wp2_with (first
          | (at_builtin; refine wpList_app rfl _ _ 25 rfl (w.alloc (.cells #[.int .i64 p.a, .int .i64 p.b, .int .i64 p.c, .int .i64 p.d] 46)).heap.size 46 i0 _ 4 32 Try.underlying25 hi hz0 hz1 hz2 rfl (by omega) Q4.cells_len q4_one _ ([] : List Q4) (es.take k) rfl (own_new_empty _ _ _ _ _ hbq.size) w.heap.size _ k _ rfl ((h.front k hk).below (below_al (below_then hal hbq) _)) (by simp) (by omega) (by omega) (by have := hbq.size; simp at this ⊢; omega) ?_; intro v3 w3 ho3 hg3; rw [List.nil_append] at ho3; have hb3 := own_grown (below_al hbq (.cells #[] 46)) (own_new_empty _ (w.alloc (.cells #[.int .i64 p.a, .int .i64 p.b, .int .i64 p.c, .int .i64 p.d] 46)).heap.size _ 4 Q4.cells hbq.size) (Nat.le_refl _) (by have := hbq.size; simp at this ⊢; omega) hg3; obtain ⟨y0, y1, y2, y3⟩ := box4k hb3; obtain ⟨A3, n3, c3, rfl, _, _⟩ := own_shape ho3)
          | (at_builtin; refine wpList_push rfl _ _ 25 rfl (w.alloc (.cells #[.int .i64 p.a, .int .i64 p.b, .int .i64 p.c, .int .i64 p.d] 46)).heap.size 46 i0 _ 4 32 Try.underlying25 hi hz0 hz1 hz2 rfl (by omega) Q4.cells_len q4_one _ (es.take k) p rfl ho3 _ rfl _ rfl (by first | rfl | simp) (by rw [List.length_take]; omega) (by omega) (by have := hb3.size; simp at this ⊢; omega) ?_; intro v4 w4 ho4 hg4; have hb4 := own_grown hb3 ho3 (Nat.le_refl _) hb3.size hg4; obtain ⟨A4, n4, c4, rfl, _, _⟩ := own_shape ho4)
          | (at_builtin; refine wpList_app rfl _ _ 25 rfl (w.alloc (.cells #[.int .i64 p.a, .int .i64 p.b, .int .i64 p.c, .int .i64 p.d] 46)).heap.size 46 i0 _ 4 32 Try.underlying25 hi hz0 hz1 hz2 rfl (by omega) Q4.cells_len q4_one _ (es.take k ++ [p]) (es.drop k) rfl ho4 w.heap.size _ _ _ rfl (hback _ (below_then hal hb4)) (by rw [List.length_append, List.length_take]; simp; omega) (by omega) (by omega) hb4.size ?_; intro v5 w5 ho5 hg5; have hb5 := own_grown hb4 ho4 (Nat.le_refl _) hb4.size hg5))
        go_ret
        exact ⟨_, k, rfl, ho5.base_le (by simp), hk, Hgood.out, fun h0 => absurd h0 hpos, below_then hal hb5⟩

end Go.Proofs.Ytiibamemkmffoaa

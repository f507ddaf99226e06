/- Walks over functions of this seat, by contract. Conditions: those that each theorem states. -/
import Derived.Test.YtiibamemkmffoaaP9
import Derived.Test.YtiibamemkmffoaaStp
namespace Go.Proofs.Ytiibamemkmffoaa
open Go.RowKit Go.Sort

theorem sl_box4 (w : World) (p : Q4) (E : Nat) : Sl (w.alloc (.cells #[.int .i64 p.a, .int .i64 p.b, .int .i64 p.c, .int .i64 p.d] E)) (w.heap.size + 1) 4 Q4.cells (some ⟨w.heap.size, 0, none⟩) 1 [p] :=
  ⟨rfl, fun _ => ⟨_, _, rfl, by omega, fun k e he j v hv => by
    have hk : k < [p].length := (List.getElem?_eq_some_iff.1 he).1
    have hk0 : k = 0 := by simpa using hk
    subst hk0
    simp at he; subst he
    rw [cell_of_row _ _ _ _ _ (0, 0) (heap_alloc_new w _), Nat.zero_mul, Nat.zero_add, ← Array.getElem?_toList]
    exact hv⟩⟩
theorem sl_box4h (w : World) (p : Q4) (E : Nat) : Sl (w.alloc (.cells #[.int .i64 p.a, .int .i64 p.b, .int .i64 p.c, .int .i64 p.d] E)) (w.alloc (.cells #[.int .i64 p.a, .int .i64 p.b, .int .i64 p.c, .int .i64 p.d] E)).heap.size 4 Q4.cells (some ⟨w.heap.size, 0, none⟩) 1 [p] := by
  have := sl_box4 w p E
  simpa using this
theorem clone_front (A : Option Addr) (k c n : Nat) (es : List Q4) (w : World) (hmax : n ≤ 1048576) (h : Sl w w.heap.size 4 Q4.cells A n es) (hk : k ≤ n) (W : World) (hW : Below w.heap.size w W) :
    Calls Try.prog 62 #[.slice A k c] W fun e w' => ∃ A2 n2 c2, e = .returned (.slice A2 n2 c2) ∧ Own w' w.heap.size 46 4 Q4.cells (.slice A2 n2 c2) (es.take k) ∧ Below W.heap.size W w' ∧ Below w.heap.size w w' := by
  refine (impl_clone_Parcel A k c (es.take k) W (by omega) ((h.on hW).front k hk)).mono ?_
  rintro e w' ⟨v, rfl, ho, hb⟩
  obtain ⟨A2, n2, c2, rfl, _, _⟩ := own_shape ho
  exact ⟨A2, n2, c2, rfl, ho.base_le hW.size, hb, below_then hW hb⟩
def putAt (es : List Q4) (k : Nat) (p : Q4) : List Q4 := es.take k ++ [p] ++ es.drop k
set_option maxHeartbeats 1000000 in
theorem impl_withParcel (A : Option Addr) (n c : Nat) (es : List Q4) (p : Q4) (w : World) (hmax : n ≤ 1048576) (hnc : n ≤ c) (h : Sl w w.heap.size 4 Q4.cells A n es) :
    Calls Try.prog 65 #[.slice A n c, .agg #[.int .i64 p.a, .int .i64 p.b, .int .i64 p.c, .int .i64 p.d]] w fun e w' => ∃ v, e = .returned v ∧ Own w' w.heap.size 46 4 Q4.cells v (putAt es (pat es p.a) p) ∧ Below w.heap.size w w' := by
  obtain ⟨i0, hi, hz0, hz1, hz2⟩ := info_parts info_Parcel
  have hpl := pat_le es p.a
  rw [h.len] at hpl
  obtain ⟨k, hk⟩ : ∃ k, pat es p.a = k := ⟨_, rfl⟩
  rw [hk] at hpl
  have hal := below_al (Below.refl w.heap.size w) (.cells #[.int .i64 p.a, .int .i64 p.b, .int .i64 p.c, .int .i64 p.d] 46)
  rcases Nat.lt_or_ge k c with hck | hck
  rotate_left
  · have hck0 : c = k := by omega
    have hkc : (k : Int) ≤ (c : Int) := by omega
    have hkn : (k : Int) ≤ (n : Int) := by omega
    go_enter Try.func65, Try.ntmps65
    go_wp2_with (go_at_call 55; refine (impl_parcelAt _ _ _ es _ _ hmax (h.on hal)).mono ?_; rintro e' w1 ⟨rfl, hb1⟩; rw [hk]; obtain ⟨x0, x1, x2, x3⟩ := box4k hb1)
    have hSl1 := (h.on hal).on hb1
    have hws : w.heap.size < w1.heap.size := by have := hb1.size; simp at this; omega
    have hback : ∀ W, Below w1.heap.size w1 W → Sl W W.heap.size 4 Q4.cells A (n - k) (es.drop k) := fun W hW => by
      have := (hSl1.on hW).back k c hpl hnc
      rwa [if_pos hck0] at this
    go_region_held3 (fun w' => w'.cell? ⟨w.heap.size, 0, none⟩ = some (.int .i64 p.a) ∧ w'.cell? ⟨w.heap.size, 1, none⟩ = some (.int .i64 p.b) ∧ w'.cell? ⟨w.heap.size, 2, none⟩ = some (.int .i64 p.c) ∧ w'.cell? ⟨w.heap.size, 3, none⟩ = some (.int .i64 p.d))
      (go_keep)
      (first
        | (go_at_call 62; refine (clone_front A k _ n es w1 hmax hSl1 hpl _ (by first | exact below_dr (Below.refl _ _) | exact below_al (below_dr (Below.refl _ _)) _ | exact below_dr (below_al (Below.refl _ _) _))).mono ?_; rintro e' w2 ⟨A2, n2, cc2, rfl, hO2, hb2, hbw2⟩; have z0 := cell_on x0 hbw2 hws; have z1 := cell_on x1 hbw2 hws; have z2 := cell_on x2 hbw2 hws; have z3 := cell_on x3 hbw2 hws)
        | (refine step_app (by rfl) _ _ 25 (by rfl) w1.heap.size 46 i0 _ 4 32 Try.underlying25 hi hz0 hz1 hz2 rfl (by omega) Q4.cells_len q4_one (.slice A2 n2 cc2) (es.take k) [p] (by rfl) (own_alloc hO2 _) (w2.heap.size + 1) (some ⟨w2.heap.size, 0, none⟩) 1 1 (by rfl) (sl_box4 w2 p _) (by rw [List.length_take]; omega) (by omega) (by omega) (by have := hbw2.size; simp; omega) ?_; intro v3 w3 ho3 hg3; have hb3 := own_grown (below_al hbw2 _) (own_alloc hO2 _) (Nat.le_refl _) (by have := hbw2.size; simp; omega) hg3; have z0 := cell_on x0 hb3 hws; have z1 := cell_on x1 hb3 hws; have z2 := cell_on x2 hb3 hws; have z3 := cell_on x3 hb3 hws)
        | (refine step_app (by rfl) _ _ 25 (by rfl) w1.heap.size 46 i0 _ 4 32 Try.underlying25 hi hz0 hz1 hz2 rfl (by omega) Q4.cells_len q4_one (.slice A2 n2 cc2) (es.take k) [p] (by rfl) hO2 w2.heap.size (some ⟨w1.heap.size, 0, none⟩) 1 1 (by rfl) (by first | exact (sl_box4h w1.drew p _).on hb2 | exact ((sl_box4h w1 p _).on (below_dr (Below.refl _ _))).on hb2) (by rw [List.length_take]; omega) (by omega) (by omega) (by have := hbw2.size; omega) ?_; intro v3 w3 ho3 hg3; have hb3 := own_grown hbw2 hO2 (Nat.le_refl _) hbw2.size hg3; have z0 := cell_on x0 hb3 hws; have z1 := cell_on x1 hb3 hws; have z2 := cell_on x2 hb3 hws; have z3 := cell_on x3 hb3 hws)
        | (refine step_app (by rfl) _ _ 25 (by rfl) w1.heap.size 46 i0 _ 4 32 Try.underlying25 hi hz0 hz1 hz2 rfl (by omega) Q4.cells_len q4_one v3 (es.take k ++ [p]) (es.drop k) (by rfl) ho3 w3.heap.size _ _ _ (by rfl) (hback _ hb3) (by rw [List.length_append, List.length_take]; simp; omega) (by omega) (by omega) (by have := hb3.size; omega) ?_; intro v4 w4 ho4 hg4; have hb4 := own_grown hb3 ho3 (Nat.le_refl _) hb3.size hg4; have z0 := cell_on x0 hb4 hws; have z1 := cell_on x1 hb4 hws; have z2 := cell_on x2 hb4 hws; have z3 := cell_on x3 hb4 hws))
    all_goals (go_wp2; go_ret; exact ⟨_, rfl, by rw [hk]; exact ho4.base_le (Nat.le_of_lt hws), below_then (below_then hal hb1) hb4⟩)
  · have hck0 : ¬ c = k := by omega
    have hkc : (k : Int) ≤ (c : Int) := by omega
    have hkn : (k : Int) ≤ (n : Int) := by omega
    go_enter Try.func65, Try.ntmps65
    go_wp2_with (go_at_call 55; refine (impl_parcelAt _ _ _ es _ _ hmax (h.on hal)).mono ?_; rintro e' w1 ⟨rfl, hb1⟩; rw [hk]; obtain ⟨x0, x1, x2, x3⟩ := box4k hb1)
    have hSl1 := (h.on hal).on hb1
    have hws : w.heap.size < w1.heap.size := by have := hb1.size; simp at this; omega
    have hback : ∀ W, Below w1.heap.size w1 W → Sl W W.heap.size 4 Q4.cells (A.map (·.add (k * 4))) (n - k) (es.drop k) := fun W hW => by
      have := (hSl1.on hW).back k c hpl hnc
      rwa [if_neg hck0] at this
    go_region_held3 (fun w' => w'.cell? ⟨w.heap.size, 0, none⟩ = some (.int .i64 p.a) ∧ w'.cell? ⟨w.heap.size, 1, none⟩ = some (.int .i64 p.b) ∧ w'.cell? ⟨w.heap.size, 2, none⟩ = some (.int .i64 p.c) ∧ w'.cell? ⟨w.heap.size, 3, none⟩ = some (.int .i64 p.d))
      (go_keep)
      (first
        | (go_at_call 62; refine (clone_front A k _ n es w1 hmax hSl1 hpl _ (by first | exact below_dr (Below.refl _ _) | exact below_al (below_dr (Below.refl _ _)) _ | exact below_dr (below_al (Below.refl _ _) _))).mono ?_; rintro e' w2 ⟨A2, n2, cc2, rfl, hO2, hb2, hbw2⟩; have z0 := cell_on x0 hbw2 hws; have z1 := cell_on x1 hbw2 hws; have z2 := cell_on x2 hbw2 hws; have z3 := cell_on x3 hbw2 hws)
        | (refine step_app (by rfl) _ _ 25 (by rfl) w1.heap.size 46 i0 _ 4 32 Try.underlying25 hi hz0 hz1 hz2 rfl (by omega) Q4.cells_len q4_one (.slice A2 n2 cc2) (es.take k) [p] (by rfl) (own_alloc hO2 _) (w2.heap.size + 1) (some ⟨w2.heap.size, 0, none⟩) 1 1 (by rfl) (sl_box4 w2 p _) (by rw [List.length_take]; omega) (by omega) (by omega) (by have := hbw2.size; simp; omega) ?_; intro v3 w3 ho3 hg3; have hb3 := own_grown (below_al hbw2 _) (own_alloc hO2 _) (Nat.le_refl _) (by have := hbw2.size; simp; omega) hg3; have z0 := cell_on x0 hb3 hws; have z1 := cell_on x1 hb3 hws; have z2 := cell_on x2 hb3 hws; have z3 := cell_on x3 hb3 hws)
        | (refine step_app (by rfl) _ _ 25 (by rfl) w1.heap.size 46 i0 _ 4 32 Try.underlying25 hi hz0 hz1 hz2 rfl (by omega) Q4.cells_len q4_one (.slice A2 n2 cc2) (es.take k) [p] (by rfl) hO2 w2.heap.size (some ⟨w1.heap.size, 0, none⟩) 1 1 (by rfl) (by first | exact (sl_box4h w1.drew p _).on hb2 | exact ((sl_box4h w1 p _).on (below_dr (Below.refl _ _))).on hb2) (by rw [List.length_take]; omega) (by omega) (by omega) (by have := hbw2.size; omega) ?_; intro v3 w3 ho3 hg3; have hb3 := own_grown hbw2 hO2 (Nat.le_refl _) hbw2.size hg3; have z0 := cell_on x0 hb3 hws; have z1 := cell_on x1 hb3 hws; have z2 := cell_on x2 hb3 hws; have z3 := cell_on x3 hb3 hws)
        | (refine step_app (by rfl) _ _ 25 (by rfl) w1.heap.size 46 i0 _ 4 32 Try.underlying25 hi hz0 hz1 hz2 rfl (by omega) Q4.cells_len q4_one v3 (es.take k ++ [p]) (es.drop k) (by rfl) ho3 w3.heap.size _ _ _ (by rfl) (hback _ hb3) (by rw [List.length_append, List.length_take]; simp; omega) (by omega) (by omega) (by have := hb3.size; omega) ?_; intro v4 w4 ho4 hg4; have hb4 := own_grown hb3 ho3 (Nat.le_refl _) hb3.size hg4; have z0 := cell_on x0 hb4 hws; have z1 := cell_on x1 hb4 hws; have z2 := cell_on x2 hb4 hws; have z3 := cell_on x3 hb4 hws))
    all_goals (go_wp2; go_ret; exact ⟨_, rfl, by rw [hk]; exact ho4.base_le (Nat.le_of_lt hws), below_then (below_then hal hb1) hb4⟩)

end Go.Proofs.Ytiibamemkmffoaa

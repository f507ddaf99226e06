/- Walks over functions of this seat, by contract. Conditions: those that each theorem states. -/
import Derived.Test.YtogjkcakoahpiaaN12
import Derived.Test.YtogjkcakoahpiaaStp
import Derived.Test.YtogjkcakoahpiaaApp
import Derived.Deep.RegionHeld3
namespace Go.Proofs.Ytogjkcakoahpiaa
open Go.RowKit Go.Sort

theorem erase_app {α : Type} (es : List α) (k : Nat) : es.take k ++ es.drop (k + 1) = es.eraseIdx k := (List.eraseIdx_eq_take_drop_succ es k).symm
theorem own_ne_base {W : World} {b E s g : Nat} {α : Type} {f : α → List Value} {v : Value} {l : List α} (h : Own W b E s f v l) (hg : g < b) : v.ownBlock = none ∨ v.ownBlock ≠ some g := by
  cases hx : v.ownBlock with
  | none => exact .inl rfl
  | some k =>
    have := (World.ownsRow.lt h k hx).1
    exact .inr (fun e => by injection e with e; omega)
theorem net_done {w w1 w3 : World} {g : Nat} {v x y a b : Value} {es fs gs : List Q3} (hb : Below w.heap.size w w1) (hg : w.heap.size ≤ g) (hg1 : g < w1.heap.size) (ho : Own w3 w1.heap.size 118 3 Q3.cells v (fs ++ gs)) (he : fs ++ gs = es)
    (h3 : Below w1.heap.size w1 w3) (u0 : w3.cell? ⟨g, 0, none⟩ = some a) (u1 : w3.cell? ⟨g, 1, none⟩ = some b) :
    ((w3.setCell ⟨g, 0, none⟩ x).cell? ⟨g, 0, none⟩ = some x ∧ ((w3.setCell ⟨g, 0, none⟩ x).setCell ⟨g, 1, none⟩ y).cell? ⟨g, 1, none⟩ = some y) ∧
      Own ((w3.setCell ⟨g, 0, none⟩ x).setCell ⟨g, 1, none⟩ y) w.heap.size 118 3 Q3.cells v es ∧ Below w.heap.size w ((w3.setCell ⟨g, 0, none⟩ x).setCell ⟨g, 1, none⟩ y) := by
  refine ⟨⟨World.cell?_setCell_same _ _ _ u0, World.cell?_setCell_same _ _ _ ((World.cell?_setCell_other w3 ⟨g, 0, none⟩ ⟨g, 1, none⟩ x (by simp)).trans u1)⟩, ?_, below_st (below_st (below_then hb h3) ⟨g, 0, none⟩ hg _) ⟨g, 1, none⟩ hg _⟩
  rw [← he]
  exact (own_st_o (own_st_o ho (own_ne_base ho hg1) _ _) (own_ne_base ho hg1) _ _).base_le hb.size
theorem impl_clone_Ditch (A : Option Addr) (n c : Nat) (es : List Q3) (w : World) (hmax : n ≤ 1048576) (h : Sl w w.heap.size 3 Q3.cells A n es) :
    Calls Try.prog 95 #[.slice A n c] w fun e w' => ∃ v, e = .returned v ∧ Own w' w.heap.size 118 3 Q3.cells v es ∧ Below w.heap.size w w' := by
  obtain ⟨i0, hi, hz0, hz1, hz2⟩ := info_parts info_Ditch
  go_enter Try.func95, Try.ntmps95
  go_wp2_with (at_builtin; refine wpList_app rfl _ _ 28 rfl w.heap.size 118 i0 _ 3 24 Try.underlying28 hi hz0 hz1 hz2 rfl (by omega) Q3.cells_len q3_one _ ([] : List Q3) es rfl (own_new_empty w w.heap.size _ 3 Q3.cells (Nat.le_refl _)) w.heap.size A n c rfl (h.below (below_al (Below.refl _ _) _)) (by simp) (by omega) (by omega) (by simp) ?_; intro v2 w2 ho2 hg2; have hb2 := own_grown (below_al (Below.refl _ _) _) (own_new_empty w w.heap.size _ 3 Q3.cells (Nat.le_refl _)) (Nat.le_refl _) (by simp) hg2)
  go_ret
  exact ⟨_, rfl, by simpa using ho2, hb2⟩
theorem clone_d (A : Option Addr) (k c n : Nat) (es : List Q3) (w : World) (hmax : n ≤ 1048576) (h : Sl w w.heap.size 3 Q3.cells A n es) (hk : k ≤ n) (W : World) (hW : Below w.heap.size w W) :
    Calls Try.prog 95 #[.slice A k c] W fun e w' => ∃ A2 n2 c2, e = .returned (.slice A2 n2 c2) ∧ Own w' w.heap.size 118 3 Q3.cells (.slice A2 n2 c2) (es.take k) ∧ Below W.heap.size W w' ∧ Below w.heap.size w w' := by
  refine (impl_clone_Ditch A k c (es.take k) W (by omega) ((h.on hW).front k hk)).mono ?_
  rintro e w' ⟨v, rfl, ho, hb⟩
  obtain ⟨A2, n2, c2, rfl, _, _⟩ := own_shape ho
  exact ⟨A2, n2, c2, rfl, ho.base_le hW.size, hb, below_then hW hb⟩
set_option maxHeartbeats 2000000 in
set_option maxRecDepth 100000 in
theorem impl_without (J : Int) (k : Nat) (A : Option Addr) (n c : Nat) (es : List Q3) (w : World) (hmax : n ≤ 1048576) (hnc : n ≤ c) (hkn : k < n) (h : Sl w w.heap.size 3 Q3.cells A n es) :
    Calls Try.prog 53 #[.agg #[.int .i64 J, .slice A n c], .int .i64 (k : Int)] w fun e w' => ∃ v, e = .returned (.agg #[.int .i64 J, v]) ∧ Own w' w.heap.size 118 3 Q3.cells v (es.eraseIdx k) ∧ Below w.heap.size w w' := by
  obtain ⟨i0, hi, hz0, hz1, hz2⟩ := info_parts info_Ditch
  have hn := h.len
  have hal := below_al (Below.refl w.heap.size w) (.cells #[.int .i64 J, .slice A n c] 30)
  obtain ⟨w1, hw1⟩ : ∃ w1, (w.alloc (.cells #[.int .i64 J, .slice A n c] 30)).alloc (.cells #[.int .i64 0, .slice none 0 0] 30) = w1 := ⟨_, rfl⟩
  have hb1 : Below w.heap.size w w1 := by rw [← hw1]; exact below_al hal _
  have hws : w.heap.size + 1 < w1.heap.size := by rw [← hw1]; simp
  have hws0 : w.heap.size < w1.heap.size := by omega
  have hx := box2k (below_al (Below.refl (w.alloc (.cells #[.int .i64 J, .slice A n c] 30)).heap.size (w.alloc (.cells #[.int .i64 J, .slice A n c] 30))) (.cells #[.int .i64 0, .slice none 0 0] 30))
  rw [hw1] at hx
  obtain ⟨x0, x1⟩ := hx
  have hy := box2s (Below.refl ((w.alloc (.cells #[.int .i64 J, .slice A n c] 30)).alloc (.cells #[.int .i64 0, .slice none 0 0] 30)).heap.size ((w.alloc (.cells #[.int .i64 J, .slice A n c] 30)).alloc (.cells #[.int .i64 0, .slice none 0 0] 30)))
  rw [hw1] at hy
  have hsz : (w.alloc (.cells #[.int .i64 J, .slice A n c] 30)).heap.size = w.heap.size + 1 := by simp
  rw [hsz] at hy
  obtain ⟨y0, y1, yf, _⟩ := hy
  have f0 := yf 0
  have f1 := yf 1
  clear yf hsz
  have hSl1 := h.on hb1
  obtain ⟨m, hm⟩ : ∃ m, k + 1 = m := ⟨_, rfl⟩
  have q0 : (0 : Int) ≤ (k : Int) := by omega
  have q1 : (k : Int) ≤ (c : Int) := by omega
  have q2 : (k : Int) ≤ (n : Int) := by omega
  have q3 : (m : Int) ≤ (n : Int) := by omega
  have q4 : (0 : Int) ≤ (m : Int) := by omega
  have q5 : IntKind.i64.wrap ((k : Int) + 1) = (m : Int) := by rw [IntKind.wrap_i64]; omega
  have q7 : (n : Int) ≤ (c : Int) := by omega
  have q8 : (m : Int) ≤ (c : Int) := by omega
  have HM := Lib.hid hm
  obtain ⟨b, off, rfl, hb, _⟩ := h.at_ (by omega)
  clear hm
  by_cases hck : c = m
  · obtain rfl : m = c := hck.symm
    have hback : ∀ W, Below w1.heap.size w1 W → Sl W W.heap.size 3 Q3.cells (some ⟨b, off, none⟩) (n - m) (es.drop m) := fun W hW => by
      have := (hSl1.on hW).back m m (by have := HM.out; omega) hnc
      rwa [if_pos rfl] at this
    have hback0 : ∀ W, Below w1.heap.size w1 W → Sl W W.heap.size 3 Q3.cells (some ⟨b, off, none⟩) 0 (es.drop m) := fun W hW => by
      have := hback W hW
      have hz : n - m = 0 := by omega
      rwa [hz] at this
    have hmn : m ≤ n := by omega
    go_enter Try.func53, Try.ntmps53
    go_wp2_with fail
    go_region_held3 (fun w' => w'.cell? ⟨w.heap.size, 0, none⟩ = some (.int .i64 J) ∧ w'.cell? ⟨w.heap.size, 1, none⟩ = some (.slice (some ⟨b, off, none⟩) n m))
      (go_keep)
      (first
        | (go_at_call 95; refine (clone_d _ k _ n es w1 hmax hSl1 (by omega) _ (by first | exact below_dr (Below.refl _ _) | exact Below.refl _ _)).mono ?_; rintro e' w2 ⟨A2, n2, cc2, rfl, hO2, hb2, hbw2⟩; have z0 := cell_on x0 hbw2 hws0; have z1 := cell_on x1 hbw2 hws0; have u0 := cell_on y0 hbw2 hws; have u1 := cell_on y1 hbw2 hws; have g0 := free_on f0 hbw2 hws; have g1 := free_on f1 hbw2 hws)
        | (refine step_app (by rfl) _ _ 28 (by rfl) w1.heap.size 118 i0 _ 3 24 Try.underlying28 hi hz0 hz1 hz2 rfl (by omega) Q3.cells_len q3_one (.slice A2 n2 cc2) (es.take k) (es.drop m) (by rfl) hO2 w2.heap.size _ _ _ (by rfl) (by first | exact hback _ hbw2 | exact hback0 _ hbw2) (by rw [List.length_take]; omega) (by omega) (by omega) (by have := hbw2.size; omega) ?_; intro v3 w3 ho3 hg3; have hb3 := own_grown hbw2 hO2 (Nat.le_refl _) hbw2.size hg3; have z0 := cell_on x0 hb3 hws0; have z1 := cell_on x1 hb3 hws0; have u0 := cell_on y0 hb3 hws; have u1 := cell_on y1 hb3 hws; have g0 := free_on f0 hb3 hws; have g1 := free_on f1 hb3 hws; obtain ⟨A3, n3, c3, rfl, _, _⟩ := own_shape ho3))
    all_goals (go_wp2_with fail; have hd := net_done (x := .int .i64 J) (y := .slice A3 n3 c3) (es := es.eraseIdx k) hb1 (Nat.le_succ _) hws ho3 (by rw [← HM.out]; exact erase_app es k) hb3 u0 u1; obtain ⟨⟨d0, d1⟩, d2, d3⟩ := hd; exact bodyPost_ret (v := .agg #[.int .i64 J, .slice A3 n3 c3]) (by simp [results, Try.results53, go_sem, d0, d1]) rfl ⟨_, rfl, d2, d3⟩)
  · have hback : ∀ W, Below w1.heap.size w1 W → Sl W W.heap.size 3 Q3.cells (some ⟨b, off + m * 3, none⟩) (n - m) (es.drop m) := fun W hW => by
      have := (hSl1.on hW).back m c (by have := HM.out; omega) hnc
      rw [if_neg hck] at this
      simp only [Option.map, Addr.add] at this
      rwa [if_neg (by have := HM.out; omega)] at this
    have h1 := HM.out
    have hmn : m ≤ n := by omega
    clear h1
    go_enter Try.func53, Try.ntmps53
    go_wp2_with fail
    go_region_held3 (fun w' => w'.cell? ⟨w.heap.size, 0, none⟩ = some (.int .i64 J) ∧ w'.cell? ⟨w.heap.size, 1, none⟩ = some (.slice (some ⟨b, off, none⟩) n c))
      (go_keep)
      (first
        | (go_at_call 95; refine (clone_d _ k _ n es w1 hmax hSl1 (by omega) _ (by first | exact below_dr (Below.refl _ _) | exact Below.refl _ _)).mono ?_; rintro e' w2 ⟨A2, n2, cc2, rfl, hO2, hb2, hbw2⟩; have z0 := cell_on x0 hbw2 hws0; have z1 := cell_on x1 hbw2 hws0; have u0 := cell_on y0 hbw2 hws; have u1 := cell_on y1 hbw2 hws; have g0 := free_on f0 hbw2 hws; have g1 := free_on f1 hbw2 hws)
        | (refine step_app (by rfl) _ _ 28 (by rfl) w1.heap.size 118 i0 _ 3 24 Try.underlying28 hi hz0 hz1 hz2 rfl (by omega) Q3.cells_len q3_one (.slice A2 n2 cc2) (es.take k) (es.drop m) (by rfl) hO2 w2.heap.size _ _ _ (by rfl) (hback _ hbw2) (by rw [List.length_take]; omega) (by omega) (by omega) (by have := hbw2.size; omega) ?_; intro v3 w3 ho3 hg3; have hb3 := own_grown hbw2 hO2 (Nat.le_refl _) hbw2.size hg3; have z0 := cell_on x0 hb3 hws0; have z1 := cell_on x1 hb3 hws0; have u0 := cell_on y0 hb3 hws; have u1 := cell_on y1 hb3 hws; have g0 := free_on f0 hb3 hws; have g1 := free_on f1 hb3 hws; obtain ⟨A3, n3, c3, rfl, _, _⟩ := own_shape ho3))
    all_goals (go_wp2_with fail; have hd := net_done (x := .int .i64 J) (y := .slice A3 n3 c3) (es := es.eraseIdx k) hb1 (Nat.le_succ _) hws ho3 (by rw [← HM.out]; exact erase_app es k) hb3 u0 u1; obtain ⟨⟨d0, d1⟩, d2, d3⟩ := hd; exact bodyPost_ret (v := .agg #[.int .i64 J, .slice A3 n3 c3]) (by simp [results, Try.results53, go_sem, d0, d1]) rfl ⟨_, rfl, d2, d3⟩)
set_option maxHeartbeats 2000000 in
set_option maxRecDepth 100000 in
theorem spec_l04Without (J : Int) (k : Nat) (A : Option Addr) (n c : Nat) (es : List Q3) (p : Nat) (w : World) (hmax : n ≤ 1048576) (hnc : n ≤ c) (hkn : k < n) (h : Sl w w.heap.size 3 Q3.cells A n es) (hp : p < w.heap.size)
    (c0 : w.cell? ⟨p, 0, none⟩ = some (.int .i64 J)) (c1 : w.cell? ⟨p, 1, none⟩ = some (.slice A n c)) :
    Calls Try.prog 52 #[.pointer (some ⟨p, 0, none⟩), .int .i64 (k : Int)] w fun e w' => ∃ v, e = .returned (.agg #[.int .i64 J, v]) ∧ Own w' w.heap.size 118 3 Q3.cells v (es.eraseIdx k) ∧ Below w.heap.size w w' := by
  obtain ⟨i0, hi, hz0, hz1, hz2⟩ := info_parts info_Ditch
  have hn := h.len
  have hal := below_al (Below.refl w.heap.size w) (.cells #[.int .i64 0, .slice none 0 0] 30)
  have hal2 := below_al hal (.cells #[] 118)
  have hon := own_new_empty (w.alloc (.cells #[.int .i64 0, .slice none 0 0] 30)) (w.alloc (.cells #[.int .i64 0, .slice none 0 0] 30)).heap.size 118 3 Q3.cells (Nat.le_refl _)
  have hy := box2s (Below.refl (w.alloc (.cells #[.int .i64 0, .slice none 0 0] 30)).heap.size (w.alloc (.cells #[.int .i64 0, .slice none 0 0] 30)))
  obtain ⟨y0, y1, yf, hws⟩ := hy
  have f0 := yf 0
  have f1 := yf 1
  clear yf
  have x0 := cell_on c0 hal hp
  have x1 := cell_on c1 hal hp
  have hpl : p < (w.alloc (.cells #[.int .i64 0, .slice none 0 0] 30)).heap.size := by simp; omega
  have hSl1 := h.on hal
  have hpn : ¬ p = w.heap.size := by omega
  have hpn' : ¬ w.heap.size = p := by omega
  obtain ⟨w1, hw1⟩ : ∃ w1, w.alloc (.cells #[.int .i64 0, .slice none 0 0] 30) = w1 := ⟨_, rfl⟩
  rw [hw1] at hal hal2 hon y0 y1 hws f0 f1 x0 x1 hSl1 hpl
  obtain ⟨m, hm⟩ : ∃ m, k + 1 = m := ⟨_, rfl⟩
  have q0 : (0 : Int) ≤ (k : Int) := by omega
  have q1 : (k : Int) ≤ (c : Int) := by omega
  have q2 : (k : Int) ≤ (n : Int) := by omega
  have q3 : (m : Int) ≤ (n : Int) := by omega
  have q4 : (0 : Int) ≤ (m : Int) := by omega
  have q5 : IntKind.i64.wrap ((k : Int) + 1) = (m : Int) := by rw [IntKind.wrap_i64]; omega
  have q7 : (n : Int) ≤ (c : Int) := by omega
  have q8 : (m : Int) ≤ (c : Int) := by omega
  have HM := Lib.hid hm
  obtain ⟨b, off, rfl, hb, _⟩ := h.at_ (by omega)
  clear hm
  by_cases hck : c = m
  · have q9 : (n : Int) ≤ (m : Int) := by omega
    have q10 : (k : Int) ≤ (m : Int) := by omega
    have hback : ∀ W, Below w1.heap.size w1 W → Sl W W.heap.size 3 Q3.cells (some ⟨b, off, none⟩) (n - m) (es.drop m) := fun W hW => by
      have := (hSl1.on hW).back m c (by have := HM.out; omega) hnc
      rwa [if_pos hck] at this
    have h1 := HM.out
    have hmn : m ≤ n := by omega
    clear h1
    go_enter Try.func52, Try.ntmps52
    go_wp2_with (at_builtin; refine wpList_app rfl _ _ 28 rfl w1.heap.size 118 i0 _ 3 24 Try.underlying28 hi hz0 hz1 hz2 rfl (by omega) Q3.cells_len q3_one _ ([] : List Q3) (es.take k) rfl hon w1.heap.size _ _ _ rfl ((hSl1.front k (by omega)).below (below_al (Below.refl _ _) _)) (by simp) (by omega) (by omega) (by simp) ?_; intro v2 w2 ho2 hg2; have hb2 := own_grown (below_al (Below.refl w1.heap.size w1) (.cells #[] 118)) hon (Nat.le_refl _) (by simp) hg2)
    rw [List.nil_append] at ho2
    obtain ⟨A2, n2, cc2, rfl, _, _⟩ := own_shape ho2
    have z0 := cell_on x0 hb2 hpl
    have z1 := cell_on x1 hb2 hpl
    have u0 := cell_on y0 hb2 hws
    have u1 := cell_on y1 hb2 hws
    have g0 := free_on f0 hb2 hws
    have g1 := free_on f1 hb2 hws
    go_region_held3 (fun w' => w'.cell? ⟨p, 0, none⟩ = some (.int .i64 J) ∧ w'.cell? ⟨p, 1, none⟩ = some (.slice (some ⟨b, off, none⟩) n c))
      (go_keep)
      (first
        | (refine step_app (by rfl) _ _ 28 (by rfl) w1.heap.size 118 i0 _ 3 24 Try.underlying28 hi hz0 hz1 hz2 rfl (by omega) Q3.cells_len q3_one (.slice A2 n2 cc2) (es.take k) (es.drop m) (by rfl) (ho2.below (below_dr (Below.refl w2.heap.size w2)) (Nat.le_refl _)) w2.heap.size _ _ _ (by rfl) (hback _ (below_dr hb2)) (by rw [List.length_take]; omega) (by omega) (by omega) (below_dr hb2).size ?_; intro v3 w3 ho3 hg3; have hb3 := own_grown (below_dr hb2) (ho2.below (below_dr (Below.refl w2.heap.size w2)) (Nat.le_refl _)) (Nat.le_refl _) (below_dr hb2).size hg3; have z0 := cell_on x0 hb3 hpl; have z1 := cell_on x1 hb3 hpl; have u0 := cell_on y0 hb3 hws; have u1 := cell_on y1 hb3 hws; have g0 := free_on f0 hb3 hws; have g1 := free_on f1 hb3 hws; obtain ⟨A3, n3, c3, rfl, _, _⟩ := own_shape ho3))
    all_goals (go_wp2_with fail; have hd := net_done (x := .int .i64 J) (y := .slice A3 n3 c3) (es := es.eraseIdx k) hal (Nat.le_refl _) hws ho3 (by rw [← HM.out]; exact erase_app es k) hb3 u0 u1; obtain ⟨⟨d0, d1⟩, d2, d3⟩ := hd; exact bodyPost_ret (v := .agg #[.int .i64 J, .slice A3 n3 c3]) (by simp [results, Try.results52, go_sem, d0, d1]) rfl ⟨_, rfl, d2, d3⟩)
  · have hback : ∀ W, Below w1.heap.size w1 W → Sl W W.heap.size 3 Q3.cells (some ⟨b, off + m * 3, none⟩) (n - m) (es.drop m) := fun W hW => by
      have := (hSl1.on hW).back m c (by have := HM.out; omega) hnc
      rw [if_neg hck] at this
      simp only [Option.map, Addr.add] at this
      rwa [if_neg (by have := HM.out; omega)] at this
    have h1 := HM.out
    have hmn : m ≤ n := by omega
    clear h1
    go_enter Try.func52, Try.ntmps52
    go_wp2_with (at_builtin; refine wpList_app rfl _ _ 28 rfl w1.heap.size 118 i0 _ 3 24 Try.underlying28 hi hz0 hz1 hz2 rfl (by omega) Q3.cells_len q3_one _ ([] : List Q3) (es.take k) rfl hon w1.heap.size _ _ _ rfl ((hSl1.front k (by omega)).below (below_al (Below.refl _ _) _)) (by simp) (by omega) (by omega) (by simp) ?_; intro v2 w2 ho2 hg2; have hb2 := own_grown (below_al (Below.refl w1.heap.size w1) (.cells #[] 118)) hon (Nat.le_refl _) (by simp) hg2)
    rw [List.nil_append] at ho2
    obtain ⟨A2, n2, cc2, rfl, _, _⟩ := own_shape ho2
    have z0 := cell_on x0 hb2 hpl
    have z1 := cell_on x1 hb2 hpl
    have u0 := cell_on y0 hb2 hws
    have u1 := cell_on y1 hb2 hws
    have g0 := free_on f0 hb2 hws
    have g1 := free_on f1 hb2 hws
    go_region_held3 (fun w' => w'.cell? ⟨p, 0, none⟩ = some (.int .i64 J) ∧ w'.cell? ⟨p, 1, none⟩ = some (.slice (some ⟨b, off, none⟩) n c))
      (go_keep)
      (first
        | (refine step_app (by rfl) _ _ 28 (by rfl) w1.heap.size 118 i0 _ 3 24 Try.underlying28 hi hz0 hz1 hz2 rfl (by omega) Q3.cells_len q3_one (.slice A2 n2 cc2) (es.take k) (es.drop m) (by rfl) (ho2.below (below_dr (Below.refl w2.heap.size w2)) (Nat.le_refl _)) w2.heap.size _ _ _ (by rfl) (hback _ (below_dr hb2)) (by rw [List.length_take]; omega) (by omega) (by omega) (below_dr hb2).size ?_; intro v3 w3 ho3 hg3; have hb3 := own_grown (below_dr hb2) (ho2.below (below_dr (Below.refl w2.heap.size w2)) (Nat.le_refl _)) (Nat.le_refl _) (below_dr hb2).size hg3; have z0 := cell_on x0 hb3 hpl; have z1 := cell_on x1 hb3 hpl; have u0 := cell_on y0 hb3 hws; have u1 := cell_on y1 hb3 hws; have g0 := free_on f0 hb3 hws; have g1 := free_on f1 hb3 hws; obtain ⟨A3, n3, c3, rfl, _, _⟩ := own_shape ho3))
    all_goals (go_wp2_with fail; have hd := net_done (x := .int .i64 J) (y := .slice A3 n3 c3) (es := es.eraseIdx k) hal (Nat.le_refl _) hws ho3 (by rw [← HM.out]; exact erase_app es k) hb3 u0 u1; obtain ⟨⟨d0, d1⟩, d2, d3⟩ := hd; exact bodyPost_ret (v := .agg #[.int .i64 J, .slice A3 n3 c3]) (by simp [results, Try.results52, go_sem, d0, d1]) rfl ⟨_, rfl, d2, d3⟩)

end Go.Proofs.Ytogjkcakoahpiaa

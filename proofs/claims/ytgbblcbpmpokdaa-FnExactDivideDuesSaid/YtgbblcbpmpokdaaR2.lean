/- Walks over functions of this seat, by contract. Conditions: those that each theorem states. -/
import Derived.Test.YtgbblcbpmpokdaaR1
import Derived.Test.YtgbblcbpmpokdaaS5
import Derived.IntWalk
import Derived.BigQuiet
import Derived.Deep.QuietTactic
namespace Go.Proofs.Ytgbblcbpmpokdaa
open Go.RowKit Go.Sort

set_option maxHeartbeats 1000000 in
set_option maxRecDepth 100000 in
theorem impl_byMetre_1 (s : Int) (hs : s = 1 ∨ s = -1) (i j : Nat) (g0 g1 g2 : Nat) (A : Option Addr) (n c : Nat) (es : List Q4) (gb n2 c2 : Nat) (G : Nat → Nat) (W : World) (hi : i < n2) (hj : j < n2) (hmax : n ≤ 1048576) (_hmax2 : n2 ≤ 1048576) (hok : defectsOk es = true)
    (x0 : W.cell? ⟨g0, 0, none⟩ = some (.int .i64 s)) (x1 : W.cell? ⟨g1, 0, none⟩ = some (.slice A n c)) (x2 : W.cell? ⟨g2, 0, none⟩ = some (.slice (some ⟨gb, 0, none⟩) n2 c2))
    (hc : ∀ t, t < n2 → W.cell? ⟨gb, t, none⟩ = some (.int .i64 (G t : Nat))) (hG : ∀ t, t < n2 → G t < n) {B : Nat} (h : Sl W B 4 Q4.cells A n es) :
    Calls Try.prog 80 #[.int .i64 i, .int .i64 j, .pointer (some ⟨g0, 0, none⟩), .pointer (some ⟨g1, 0, none⟩), .pointer (some ⟨g2, 0, none⟩)] W fun e w' => e = .returned (.bool (decide (mK es s (G i : Nat) < mK es s (G j : Nat)))) ∧ ∃ q, w' = W.drewN q := by
  have hGi := hG i hi
  have hGj := hG j hj
  have ci := hc i hi
  have cj := hc j hj
  clear hc hG
  generalize G i = p at ci hGi
  generalize G j = q at cj hGj
  obtain ⟨b, off, rfl, hb, H⟩ := h.at_ (by omega)
  obtain ⟨e, he⟩ := h.get hGi
  obtain ⟨e', he'⟩ := h.get hGj
  obtain ⟨c0, _, _, _⟩ := H.q4 he
  obtain ⟨d0, _, _, _⟩ := H.q4 he'
  obtain ⟨m1, m2⟩ := metreOf_bd hok (p : Int)
  obtain ⟨m3, m4⟩ := metreOf_bd hok (q : Int)
  rw [metreOf_at he] at m1 m2
  rw [metreOf_at he'] at m3 m4
  have hp0 : (0 : Int) ≤ (p : Int) := by omega
  have hq0 : (0 : Int) ≤ (q : Int) := by omega
  have hpn : (p : Int) < (n : Int) := by omega
  have hqn : (q : Int) < (n : Int) := by omega
  have hi0 : (0 : Int) ≤ (i : Int) := by omega
  have hj0 : (0 : Int) ≤ (j : Int) := by omega
  have hin : (i : Int) < (n2 : Int) := by omega
  have hjn : (j : Int) < (n2 : Int) := by omega
  rcases hs with rfl | rfl
  · rw [mK_pos, mK_pos, metreOf_at he, metreOf_at he']
    have hw1 : IntKind.i64.wrap (1 * e.a) = e.a := by rw [Int.one_mul]; exact IntWalk.i64_in _ (by omega)
    have hw2 : IntKind.i64.wrap (1 * e'.a) = e'.a := by rw [Int.one_mul]; exact IntWalk.i64_in _ (by omega)
    clear he he' h H hGi hGj hi hj
    go_enter Try.func80, Try.ntmps80
    go_wp2_with fail
    go_quiet (fail)
    go_wp2_with fail
    go_ret
    exact ⟨rfl, nq, rfl⟩
  · rw [mK_neg, mK_neg, metreOf_at he, metreOf_at he']
    have hw1 : IntKind.i64.wrap (-1 * e.a) = -e.a := by rw [show -1 * e.a = -e.a from by omega]; exact IntWalk.i64_in _ (by omega)
    have hw2 : IntKind.i64.wrap (-1 * e'.a) = -e'.a := by rw [show -1 * e'.a = -e'.a from by omega]; exact IntWalk.i64_in _ (by omega)
    clear he he' h H hGi hGj hi hj
    go_enter Try.func80, Try.ntmps80
    go_wp2_with fail
    go_quiet (fail)
    go_wp2_with fail
    go_ret
    exact ⟨ret_bool (by simp), nq, rfl⟩
theorem to_fin_n {n : Nat} {xs : List Int} (h : inDef n xs) : ∃ (N : Nat) (_ : Inhabited (Fin N)) (d : Array (Fin N)), d.toList.map fI = xs ∧ (0 < d.size → N = n) := by
  rcases Nat.eq_zero_or_pos n with h0 | h0
  · have hx : xs = [] := by
      cases xs with
      | nil => rfl
      | cons x xs => have := h x (by simp); omega
    subst hx
    exact ⟨1, ⟨⟨0, by omega⟩⟩, #[], rfl, fun h => absurd h (by simp)⟩
  · obtain ⟨d, hd⟩ := to_fin xs h
    exact ⟨n, ⟨⟨0, h0⟩⟩, d, hd, fun _ => rfl⟩
set_option maxHeartbeats 1000000 in
set_option maxRecDepth 100000 in
theorem impl_byMetre (s : Int) (hs : s = 1 ∨ s = -1) (A : Option Addr) (n c : Nat) (es : List Q4) (A2 : Option Addr) (n2 c2 : Nat) (xs : List Int) (w : World) (hmax : n ≤ 1048576) (hmax2 : n2 ≤ 1048576) (hok : defectsOk es = true) (hin : inDef n xs) (hord : xs.Pairwise (· < ·)) (h : Sl w w.heap.size 4 Q4.cells A n es) (h2 : Sl w w.heap.size 1 icell A2 n2 xs) :
    Calls Try.prog 47 #[.slice A n c, .slice A2 n2 c2, .int .i64 s] w fun e w' => ∃ v, e = .returned v ∧ Own w' w.heap.size 2 1 icell v (sortI (mK es s) xs) ∧ Below w.heap.size w w' := by
  obtain ⟨N, iN, d, hd, hdn⟩ := to_fin_n hin
  have hds : d.size = n2 := by have := congrArg List.length hd; rw [List.length_map, Array.length_toList, h2.len] at this; exact this
  have hcall : ∀ args W, (callFunc 80 args).run Try.prog W = .ok (.enter 80 args) W := fun _ _ => by kernel_rfl
  obtain ⟨w0, hw0⟩ : ∃ w0, (w.alloc (.cells #[.slice A n c] 38)).alloc (.cells #[.int .i64 s] 2) = w0 := ⟨_, rfl⟩
  have hb0 := Below.refl w0.heap.size w0
  rw [← hw0] at hb0
  obtain ⟨x0, x1, hs1, hbel⟩ := boxes2 hb0
  rw [hw0] at x0 x1 hs1 hbel
  clear hb0
  have HW0 := Lib.hid hw0
  have Hs := Lib.hid hs
  have Hd := Lib.hid hd
  have Hord := Lib.hid hord
  clear hs hd hord hin
  go_enter Try.func47, Try.ntmps47
  go_wp2_with fail
  clear hw0
  refine (impl_clone_int64 A2 n2 c2 xs w0 hmax2 (h2.on hbel)).mono ?_
  rintro e w1 ⟨v, rfl, ho1, hb1⟩
  obtain ⟨A3, n3, k3, rfl, _, _⟩ := own_shape ho1
  obtain ⟨W2, hW2⟩ : ∃ W2, w1.alloc (.cells #[.slice A3 n3 k3] 23) = W2 := ⟨_, rfl⟩
  have hal := below_al (Below.refl w1.heap.size w1) (.cells #[.slice A3 n3 k3] 23)
  have o0 : (w1.alloc (.cells #[.slice A3 n3 k3] 23)).cell? ⟨w1.heap.size, 0, none⟩ = some (.slice A3 n3 k3) := by
    rw [cell_of_row _ _ _ _ _ (0, 0) (heap_alloc_new w1 _)]; rfl
  have hsz2 : W2.heap.size = w1.heap.size + 1 := by rw [← hW2]; simp
  have HW2 := Lib.hid hW2
  rw [hW2] at hal o0
  have hb2 := hal
  have ho2 : Own W2 w0.heap.size 2 1 icell (.slice A3 n3 k3) xs := by rw [← HW2.out]; exact own_alloc ho1 _
  have hw1 := hb1.size
  have hbw1 := below_then hb1 hal
  have y0 := cell_on x0 hbw1 (by omega)
  have y1 := cell_on x1 hbw1 hs1
  have hS := h.below (below_then hbel hbw1)
  have HWs := Lib.hid hsz2
  clear hsz2
  go_wp2_with fail
  rw [← Hd.out] at ho2
  have hst := stable_any64 (mK es s) 80 #[.pointer (some ⟨w.heap.size + 1, 0, none⟩), .pointer (some ⟨w.heap.size, 0, none⟩), .pointer (some ⟨w1.heap.size, 0, none⟩)] hcall w0.heap.size (.slice A3 n3 k3) d W2 ho2 (by rw [Hd.out]; exact Hord.out) (by omega) (by have := HWs.out; omega) (fun gb c3 hv hbg hg hH => by
    have hg1 : gb < w1.heap.size := (World.ownsRow.lt ho1 gb (by rw [hv]; rfl)).2
    have hsz := HWs.out
    injection hv with e1 e2 e3
    subst e1 e2 e3
    refine lessReads_of hH rfl hg (fun W dk hk hcell hrow i j hi hj => ?_)
    exact impl_byMetre_1 s Hs.out i j (w.heap.size + 1) w.heap.size w1.heap.size A n c es gb d.size _ (fun t => (dk[t]!).val) W hi hj hmax (by omega) hok
      ((hcell ⟨_, _, _⟩ (by show w.heap.size + 1 ≠ gb; omega) (by show w.heap.size + 1 < W2.heap.size; omega)).trans y1)
      ((hcell ⟨_, _, _⟩ (by show w.heap.size ≠ gb; omega) (by show w.heap.size < W2.heap.size; omega)).trans y0)
      ((hcell ⟨_, _, _⟩ (by show w1.heap.size ≠ gb; omega) (by show w1.heap.size < W2.heap.size; omega)).trans o0)
      hrow (fun t ht => by have := hdn (by omega); have := (dk[t]!).isLt; omega)
      (hS.keep fun p hp => hcell p (by omega) (by omega)))
  refine hst.mono ?_
  rintro e w3 ⟨rfl, ho3, hb3, hg3⟩
  have z0 : w3.cell? ⟨w1.heap.size, 0, none⟩ = some (.slice A3 n3 k3) := (grown_cell hg3 (by show w1.heap.size < W2.heap.size; have := HWs.out; omega) (by
    intro hv
    have := (World.ownsRow.lt ho1 _ hv).2
    exact absurd this (Nat.lt_irrefl _))).trans o0
  rw [Hd.out] at ho3
  clear o0 hW2 hst
  go_wp2_with fail
  go_ret
  exact ⟨_, rfl, ho3.base_le hbel.size, (below_then hbel hbw1).trans (hb3.mono hbel.size)⟩

end Go.Proofs.Ytgbblcbpmpokdaa

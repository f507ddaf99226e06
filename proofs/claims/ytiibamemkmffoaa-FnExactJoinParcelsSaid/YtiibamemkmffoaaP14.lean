/- Walks over functions of this seat, by contract. Conditions: those that each theorem states. -/
import Derived.Test.YtiibamemkmffoaaP13
import Derived.Deep.RegionLaw
namespace Go.Proofs.Ytiibamemkmffoaa
open Go.RowKit Go.Sort

def joinAt (es : List Q4) (i k : Nat) : Int := match es[i]?, es[k]? with | some x, some y => if i = k then 6 else if ¬ x.b = y.b then 6 else if ¬ x.d = y.d then 6 else if 10000000 < x.c + y.c then 5 else 0 | _, _ => 3
def joinCode (es : List Q4) (id other : Int) : Int :=
  if parcelsOk es = false then 1 else if (idOk id && idOk other) = false then 2 else
  if fnd es id < es.length ∧ fnd es other < es.length then joinAt es (fnd es id) (fnd es other) else 3
def joinList (es : List Q4) (i : Nat) (x y : Q4) : List Q4 := es.set i ⟨x.a, x.b, x.c + y.c, x.d⟩
def joinOut (es : List Q4) (id other : Int) : List Q4 :=
  if joinCode es id other = 0 then (match es[fnd es id]?, es[fnd es other]? with | some x, some y => (joinList es (fnd es id) x y).eraseIdx (fnd es other) | _, _ => []) else []
theorem joinOut_neg {es : List Q4} {id other : Int} (h : joinCode es id other ≠ 0) : joinOut es id other = [] := if_neg h
theorem joinOut_pos {es : List Q4} {id other : Int} {i k : Nat} {x y : Q4} (h : joinCode es id other = 0) (hi : fnd es id = i) (hk : fnd es other = k) (hx : es[i]? = some x) (hy : es[k]? = some y) : joinOut es id other = (joinList es i x y).eraseIdx k := by
  rw [joinOut, if_pos h, hi, hk, hx, hy]
theorem joinCode_at {es : List Q4} {id other : Int} {i k : Nat} {x y : Q4} (g1 : parcelsOk es = true) (g2 : idOk id = true) (g4 : idOk other = true) (k2 : fnd es id < es.length) (k4 : fnd es other < es.length) (hi : fnd es id = i) (hk : fnd es other = k) (hx : es[i]? = some x) (hy : es[k]? = some y) :
    joinCode es id other = if i = k then 6 else if ¬ x.b = y.b then 6 else if ¬ x.d = y.d then 6 else if 10000000 < x.c + y.c then 5 else 0 := by
  unfold joinCode
  rw [if_neg (by simp [g1]), if_neg (by simp [g2, g4]), if_pos ⟨k2, k4⟩, hi, hk, joinAt, hx, hy]
theorem joinCode_none {es : List Q4} {id other : Int} (g1 : parcelsOk es = true) (g2 : idOk id = true) (g4 : idOk other = true) (h : ¬ (fnd es id < es.length ∧ fnd es other < es.length)) : joinCode es id other = 3 := by
  unfold joinCode
  rw [if_neg (by simp [g1]), if_neg (by simp [g2, g4]), if_neg h]
theorem joinOut_len (es : List Q4) (id other : Int) : (joinOut es id other).length ≤ es.length := by
  unfold joinOut
  split
  · split
    · exact Nat.le_trans (List.length_eraseIdx_le _ _) (by simp [joinList])
    · simp
  · simp
theorem erase_succ {xs : List Q4} {i k : Nat} {e : Q4} (he : xs[i]? = some e) : (xs.take (i + 1)).eraseIdx k = if i = k then (xs.take i).eraseIdx k else (xs.take i).eraseIdx k ++ [e] := by
  obtain ⟨hi, hx⟩ := List.getElem?_eq_some_iff.1 he
  have hl : (xs.take i).length = i := by rw [List.length_take]; omega
  rw [List.take_succ_eq_append_getElem hi, hx]
  by_cases h : i = k
  · subst h
    rw [if_pos rfl, List.eraseIdx_append_of_length_le (Nat.le_of_eq hl), hl, Nat.sub_self, List.eraseIdx_of_length_le (Nat.le_of_eq hl)]
    simp
  · rw [if_neg h]
    rcases Nat.lt_or_ge k i with h1 | h1
    · rw [List.eraseIdx_append_of_lt_length (by rw [hl]; exact h1)]
    · have h2 : (List.take i xs ++ [e]).length ≤ k := by rw [List.length_append, hl]; simp; omega
      rw [List.eraseIdx_of_length_le h2, List.eraseIdx_of_length_le (by rw [hl]; exact h1)]
theorem own_front {w : World} {base E sz g n c k : Nat} {α : Type} {f : α → List Value} {es : List α} (hf : ∀ e, (f e).length = sz) (h : Own w base E sz f (.slice (some ⟨g, 0, none⟩) n c) es) (hl : es.length = n) (hk : k ≤ n) :
    Own w base E sz f (.slice (some ⟨g, 0, none⟩) k c) (es.take k) := by
  have hlk : (es.take k).length = k := by rw [List.length_take]; omega
  refine ⟨by rw [flat_len hf], ?_⟩
  rcases h.2 with ⟨h1, _⟩ | ⟨g', cap, cur, h1, hb, hh, hc, hm, hs, ht⟩
  · cases h1
  · injection h1 with h1 h2 h3
    injection h1 with h1
    injection h1 with h1 _ _
    subst h1; subst h3
    refine .inr ⟨g, c, cur, by rw [hlk], hb, hh, by omega, hm, hs, ?_⟩
    have e1 : es.flatMap f = (es.take k).flatMap f ++ (es.drop k).flatMap f := by rw [← List.flatMap_append, List.take_append_drop]
    have e2 : (List.take (es.length * sz) cur.toList).take (k * sz) = (es.take k).flatMap f := by
      rw [ht, e1, List.take_append_of_le_length (by rw [flat_len hf, hlk]; omega), List.take_of_length_le (by rw [flat_len hf, hlk]; omega)]
    rw [hlk, ← e2, List.take_take, Nat.min_eq_left (Nat.mul_le_mul_right _ (by omega))]
set_option maxHeartbeats 1000000 in
theorem impl_JoinParcels (A : Option Addr) (n c : Nat) (es : List Q4) (id other : Int) (w : World) (hmax : n ≤ 1048576) (h : Sl w w.heap.size 4 Q4.cells A n es) :
    Calls Try.prog 42 #[.slice A n c, .int .i64 id, .int .i64 other] w fun e w' => ∃ v, e = .returned (.tuple #[v, .int .i64 (joinCode es id other)]) ∧ Own w' w.heap.size 46 4 Q4.cells v (joinOut es id other) ∧ Below w.heap.size w w' := by
  obtain ⟨i0, hi, hz0, hz1, hz2⟩ := info_parts info_Parcel
  have hal := below_al (Below.refl w.heap.size w) (.cells #[.int .i64 id, .int .i64 other] 2)
  have hsl := h.on hal
  have hids := sl_box2 w id other 2
  rcases Bool.eq_false_or_eq_true (parcelsOk es) with g1 | g1
  · have hr := parcels_rise g1
    rcases Bool.eq_false_or_eq_true (idOk id) with g2 | g2
    · rcases Bool.eq_false_or_eq_true (idOk other) with g4 | g4
      · have k0 : idsCode es [id, other] = 0 := by rw [idsCode_two]; simp [g1, g2, g4]
        have ht0 := @thr_fnd es
        by_cases k2 : fnd es id < es.length
        · by_cases k4 : fnd es other < es.length
          · obtain ⟨x, hx0, _⟩ := fi_get k2
            obtain ⟨i, hi_⟩ : ∃ i, fnd es id = i := ⟨_, rfl⟩
            have hx : es[i]? = some x := by rw [← hi_]; exact hx0
            have hin : i < n := by rw [← h.len, ← hi_]; exact k2
            obtain ⟨y, hy0, _⟩ := fi_get k4
            obtain ⟨k, hk⟩ : ∃ k, fnd es other = k := ⟨_, rfl⟩
            have hy : es[k]? = some y := by rw [← hk]; exact hy0
            have hkn : k < n := by rw [← h.len, ← hk]; exact k4
            obtain ⟨b, off, rfl, hb, H⟩ := h.at_ (by omega)
            have ht : thr es id = true := by rw [ht0 hr]; simp [k2]
            have ht2 : thr es other = true := by rw [ht0 hr]; simp [k4]
            have hp : pat es id = i := by rw [← hi_]; exact pat_fnd hr k2
            have hp2 : pat es other = k := by rw [← hk]; exact pat_fnd hr k4
            have hca := joinCode_at g1 g2 g4 k2 k4 hi_ hk hx hy
            obtain ⟨_, _, ⟨a1, a2⟩, _⟩ := parcelOk_iff.1 ((parcels_all g1).2 x (List.mem_of_getElem? hx))
            obtain ⟨_, _, ⟨a3, a4⟩, _⟩ := parcelOk_iff.1 ((parcels_all g1).2 y (List.mem_of_getElem? hy))
            have Hx := Lib.hid hx
            have Hy := Lib.hid hy
            have Hi := Lib.hid hi_
            have Hk := Lib.hid hk
            have Hca := Lib.hid hca
            clear hx0 hy0 hx hy hi_ hk hca k2 k4 hr ht0
            by_cases e1 : i = k
            · have e1' : ((i : Int) == (k : Int)) = true := by rw [e1]; simp
              have hc : joinCode es id other = 6 := by rw [Hca.out, if_pos e1]
              rw [hc, joinOut_neg (by omega)]
              clear hc
              go_enter Try.func42, Try.ntmps42
              go_wp2_with (first
                | (go_at_call 51; refine (impl_parcelsCode _ _ _ es _ _ _ [id, other] _ hmax (by omega) hsl hids).mono ?_; rintro e' w1 ⟨rfl, hb1⟩; rw [k0]; have hbb := below_then hal hb1)
                | (go_at_call 55; refine (impl_parcelAt _ _ _ es _ _ hmax (h.on hbb)).mono ?_; rintro e' w2 ⟨rfl, hb2⟩; (first | rw [ht, hp] | rw [ht2, hp2]); have hbb := below_then hbb hb2))
              obtain ⟨c0, c1, c2, c3⟩ := (H.below hbb hb).q4c (Nat.lt_of_lt_of_le hb hbb.size) Hx.out
              obtain ⟨d0, d1, d2, d3⟩ := (H.below hbb hb).q4c (Nat.lt_of_lt_of_le hb hbb.size) Hy.out
              refine wp_region_quiet_below (by kernel_rfl) (by kernel_rfl) ?_
              repeat (go_big_quiet_step (fail))
              refine wpQuiet_nil ?_
              intro wq hwq
              have hbb := below_then hbb (below_of_class hwq)
              clear hwq c0 c1 c2 c3 d0 d1 d2 d3
              go_wp2
              go_ret2
              exact ⟨_, rfl, own_new_empty _ _ _ _ _ hbb.size, below_al hbb _⟩
            · have e1' : ((i : Int) == (k : Int)) = false := by simp; omega
              by_cases e2 : x.b = y.b
              · have e2' : (x.b != y.b) = false := by simpa using e2
                by_cases e3 : x.d = y.d
                · have e3' : (x.d != y.d) = false := by simpa using e3
                  by_cases e4 : 10000000 < x.c + y.c
                  · have hc : joinCode es id other = 5 := by rw [Hca.out, if_neg e1, if_neg (by simpa using e2), if_neg (by simpa using e3), if_pos e4]
                    rw [hc, joinOut_neg (by omega)]
                    clear hc
                    go_enter Try.func42, Try.ntmps42
                    go_wp2_with (first
                      | (go_at_call 51; refine (impl_parcelsCode _ _ _ es _ _ _ [id, other] _ hmax (by omega) hsl hids).mono ?_; rintro e' w1 ⟨rfl, hb1⟩; rw [k0]; have hbb := below_then hal hb1)
                      | (go_at_call 55; refine (impl_parcelAt _ _ _ es _ _ hmax (h.on hbb)).mono ?_; rintro e' w2 ⟨rfl, hb2⟩; (first | rw [ht, hp] | rw [ht2, hp2]); have hbb := below_then hbb hb2))
                    obtain ⟨c0, c1, c2, c3⟩ := (H.below hbb hb).q4c (Nat.lt_of_lt_of_le hb hbb.size) Hx.out
                    obtain ⟨d0, d1, d2, d3⟩ := (H.below hbb hb).q4c (Nat.lt_of_lt_of_le hb hbb.size) Hy.out
                    refine wp_region_quiet_below (by kernel_rfl) (by kernel_rfl) ?_
                    repeat (go_big_quiet_step (fail))
                    refine wpQuiet_nil ?_
                    intro wq hwq
                    have hbb := below_then hbb (below_of_class hwq)
                    clear hwq c0 c1 c2 c3 d0 d1 d2 d3
                    go_wp2
                    obtain ⟨c0, c1, c2, c3⟩ := (H.below hbb hb).q4c (Nat.lt_of_lt_of_le hb hbb.size) Hx.out
                    obtain ⟨d0, d1, d2, d3⟩ := (H.below hbb hb).q4c (Nat.lt_of_lt_of_le hb hbb.size) Hy.out
                    refine wp_region_quiet_below (by kernel_rfl) (by kernel_rfl) ?_
                    repeat (go_big_quiet_step (fail))
                    refine wpQuiet_nil ?_
                    intro wq hwq
                    have hbb := below_then hbb (below_of_class hwq)
                    clear hwq c0 c1 c2 c3 d0 d1 d2 d3
                    go_wp2
                    go_ret2
                    exact ⟨_, rfl, own_new_empty _ _ _ _ _ hbb.size, below_al hbb _⟩
                  · have hc : joinCode es id other = 0 := by rw [Hca.out, if_neg e1, if_neg (by simpa using e2), if_neg (by simpa using e3), if_neg e4]
                    rw [hc, joinOut_pos hc Hi.out Hk.out Hx.out Hy.out]
                    have e4' : x.c + y.c ≤ 10000000 := by omega
                    have Hlen := Lib.hid h.len
                    clear hc e2 e3 e4
                    go_enter Try.func42, Try.ntmps42
                    go_wp2_with (first
                      | (go_at_call 51; refine (impl_parcelsCode _ _ _ es _ _ _ [id, other] _ hmax (by omega) hsl hids).mono ?_; rintro e' w1 ⟨rfl, hb1⟩; rw [k0]; have hbb := below_then hal hb1)
                      | (go_at_call 55; refine (impl_parcelAt _ _ _ es _ _ hmax (h.on hbb)).mono ?_; rintro e' w2 ⟨rfl, hb2⟩; (first | rw [ht, hp] | rw [ht2, hp2]); have hbb := below_then hbb hb2))
                    obtain ⟨c0, c1, c2, c3⟩ := (H.below hbb hb).q4c (Nat.lt_of_lt_of_le hb hbb.size) Hx.out
                    obtain ⟨d0, d1, d2, d3⟩ := (H.below hbb hb).q4c (Nat.lt_of_lt_of_le hb hbb.size) Hy.out
                    refine wp_region_quiet_below (by kernel_rfl) (by kernel_rfl) ?_
                    repeat (go_big_quiet_step (fail))
                    refine wpQuiet_nil ?_
                    intro wq hwq
                    have hbb := below_then hbb (below_of_class hwq)
                    clear hwq c0 c1 c2 c3 d0 d1 d2 d3
                    go_wp2
                    obtain ⟨c0, c1, c2, c3⟩ := (H.below hbb hb).q4c (Nat.lt_of_lt_of_le hb hbb.size) Hx.out
                    obtain ⟨d0, d1, d2, d3⟩ := (H.below hbb hb).q4c (Nat.lt_of_lt_of_le hb hbb.size) Hy.out
                    refine wp_region_quiet_below (by kernel_rfl) (by kernel_rfl) ?_
                    repeat (go_big_quiet_step (fail))
                    refine wpQuiet_nil ?_
                    intro wq hwq
                    have hbb := below_then hbb (below_of_class hwq)
                    clear hwq c0 c1 c2 c3 d0 d1 d2 d3
                    go_wp2_with (go_at_call 62; refine (impl_clone_Parcel _ _ _ es _ hmax (h.on hbb)).mono ?_; rintro e' w3 ⟨v3, rfl, ho3, hb3⟩; have hbb0 := hbb; have hbb := below_then hbb hb3)
                    obtain ⟨g3, cc3, rfl, hg3, hg4, hfr⟩ := own_block_of ho3 Hlen.out (by omega)
                    have hne : b ≠ g3 := by have := hg3; have := hbb0.size; omega
                    have hcc : n ≤ cc3 := by obtain ⟨A', n', c', he', _, h3⟩ := own_shape ho3; injection he' with _ e2 e3; omega
                    obtain ⟨y0, y1, y2, y3⟩ := (own_has ho3 Q4.cells_len).q4 Hx.out
                    simp only [Nat.zero_add] at y0 y1 y2 y3
                    obtain ⟨d0, d1, d2, d3⟩ := (H.below hbb hb).q4 Hy.out
                    have hf2 := hfr (i * 4 + 2)
                    go_region
                    go_wp2_with fail
                    have hst := Own.store (j := 2) (u := .int .i64 (x.c + y.c)) (e' := ⟨x.a, x.b, x.c + y.c, x.d⟩) Q4.cells_len ho3 Hx.out (by omega) rfl
                    have hbs := below_dr (below_st hbb ⟨g3, i * 4 + 2, none⟩ (by have := hg3; have := hbb0.size; show _ ≤ g3; omega) (.int .i64 (x.c + y.c)))
                    have hown := Own.below hst (below_dr (Below.refl _ _)) (Nat.le_refl _)
                    obtain ⟨ws, hws⟩ : ∃ ws, (w3.setCell ⟨g3, i * 4 + 2, none⟩ (.int .i64 (x.c + y.c))).drew = ws := ⟨_, rfl⟩
                    rw [hws] at hown hbs
                    rw [hws]
                    have hls : (es.set i (⟨x.a, x.b, x.c + y.c, x.d⟩ : Q4)).length = n := by rw [List.length_set]; exact Hlen.out
                    have hfront := own_front Q4.cells_len hown hls (Nat.le_of_lt hkn)
                    have hrest := (own_sl hown Q4.cells_len).back (k + 1) cc3 (by omega) hcc
                    have hn1 : (k : Int) + 1 ≤ n := by omega
                    have hn2 : (0 : Int) ≤ (k : Int) + 1 := by omega
                    have hn3 : (n : Int) ≤ cc3 := by omega
                    have hn4 : (k : Int) ≤ cc3 := by omega
                    have hn5 : ((k : Int) + 1).toNat = k + 1 := by omega
                    have hn6 : IntKind.i64.wrap ((k : Int) + 1) = (k : Int) + 1 := IntWalk.i64_in _ (by omega)
                    have Hls := Lib.hid hls
                    have hbase : w.heap.size ≤ g3 := Nat.le_trans hbb0.size hg3
                    clear hws d0 d1 d2 d3 y0 y1 y2 y3 hst hls hfr hf2
                    by_cases hck : cc3 = k + 1
                    · rw [if_pos hck] at hrest
                      have hn7 : (k : Int) ≤ (k : Int) + 1 := by omega
                      have hn8 : (k : Int) ≤ ((k + 1 : Nat) : Int) := by omega
                      have hn9 : (n : Int) ≤ (k : Int) + 1 := by omega
                      go_region_law ((refine step_app rfl (.tmp 105) (.tmp 109) 25 rfl w.heap.size 46 i0 _ 4 32 Try.underlying25 hi hz0 hz1 hz2 rfl (by omega) Q4.cells_len q4_one (.slice (some ⟨g3, 0, none⟩) k cc3) ((es.set i ⟨x.a, x.b, x.c + y.c, x.d⟩).take k) ((es.set i ⟨x.a, x.b, x.c + y.c, x.d⟩).drop (k + 1)) (by simp [Act.eval, Act.put, hck]) ((hfront.base_le hbb0.size).below (below_dr (Below.refl _ _)) (Nat.le_refl _)) ws.drew.heap.size (some ⟨g3, 0, none⟩) (n - (k + 1)) (cc3 - (k + 1)) (by simp [Act.eval, Act.put, hck]) (hrest.on (below_dr (Below.refl _ _))) (by rw [List.length_take]; omega) (by omega) (by omega) (by simpa using hbs.size) ?_; intro v4 w4 ho4 hg4))
                      have hb4 := own_grown (below_dr hbs) ((hfront.base_le hbb0.size).below (below_dr (Below.refl _ _)) (Nat.le_refl _)) (Nat.le_refl _) (by simpa using hbs.size) hg4
                      go_wp2
                      go_ret2
                      exact ⟨_, rfl, by rw [joinList, List.eraseIdx_eq_take_drop_succ]; exact ho4, hb4⟩
                    · rw [if_neg hck] at hrest
                      replace hrest : Sl ws ws.heap.size 4 Q4.cells (some ⟨g3, (k + 1) * 4, none⟩) (n - (k + 1)) ((es.set i (⟨x.a, x.b, x.c + y.c, x.d⟩ : Q4)).drop (k + 1)) := by simpa [Addr.add] using hrest
                      go_region_law ((refine step_app rfl (.tmp 105) (.tmp 109) 25 rfl w.heap.size 46 i0 _ 4 32 Try.underlying25 hi hz0 hz1 hz2 rfl (by omega) Q4.cells_len q4_one (.slice (some ⟨g3, 0, none⟩) k cc3) ((es.set i ⟨x.a, x.b, x.c + y.c, x.d⟩).take k) ((es.set i ⟨x.a, x.b, x.c + y.c, x.d⟩).drop (k + 1)) (by simp [Act.eval, Act.put]) ((hfront.base_le hbb0.size).below (below_dr (Below.refl _ _)) (Nat.le_refl _)) ws.drew.heap.size (some ⟨g3, (k + 1) * 4, none⟩) (n - (k + 1)) (cc3 - (k + 1)) (by simp [Act.eval, Act.put]) (hrest.on (below_dr (Below.refl _ _))) (by rw [List.length_take]; omega) (by omega) (by omega) (by simpa using hbs.size) ?_; intro v4 w4 ho4 hg4))
                      have hb4 := own_grown (below_dr hbs) ((hfront.base_le hbb0.size).below (below_dr (Below.refl _ _)) (Nat.le_refl _)) (Nat.le_refl _) (by simpa using hbs.size) hg4
                      go_wp2
                      go_ret2
                      exact ⟨_, rfl, by rw [joinList, List.eraseIdx_eq_take_drop_succ]; exact ho4, hb4⟩
                · have e3' : (x.d != y.d) = true := by simpa using e3
                  have hc : joinCode es id other = 6 := by rw [Hca.out, if_neg e1, if_neg (by simpa using e2), if_pos e3]
                  rw [hc, joinOut_neg (by omega)]
                  clear hc
                  go_enter Try.func42, Try.ntmps42
                  go_wp2_with (first
                    | (go_at_call 51; refine (impl_parcelsCode _ _ _ es _ _ _ [id, other] _ hmax (by omega) hsl hids).mono ?_; rintro e' w1 ⟨rfl, hb1⟩; rw [k0]; have hbb := below_then hal hb1)
                    | (go_at_call 55; refine (impl_parcelAt _ _ _ es _ _ hmax (h.on hbb)).mono ?_; rintro e' w2 ⟨rfl, hb2⟩; (first | rw [ht, hp] | rw [ht2, hp2]); have hbb := below_then hbb hb2))
                  obtain ⟨c0, c1, c2, c3⟩ := (H.below hbb hb).q4c (Nat.lt_of_lt_of_le hb hbb.size) Hx.out
                  obtain ⟨d0, d1, d2, d3⟩ := (H.below hbb hb).q4c (Nat.lt_of_lt_of_le hb hbb.size) Hy.out
                  refine wp_region_quiet_below (by kernel_rfl) (by kernel_rfl) ?_
                  repeat (go_big_quiet_step (fail))
                  refine wpQuiet_nil ?_
                  intro wq hwq
                  have hbb := below_then hbb (below_of_class hwq)
                  clear hwq c0 c1 c2 c3 d0 d1 d2 d3
                  go_wp2
                  go_ret2
                  exact ⟨_, rfl, own_new_empty _ _ _ _ _ hbb.size, below_al hbb _⟩
              · have e2' : (x.b != y.b) = true := by simpa using e2
                have hc : joinCode es id other = 6 := by rw [Hca.out, if_neg e1, if_pos e2]
                rw [hc, joinOut_neg (by omega)]
                clear hc
                go_enter Try.func42, Try.ntmps42
                go_wp2_with (first
                  | (go_at_call 51; refine (impl_parcelsCode _ _ _ es _ _ _ [id, other] _ hmax (by omega) hsl hids).mono ?_; rintro e' w1 ⟨rfl, hb1⟩; rw [k0]; have hbb := below_then hal hb1)
                  | (go_at_call 55; refine (impl_parcelAt _ _ _ es _ _ hmax (h.on hbb)).mono ?_; rintro e' w2 ⟨rfl, hb2⟩; (first | rw [ht, hp] | rw [ht2, hp2]); have hbb := below_then hbb hb2))
                obtain ⟨c0, c1, c2, c3⟩ := (H.below hbb hb).q4c (Nat.lt_of_lt_of_le hb hbb.size) Hx.out
                obtain ⟨d0, d1, d2, d3⟩ := (H.below hbb hb).q4c (Nat.lt_of_lt_of_le hb hbb.size) Hy.out
                refine wp_region_quiet_below (by kernel_rfl) (by kernel_rfl) ?_
                repeat (go_big_quiet_step (fail))
                refine wpQuiet_nil ?_
                intro wq hwq
                have hbb := below_then hbb (below_of_class hwq)
                clear hwq c0 c1 c2 c3 d0 d1 d2 d3
                go_wp2
                go_ret2
                exact ⟨_, rfl, own_new_empty _ _ _ _ _ hbb.size, below_al hbb _⟩
          · have ht : thr es id = true := by rw [ht0 hr]; simp [k2]
            have ht2 : thr es other = false := by rw [ht0 hr]; simp [k4]
            have hc : joinCode es id other = 3 := by exact joinCode_none g1 g2 g4 (by omega)
            rw [hc, joinOut_neg (by omega)]
            clear hc
            go_enter Try.func42, Try.ntmps42
            go_wp2_with (first
              | (go_at_call 51; refine (impl_parcelsCode _ _ _ es _ _ _ [id, other] _ hmax (by omega) hsl hids).mono ?_; rintro e' w1 ⟨rfl, hb1⟩; rw [k0]; have hbb := below_then hal hb1)
              | (go_at_call 55; refine (impl_parcelAt _ _ _ es _ _ hmax (h.on hbb)).mono ?_; rintro e' w2 ⟨rfl, hb2⟩; (first | rw [ht] | rw [ht2]); have hbb := below_then hbb hb2))
            go_ret2
            exact ⟨_, rfl, own_new_empty _ _ _ _ _ hbb.size, below_al hbb _⟩
        · have ht : thr es id = false := by rw [ht0 hr]; simp [k2]
          obtain ⟨tt, ht2⟩ : ∃ tt, thr es other = tt := ⟨_, rfl⟩
          have hc : joinCode es id other = 3 := by exact joinCode_none g1 g2 g4 (by omega)
          rw [hc, joinOut_neg (by omega)]
          clear hc
          go_enter Try.func42, Try.ntmps42
          go_wp2_with (first
            | (go_at_call 51; refine (impl_parcelsCode _ _ _ es _ _ _ [id, other] _ hmax (by omega) hsl hids).mono ?_; rintro e' w1 ⟨rfl, hb1⟩; rw [k0]; have hbb := below_then hal hb1)
            | (go_at_call 55; refine (impl_parcelAt _ _ _ es _ _ hmax (h.on hbb)).mono ?_; rintro e' w2 ⟨rfl, hb2⟩; (first | rw [ht] | rw [ht2]); have hbb := below_then hbb hb2))
          go_ret2
          exact ⟨_, rfl, own_new_empty _ _ _ _ _ hbb.size, below_al hbb _⟩
      · have k0 : idsCode es [id, other] = 2 := by rw [idsCode_two]; simp [g1, g2, g4]
        have hc : joinCode es id other = 2 := by simp [joinCode, g1, g2, g4]
        rw [hc, joinOut_neg (by omega)]
        clear hc
        go_enter Try.func42, Try.ntmps42
        go_wp2_with (first
          | (go_at_call 51; refine (impl_parcelsCode _ _ _ es _ _ _ [id, other] _ hmax (by omega) hsl hids).mono ?_; rintro e' w1 ⟨rfl, hb1⟩; rw [k0]; have hbb := below_then hal hb1)
          | (go_at_call 55; refine (impl_parcelAt _ _ _ es _ _ hmax (h.on hbb)).mono ?_; rintro e' w2 ⟨rfl, hb2⟩; (first | rw [ht] | rw [ht2]); have hbb := below_then hbb hb2))
        go_ret2
        exact ⟨_, rfl, own_new_empty _ _ _ _ _ hbb.size, below_al hbb _⟩
    · have k0 : idsCode es [id, other] = 2 := by rw [idsCode_two]; simp [g1, g2]
      have hc : joinCode es id other = 2 := by simp [joinCode, g1, g2]
      rw [hc, joinOut_neg (by omega)]
      clear hc
      go_enter Try.func42, Try.ntmps42
      go_wp2_with (first
        | (go_at_call 51; refine (impl_parcelsCode _ _ _ es _ _ _ [id, other] _ hmax (by omega) hsl hids).mono ?_; rintro e' w1 ⟨rfl, hb1⟩; rw [k0]; have hbb := below_then hal hb1)
        | (go_at_call 55; refine (impl_parcelAt _ _ _ es _ _ hmax (h.on hbb)).mono ?_; rintro e' w2 ⟨rfl, hb2⟩; (first | rw [ht] | rw [ht2]); have hbb := below_then hbb hb2))
      go_ret2
      exact ⟨_, rfl, own_new_empty _ _ _ _ _ hbb.size, below_al hbb _⟩
  · have k0 : idsCode es [id, other] = 1 := by rw [idsCode_two]; simp [g1]
    have hc : joinCode es id other = 1 := by simp [joinCode, g1]
    rw [hc, joinOut_neg (by omega)]
    clear hc
    go_enter Try.func42, Try.ntmps42
    go_wp2_with (first
      | (go_at_call 51; refine (impl_parcelsCode _ _ _ es _ _ _ [id, other] _ hmax (by omega) hsl hids).mono ?_; rintro e' w1 ⟨rfl, hb1⟩; rw [k0]; have hbb := below_then hal hb1)
      | (go_at_call 55; refine (impl_parcelAt _ _ _ es _ _ hmax (h.on hbb)).mono ?_; rintro e' w2 ⟨rfl, hb2⟩; (first | rw [ht] | rw [ht2]); have hbb := below_then hbb hb2))
    go_ret2
    exact ⟨_, rfl, own_new_empty _ _ _ _ _ hbb.size, below_al hbb _⟩

end Go.Proofs.Ytiibamemkmffoaa

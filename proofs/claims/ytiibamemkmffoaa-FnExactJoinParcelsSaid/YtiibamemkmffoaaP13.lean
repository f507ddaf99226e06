/- Walks over functions of this seat, by contract. Conditions: those that each theorem states. -/
import Derived.Test.YtiibamemkmffoaaP12
import Derived.Test.YtiibamemkmffoaaStp
namespace Go.Proofs.Ytiibamemkmffoaa
open Go.RowKit Go.Sort

theorem idsCode_two {es : List Q4} {a b : Int} : idsCode es [a, b] = if parcelsOk es = false then 1 else if (idOk a && idOk b) = false then 2 else 0 := by
  simp [idsCode]
theorem sl_box2 (w : World) (x y : Int) (E : Nat) : Sl (w.alloc (.cells #[.int .i64 x, .int .i64 y] E)) (w.alloc (.cells #[.int .i64 x, .int .i64 y] E)).heap.size 1 icell (some ⟨w.heap.size, 0, none⟩) 2 [x, y] :=
  ⟨rfl, fun _ => ⟨_, _, rfl, by simp, fun k e he j v hv => by
    have hj : j < (icell e).length := (List.getElem?_eq_some_iff.1 hv).1
    have hj0 : j = 0 := by simpa [icell] using hj
    subst hj0
    have hk : k < [x, y].length := (List.getElem?_eq_some_iff.1 he).1
    have hk2 : k = 0 ∨ k = 1 := by simp at hk; omega
    rcases hk2 with rfl | rfl
    · simp at he; subst he
      simp [icell] at hv; subst hv
      rw [cell_of_row _ _ _ _ _ (0, 0) (heap_alloc_new w _)]; rfl
    · simp at he; subst he
      simp [icell] at hv; subst hv
      rw [cell_of_row _ _ _ _ _ (0, 0) (heap_alloc_new w _)]; rfl⟩⟩
def splitCode (es : List Q4) (id area other : Int) : Int :=
  if parcelsOk es = false then 1 else if (idOk id && idOk other && inR area 1 10000000) = false then 2 else
  if ¬ fnd es id < es.length then 3 else if fnd es other < es.length then 4 else
  if (es[fnd es id]?).any (fun q => decide (q.c ≤ area)) = true then 6 else if es.length < 60 then 0 else 5
def lessArea (es : List Q4) (k : Nat) (e : Q4) (area : Int) : List Q4 := es.set k ⟨e.a, e.b, e.c - area, e.d⟩
def splitOut (es : List Q4) (id area other : Int) : List Q4 :=
  if splitCode es id area other = 0 then (match es[fnd es id]? with | some e => putAt (lessArea es (fnd es id) e area) (pat es other) ⟨other, e.b, area, e.d⟩ | none => []) else []
theorem splitCode_at {es : List Q4} {id area other : Int} {e : Q4} (g1 : parcelsOk es = true) (g2 : idOk id = true) (g4 : idOk other = true) (k3 : inR area 1 10000000 = true) (k2 : fnd es id < es.length) (k4 : ¬ fnd es other < es.length) (he : es[fnd es id]? = some e) :
    splitCode es id area other = if e.c ≤ area then 6 else if es.length < 60 then 0 else 5 := by
  unfold splitCode
  rw [if_neg (by simp [g1]), if_neg (by simp [g2, g4, k3]), if_neg (by simpa using k2), if_neg k4, he]
  simp
theorem splitOut_neg {es : List Q4} {id area other : Int} (h : splitCode es id area other ≠ 0) : splitOut es id area other = [] := if_neg h
theorem splitOut_pos {es : List Q4} {id area other : Int} {k : Nat} {e : Q4} (h : splitCode es id area other = 0) (hk : fnd es id = k) (he : es[k]? = some e) : splitOut es id area other = putAt (lessArea es k e area) (pat es other) ⟨other, e.b, area, e.d⟩ := by
  rw [splitOut, if_pos h, hk, he]
theorem findIdx_congr_ {p : Q4 → Bool} : ∀ {xs ys : List Q4}, xs.length = ys.length → (∀ (j : Nat) x y, xs[j]? = some x → ys[j]? = some y → p x = p y) → xs.findIdx p = ys.findIdx p
  | [], [], _, _ => rfl
  | [], _ :: _, h, _ => by simp at h
  | _ :: _, [], h, _ => by simp at h
  | x :: xs, y :: ys, h, hp => by
    have h0 := hp 0 x y rfl rfl
    have h1 := findIdx_congr_ (p := p) (xs := xs) (ys := ys) (by simpa using h) (fun j a b ha hb => hp (j + 1) a b (by simpa using ha) (by simpa using hb))
    rw [List.findIdx_cons, List.findIdx_cons, h0, h1]
theorem set_ids {es : List Q4} {k : Nat} {e e' : Q4} (he : es[k]? = some e) (ha : e'.a = e.a) (j : Nat) (x y : Q4) (hx : (es.set k e')[j]? = some x) (hy : es[j]? = some y) : x.a = y.a := by
  rw [List.getElem?_set] at hx
  split at hx
  · rename_i hk
    subst hk
    split at hx
    · injection hx with hx
      rw [he] at hy; injection hy with hy
      rw [← hx, ← hy, ha]
    · cases hx
  · rw [hy] at hx; injection hx with hx; rw [hx]
theorem lessArea_len (es : List Q4) (k : Nat) (e : Q4) (area : Int) : (lessArea es k e area).length = es.length := by simp [lessArea]
theorem lessArea_pat {es : List Q4} {k : Nat} {e : Q4} (he : es[k]? = some e) (area id : Int) : pat (lessArea es k e area) id = pat es id :=
  findIdx_congr_ (lessArea_len _ _ _ _) fun j x y hx hy => by simp only [idGe]; rw [set_ids (e' := ⟨e.a, e.b, e.c - area, e.d⟩) he rfl j x y hx hy]
theorem lessArea_fnd {es : List Q4} {k : Nat} {e : Q4} (he : es[k]? = some e) (area id : Int) : fnd (lessArea es k e area) id = fnd es id :=
  findIdx_congr_ (lessArea_len _ _ _ _) fun j x y hx hy => by simp only [idIs]; rw [set_ids (e' := ⟨e.a, e.b, e.c - area, e.d⟩) he rfl j x y hx hy]
theorem lessArea_rise {es : List Q4} (h : rising es) {k : Nat} {e : Q4} (he : es[k]? = some e) (area : Int) : rising (lessArea es k e area) := fun i j x y hij hx hy => by
  have hl := lessArea_len es k e area
  have hi : i < es.length := by have := (List.getElem?_eq_some_iff.1 hx).1; omega
  have hj : j < es.length := by have := (List.getElem?_eq_some_iff.1 hy).1; omega
  have e1 := set_ids (e' := ⟨e.a, e.b, e.c - area, e.d⟩) he rfl i x _ hx (List.getElem?_eq_getElem hi)
  have e2 := set_ids (e' := ⟨e.a, e.b, e.c - area, e.d⟩) he rfl j y _ hy (List.getElem?_eq_getElem hj)
  have := h i j _ _ hij (List.getElem?_eq_getElem hi) (List.getElem?_eq_getElem hj)
  omega
theorem splitOut_len (es : List Q4) (id area other : Int) : (splitOut es id area other).length ≤ 60 := by
  by_cases h : splitCode es id area other = 0
  · have h60 : es.length < 60 := by
      rcases Nat.lt_or_ge es.length 60 with h1 | h1
      · exact h1
      · exfalso; revert h; unfold splitCode; repeat' split
        all_goals omega
    rw [splitOut, if_pos h]
    split
    · rw [putAt_len _ _ _ (by rw [lessArea_len]; exact pat_le _ _), lessArea_len]; omega
    · simp
  · rw [splitOut_neg h]; simp
set_option maxHeartbeats 1000000 in
theorem impl_SplitParcel (A : Option Addr) (n c : Nat) (es : List Q4) (id area other : Int) (w : World) (hmax : n ≤ 1048576) (h : Sl w w.heap.size 4 Q4.cells A n es) :
    Calls Try.prog 44 #[.slice A n c, .int .i64 id, .int .i64 area, .int .i64 other] w fun e w' => ∃ v, e = .returned (.tuple #[v, .int .i64 (splitCode es id area other)]) ∧ Own w' w.heap.size 46 4 Q4.cells v (splitOut es id area other) ∧ Below w.heap.size w w' := by
  have hal := below_al (Below.refl w.heap.size w) (.cells #[.int .i64 id, .int .i64 other] 2)
  have hsl := h.on hal
  have hids := sl_box2 w id other 2
  rcases Bool.eq_false_or_eq_true (parcelsOk es) with g1 | g1
  · have hr := parcels_rise g1
    rcases Bool.eq_false_or_eq_true (idOk id) with g2 | g2
    · rcases Bool.eq_false_or_eq_true (idOk other) with g4 | g4
      · have k0 : idsCode es [id, other] = 0 := by rw [idsCode_two]; simp [g1, g2, g4]
        have ht0 := @thr_fnd es
        by_cases k2 : fnd es id < es.length
        · obtain ⟨e, he0, _⟩ := fi_get k2
          obtain ⟨k, hk⟩ : ∃ k, fnd es id = k := ⟨_, rfl⟩
          have he : es[k]? = some e := by rw [← hk]; exact he0
          have he1 : es[fnd es id]? = some e := he0
          have hkn : k < n := by rw [← h.len, ← hk]; exact k2
          obtain ⟨b, off, rfl, hb, H⟩ := h.at_ (by omega)
          have ht : thr es id = true := by rw [ht0 hr]; simp [k2]
          have hp : pat es id = k := by rw [← hk]; exact pat_fnd hr k2
          rcases Bool.eq_false_or_eq_true (inR area 1 10000000) with k3 | k3
          · by_cases k4 : fnd es other < es.length
            · have ht2 : thr es other = true := by rw [ht0 hr]; simp [k4]
              have hc : splitCode es id area other = 4 := by simp [splitCode, g1, g2, g4, k3, k2, k4]
              rw [hc, splitOut_neg (by omega)]
              clear hc
              go_enter Try.func44, Try.ntmps44
              go_wp2_with (first
                | (go_at_call 51; refine (impl_parcelsCode _ _ _ es _ _ _ [id, other] _ hmax (by omega) hsl hids).mono ?_; rintro e' w1 ⟨rfl, hb1⟩; rw [k0]; have hbb := below_then hal hb1)
                | (go_at_call 55; refine (impl_parcelAt _ _ _ es _ _ hmax (h.on hbb)).mono ?_; rintro e' w2 ⟨rfl, hb2⟩; (first | rw [ht, hp] | rw [ht2]); have hbb := below_then hbb hb2; obtain ⟨c0, c1, c2, c3⟩ := (H.below hbb hb).q4 he)
                | (go_at_call 67; refine (impl_isParcelArea _ _).mono ?_; rintro e' w' ⟨rfl, rfl⟩; rw [k3])
                | (go_at_call 62; refine (impl_clone_Parcel _ _ _ es _ hmax (h.on hbb)).mono ?_; rintro e' w3 ⟨v3, rfl, ho3, hb3⟩; have hbb0 := hbb; have hbb := below_then hbb hb3; obtain ⟨g3, cc3, rfl, hg3, hg4, hfr⟩ := own_block_of ho3 h.len (by omega); obtain ⟨y0, y1, y2, y3⟩ := (own_has ho3 Q4.cells_len).q4 he; simp only [Nat.zero_add] at y0 y1 y2 y3; obtain ⟨c0, c1, c2, c3⟩ := (H.below hbb hb).q4 he))
              go_ret2
              exact ⟨_, rfl, own_new_empty _ _ _ _ _ hbb.size, below_al hbb _⟩
            · have ht2 : thr es other = false := by rw [ht0 hr]; simp [k4]
              rcases Bool.eq_false_or_eq_true (decide (e.c ≤ area)) with k5 | k5
              · have k5' : e.c ≤ area := by simpa using k5
                have hc : splitCode es id area other = 6 := by rw [splitCode_at g1 g2 g4 k3 k2 k4 he1, if_pos k5']
                rw [hc, splitOut_neg (by omega)]
                clear hc
                go_enter Try.func44, Try.ntmps44
                go_wp2_with (first
                  | (go_at_call 51; refine (impl_parcelsCode _ _ _ es _ _ _ [id, other] _ hmax (by omega) hsl hids).mono ?_; rintro e' w1 ⟨rfl, hb1⟩; rw [k0]; have hbb := below_then hal hb1)
                  | (go_at_call 55; refine (impl_parcelAt _ _ _ es _ _ hmax (h.on hbb)).mono ?_; rintro e' w2 ⟨rfl, hb2⟩; (first | rw [ht, hp] | rw [ht2]); have hbb := below_then hbb hb2; obtain ⟨c0, c1, c2, c3⟩ := (H.below hbb hb).q4 he)
                  | (go_at_call 67; refine (impl_isParcelArea _ _).mono ?_; rintro e' w' ⟨rfl, rfl⟩; rw [k3])
                  | (go_at_call 62; refine (impl_clone_Parcel _ _ _ es _ hmax (h.on hbb)).mono ?_; rintro e' w3 ⟨v3, rfl, ho3, hb3⟩; have hbb0 := hbb; have hbb := below_then hbb hb3; obtain ⟨g3, cc3, rfl, hg3, hg4, hfr⟩ := own_block_of ho3 h.len (by omega); obtain ⟨y0, y1, y2, y3⟩ := (own_has ho3 Q4.cells_len).q4 he; simp only [Nat.zero_add] at y0 y1 y2 y3; obtain ⟨c0, c1, c2, c3⟩ := (H.below hbb hb).q4 he))
                go_ret2
                exact ⟨_, rfl, own_new_empty _ _ _ _ _ hbb.size, below_al hbb _⟩
              · by_cases k6 : es.length < 60
                · have h60 : n < 60 := by rw [← h.len]; exact k6
                  have hn60 : ((n : Int) == 60) = false := by simp; omega
                  have hn60' : (n : Int) < 60 := by omega
                  have hc : splitCode es id area other = 0 := by rw [splitCode_at g1 g2 g4 k3 k2 k4 he1, if_neg (by simpa using k5), if_pos k6]
                  rw [hc, splitOut_pos hc hk he]
                  have He := Lib.hid he
                  have Hk := Lib.hid hk
                  have k5' : area < e.c := by simpa using k5
                  obtain ⟨_, _, ⟨a1, a2⟩, _⟩ := parcelOk_iff.1 ((parcels_all g1).2 e (List.mem_of_getElem? he))
                  obtain ⟨a3, a4⟩ := inR_iff.1 k3
                  clear hc he1 he0 k2 k4 k6 hk hr g1 g2 g4 ht0
                  go_enter Try.func44, Try.ntmps44
                  go_wp2_with (first
                    | (go_at_call 51; refine (impl_parcelsCode _ _ _ es _ _ _ [id, other] _ hmax (by omega) hsl hids).mono ?_; rintro e' w1 ⟨rfl, hb1⟩; rw [k0]; have hbb := below_then hal hb1)
                    | (go_at_call 55; refine (impl_parcelAt _ _ _ es _ _ hmax (h.on hbb)).mono ?_; rintro e' w2 ⟨rfl, hb2⟩; (first | rw [ht, hp] | rw [ht2]); have hbb := below_then hbb hb2; obtain ⟨c0, c1, c2, c3⟩ := (H.below hbb hb).q4 he)
                    | (go_at_call 67; refine (impl_isParcelArea _ _).mono ?_; rintro e' w' ⟨rfl, rfl⟩; rw [k3])
                    | (go_at_call 62; refine (impl_clone_Parcel _ _ _ es _ hmax (h.on hbb)).mono ?_; rintro e' w3 ⟨v3, rfl, ho3, hb3⟩; have hbb0 := hbb; have hbb := below_then hbb hb3; obtain ⟨g3, cc3, rfl, hg3, hg4, hfr⟩ := own_block_of ho3 h.len (by omega); obtain ⟨y0, y1, y2, y3⟩ := (own_has ho3 Q4.cells_len).q4 he; simp only [Nat.zero_add] at y0 y1 y2 y3; obtain ⟨c0, c1, c2, c3⟩ := (H.below hbb hb).q4 he))
                  have hne : b ≠ g3 := by have := hg3; have := hbb0.size; omega
                  have hb3s := below_st hbb ⟨g3, k * 4 + 2, none⟩ (by have := hg3; have := hbb0.size; show _ ≤ g3; omega) (.int .i64 (e.c - area))
                  have hst := Own.store (j := 2) (u := .int .i64 (e.c - area)) (e' := ⟨e.a, e.b, e.c - area, e.d⟩) Q4.cells_len ho3 He.out (by omega) rfl
                  have hncc : n ≤ cc3 := by obtain ⟨A', n', c', he', _, h3⟩ := own_shape ho3; injection he' with _ e2 e3; omega
                  obtain ⟨ws, hws⟩ : ∃ ws, w3.setCell ⟨g3, k * 4 + 2, none⟩ (.int .i64 (e.c - area)) = ws := ⟨_, rfl⟩
                  rw [hws] at hst hb3s
                  rw [hws]
                  have hsl3 := own_sl hst Q4.cells_len
                  obtain ⟨x0, x1, x2, x3⟩ := (H.below hb3s hb).q4 He.out
                  have hbs : b < ws.heap.size := Nat.lt_of_lt_of_le hb hb3s.size
                  clear hws c0 c1 c2 c3 y0 y1 y2 y3 ho3 hb3
                  go_region_held3 (fun w' => w'.cell? ⟨b, off + k * 4 + 1, none⟩ = some (.int .i64 e.b) ∧ w'.cell? ⟨b, off + k * 4 + 3, none⟩ = some (.int .i64 e.d)) (go_keep)
                    ((go_at_call 65; refine (impl_withParcel _ _ _ (lessArea es k e area) ⟨other, e.b, area, e.d⟩ _ hmax hncc (hsl3.on (below_dr (Below.refl _ _)))).mono ?_; rintro e' w4 ⟨v4, rfl, ho4, hb4⟩; have hb4 := below_then (below_dr (Below.refl _ ws)) hb4; have z1 := cell_on x1 hb4 hbs; have z3 := cell_on x3 hb4 hbs))
                  go_wp2
                  go_ret2
                  rw [lessArea_pat He.out] at ho4
                  exact ⟨_, rfl, ho4.base_le (by simpa using hb3s.size), below_then hb3s hb4⟩
                · have k5' : area < e.c := by simpa using k5
                  have hl60 := (parcels_all g1).1
                  have hn60 : ((n : Int) == 60) = true := by rw [← h.len]; simp; omega
                  have hn60' : (60 : Int) ≤ (n : Int) := by rw [← h.len]; omega
                  have hc : splitCode es id area other = 5 := by rw [splitCode_at g1 g2 g4 k3 k2 k4 he1, if_neg (by simpa using k5), if_neg k6]
                  rw [hc, splitOut_neg (by omega)]
                  clear hc
                  go_enter Try.func44, Try.ntmps44
                  go_wp2_with (first
                    | (go_at_call 51; refine (impl_parcelsCode _ _ _ es _ _ _ [id, other] _ hmax (by omega) hsl hids).mono ?_; rintro e' w1 ⟨rfl, hb1⟩; rw [k0]; have hbb := below_then hal hb1)
                    | (go_at_call 55; refine (impl_parcelAt _ _ _ es _ _ hmax (h.on hbb)).mono ?_; rintro e' w2 ⟨rfl, hb2⟩; (first | rw [ht, hp] | rw [ht2]); have hbb := below_then hbb hb2; obtain ⟨c0, c1, c2, c3⟩ := (H.below hbb hb).q4 he)
                    | (go_at_call 67; refine (impl_isParcelArea _ _).mono ?_; rintro e' w' ⟨rfl, rfl⟩; rw [k3])
                    | (go_at_call 62; refine (impl_clone_Parcel _ _ _ es _ hmax (h.on hbb)).mono ?_; rintro e' w3 ⟨v3, rfl, ho3, hb3⟩; have hbb0 := hbb; have hbb := below_then hbb hb3; obtain ⟨g3, cc3, rfl, hg3, hg4, hfr⟩ := own_block_of ho3 h.len (by omega); obtain ⟨y0, y1, y2, y3⟩ := (own_has ho3 Q4.cells_len).q4 he; simp only [Nat.zero_add] at y0 y1 y2 y3; obtain ⟨c0, c1, c2, c3⟩ := (H.below hbb hb).q4 he))
                  go_ret2
                  exact ⟨_, rfl, own_new_empty _ _ _ _ _ hbb.size, below_al hbb _⟩
          · obtain ⟨tt, ht2⟩ : ∃ tt, thr es other = tt := ⟨_, rfl⟩
            have hc : splitCode es id area other = 2 := by simp [splitCode, g1, g2, g4, k3]
            rw [hc, splitOut_neg (by omega)]
            clear hc
            go_enter Try.func44, Try.ntmps44
            go_wp2_with (first
              | (go_at_call 51; refine (impl_parcelsCode _ _ _ es _ _ _ [id, other] _ hmax (by omega) hsl hids).mono ?_; rintro e' w1 ⟨rfl, hb1⟩; rw [k0]; have hbb := below_then hal hb1)
              | (go_at_call 55; refine (impl_parcelAt _ _ _ es _ _ hmax (h.on hbb)).mono ?_; rintro e' w2 ⟨rfl, hb2⟩; (first | rw [ht, hp] | rw [ht2]); have hbb := below_then hbb hb2; obtain ⟨c0, c1, c2, c3⟩ := (H.below hbb hb).q4 he)
              | (go_at_call 67; refine (impl_isParcelArea _ _).mono ?_; rintro e' w' ⟨rfl, rfl⟩; rw [k3])
              | (go_at_call 62; refine (impl_clone_Parcel _ _ _ es _ hmax (h.on hbb)).mono ?_; rintro e' w3 ⟨v3, rfl, ho3, hb3⟩; have hbb0 := hbb; have hbb := below_then hbb hb3; obtain ⟨g3, cc3, rfl, hg3, hg4, hfr⟩ := own_block_of ho3 h.len (by omega); obtain ⟨y0, y1, y2, y3⟩ := (own_has ho3 Q4.cells_len).q4 he; simp only [Nat.zero_add] at y0 y1 y2 y3; obtain ⟨c0, c1, c2, c3⟩ := (H.below hbb hb).q4 he))
            go_ret2
            exact ⟨_, rfl, own_new_empty _ _ _ _ _ hbb.size, below_al hbb _⟩
        · have ht : thr es id = false := by rw [ht0 hr]; simp [k2]
          obtain ⟨tt, ht2⟩ : ∃ tt, thr es other = tt := ⟨_, rfl⟩
          rcases Bool.eq_false_or_eq_true (inR area 1 10000000) with k3 | k3
          · have hc : splitCode es id area other = 3 := by simp [splitCode, g1, g2, g4, k3, k2]
            rw [hc, splitOut_neg (by omega)]
            clear hc
            go_enter Try.func44, Try.ntmps44
            go_wp2_with (first
              | (go_at_call 51; refine (impl_parcelsCode _ _ _ es _ _ _ [id, other] _ hmax (by omega) hsl hids).mono ?_; rintro e' w1 ⟨rfl, hb1⟩; rw [k0]; have hbb := below_then hal hb1)
              | (go_at_call 55; refine (impl_parcelAt _ _ _ es _ _ hmax (h.on hbb)).mono ?_; rintro e' w2 ⟨rfl, hb2⟩; (first | rw [ht] | rw [ht2]); have hbb := below_then hbb hb2; skip)
              | (go_at_call 67; refine (impl_isParcelArea _ _).mono ?_; rintro e' w' ⟨rfl, rfl⟩; rw [k3])
              | (go_at_call 62; refine (impl_clone_Parcel _ _ _ es _ hmax (h.on hbb)).mono ?_; rintro e' w3 ⟨v3, rfl, ho3, hb3⟩; have hbb0 := hbb; have hbb := below_then hbb hb3; obtain ⟨g3, cc3, rfl, hg3, hg4, hfr⟩ := own_block_of ho3 h.len (by omega); obtain ⟨y0, y1, y2, y3⟩ := (own_has ho3 Q4.cells_len).q4 he; simp only [Nat.zero_add] at y0 y1 y2 y3; obtain ⟨c0, c1, c2, c3⟩ := (H.below hbb hb).q4 he))
            go_ret2
            exact ⟨_, rfl, own_new_empty _ _ _ _ _ hbb.size, below_al hbb _⟩
          · have hc : splitCode es id area other = 2 := by simp [splitCode, g1, g2, g4, k3]
            rw [hc, splitOut_neg (by omega)]
            clear hc
            go_enter Try.func44, Try.ntmps44
            go_wp2_with (first
              | (go_at_call 51; refine (impl_parcelsCode _ _ _ es _ _ _ [id, other] _ hmax (by omega) hsl hids).mono ?_; rintro e' w1 ⟨rfl, hb1⟩; rw [k0]; have hbb := below_then hal hb1)
              | (go_at_call 55; refine (impl_parcelAt _ _ _ es _ _ hmax (h.on hbb)).mono ?_; rintro e' w2 ⟨rfl, hb2⟩; (first | rw [ht] | rw [ht2]); have hbb := below_then hbb hb2; skip)
              | (go_at_call 67; refine (impl_isParcelArea _ _).mono ?_; rintro e' w' ⟨rfl, rfl⟩; rw [k3])
              | (go_at_call 62; refine (impl_clone_Parcel _ _ _ es _ hmax (h.on hbb)).mono ?_; rintro e' w3 ⟨v3, rfl, ho3, hb3⟩; have hbb0 := hbb; have hbb := below_then hbb hb3; obtain ⟨g3, cc3, rfl, hg3, hg4, hfr⟩ := own_block_of ho3 h.len (by omega); obtain ⟨y0, y1, y2, y3⟩ := (own_has ho3 Q4.cells_len).q4 he; simp only [Nat.zero_add] at y0 y1 y2 y3; obtain ⟨c0, c1, c2, c3⟩ := (H.below hbb hb).q4 he))
            go_ret2
            exact ⟨_, rfl, own_new_empty _ _ _ _ _ hbb.size, below_al hbb _⟩
      · have k0 : idsCode es [id, other] = 2 := by rw [idsCode_two]; simp [g1, g2, g4]
        have hc : splitCode es id area other = 2 := by simp [splitCode, g1, g2, g4]
        rw [hc, splitOut_neg (by omega)]
        clear hc
        go_enter Try.func44, Try.ntmps44
        go_wp2_with (first
          | (go_at_call 51; refine (impl_parcelsCode _ _ _ es _ _ _ [id, other] _ hmax (by omega) hsl hids).mono ?_; rintro e' w1 ⟨rfl, hb1⟩; rw [k0]; have hbb := below_then hal hb1)
          | (go_at_call 55; refine (impl_parcelAt _ _ _ es _ _ hmax (h.on hbb)).mono ?_; rintro e' w2 ⟨rfl, hb2⟩; (first | rw [ht] | rw [ht2]); have hbb := below_then hbb hb2; skip)
          | (go_at_call 67; refine (impl_isParcelArea _ _).mono ?_; rintro e' w' ⟨rfl, rfl⟩; rw [k3])
          | (go_at_call 62; refine (impl_clone_Parcel _ _ _ es _ hmax (h.on hbb)).mono ?_; rintro e' w3 ⟨v3, rfl, ho3, hb3⟩; have hbb0 := hbb; have hbb := below_then hbb hb3; obtain ⟨g3, cc3, rfl, hg3, hg4, hfr⟩ := own_block_of ho3 h.len (by omega); obtain ⟨y0, y1, y2, y3⟩ := (own_has ho3 Q4.cells_len).q4 he; simp only [Nat.zero_add] at y0 y1 y2 y3; obtain ⟨c0, c1, c2, c3⟩ := (H.below hbb hb).q4 he))
        go_ret2
        exact ⟨_, rfl, own_new_empty _ _ _ _ _ hbb.size, below_al hbb _⟩
    · have k0 : idsCode es [id, other] = 2 := by rw [idsCode_two]; simp [g1, g2]
      have hc : splitCode es id area other = 2 := by simp [splitCode, g1, g2]
      rw [hc, splitOut_neg (by omega)]
      clear hc
      go_enter Try.func44, Try.ntmps44
      go_wp2_with (first
        | (go_at_call 51; refine (impl_parcelsCode _ _ _ es _ _ _ [id, other] _ hmax (by omega) hsl hids).mono ?_; rintro e' w1 ⟨rfl, hb1⟩; rw [k0]; have hbb := below_then hal hb1)
        | (go_at_call 55; refine (impl_parcelAt _ _ _ es _ _ hmax (h.on hbb)).mono ?_; rintro e' w2 ⟨rfl, hb2⟩; (first | rw [ht] | rw [ht2]); have hbb := below_then hbb hb2; skip)
        | (go_at_call 67; refine (impl_isParcelArea _ _).mono ?_; rintro e' w' ⟨rfl, rfl⟩; rw [k3])
        | (go_at_call 62; refine (impl_clone_Parcel _ _ _ es _ hmax (h.on hbb)).mono ?_; rintro e' w3 ⟨v3, rfl, ho3, hb3⟩; have hbb0 := hbb; have hbb := below_then hbb hb3; obtain ⟨g3, cc3, rfl, hg3, hg4, hfr⟩ := own_block_of ho3 h.len (by omega); obtain ⟨y0, y1, y2, y3⟩ := (own_has ho3 Q4.cells_len).q4 he; simp only [Nat.zero_add] at y0 y1 y2 y3; obtain ⟨c0, c1, c2, c3⟩ := (H.below hbb hb).q4 he))
      go_ret2
      exact ⟨_, rfl, own_new_empty _ _ _ _ _ hbb.size, below_al hbb _⟩
  · have k0 : idsCode es [id, other] = 1 := by rw [idsCode_two]; simp [g1]
    have hc : splitCode es id area other = 1 := by simp [splitCode, g1]
    rw [hc, splitOut_neg (by omega)]
    clear hc
    go_enter Try.func44, Try.ntmps44
    go_wp2_with (first
      | (go_at_call 51; refine (impl_parcelsCode _ _ _ es _ _ _ [id, other] _ hmax (by omega) hsl hids).mono ?_; rintro e' w1 ⟨rfl, hb1⟩; rw [k0]; have hbb := below_then hal hb1)
      | (go_at_call 55; refine (impl_parcelAt _ _ _ es _ _ hmax (h.on hbb)).mono ?_; rintro e' w2 ⟨rfl, hb2⟩; (first | rw [ht] | rw [ht2]); have hbb := below_then hbb hb2; skip)
      | (go_at_call 67; refine (impl_isParcelArea _ _).mono ?_; rintro e' w' ⟨rfl, rfl⟩; rw [k3])
      | (go_at_call 62; refine (impl_clone_Parcel _ _ _ es _ hmax (h.on hbb)).mono ?_; rintro e' w3 ⟨v3, rfl, ho3, hb3⟩; have hbb0 := hbb; have hbb := below_then hbb hb3; obtain ⟨g3, cc3, rfl, hg3, hg4, hfr⟩ := own_block_of ho3 h.len (by omega); obtain ⟨y0, y1, y2, y3⟩ := (own_has ho3 Q4.cells_len).q4 he; simp only [Nat.zero_add] at y0 y1 y2 y3; obtain ⟨c0, c1, c2, c3⟩ := (H.below hbb hb).q4 he))
    go_ret2
    exact ⟨_, rfl, own_new_empty _ _ _ _ _ hbb.size, below_al hbb _⟩
set_option maxHeartbeats 1000000 in
theorem spec_SplitParcel (A : Option Addr) (n c : Nat) (es : List Q4) (id area other : Int) (w : World) (hmax : n ≤ 1048576) (h : Sl w w.heap.size 4 Q4.cells A n es) :
    Calls Try.prog 43 #[.slice A n c, .int .i64 id, .int .i64 area, .int .i64 other] w fun e w' => ∃ v, e = .returned (.tuple #[v, .int .i64 (splitCode es id area other)]) ∧ Own w' w.heap.size 46 4 Q4.cells v (splitOut es id area other) ∧ Below w.heap.size w w' := by
  obtain ⟨i0, hi, hz0, hz1, hz2⟩ := info_parts info_Parcel
  rcases Bool.eq_false_or_eq_true (parcelsOk es) with g1 | g1
  · have hr := parcels_rise g1
    rcases Bool.eq_false_or_eq_true (idOk id) with g2 | g2
    · have g2' : inR id 1 9999 = true := g2
      rcases Bool.eq_false_or_eq_true (idOk other) with g4 | g4
      · have g4' : inR other 1 9999 = true := g4
        rcases Bool.eq_false_or_eq_true (inR area 1 10000000) with k3 | k3
        · by_cases k2 : fnd es id < es.length
          · obtain ⟨e, he0, _⟩ := fi_get k2
            obtain ⟨k, hk⟩ : ∃ k, fnd es id = k := ⟨_, rfl⟩
            have he : es[k]? = some e := by rw [← hk]; exact he0
            have he1 : es[fnd es id]? = some e := he0
            have hkn : k < n := by rw [← h.len, ← hk]; exact k2
            obtain ⟨b, off, rfl, hb, H⟩ := h.at_ (by omega)
            have hf : fndR es id = (k : Int) := by rw [fndR, if_pos k2, hk]
            by_cases k4 : fnd es other < es.length
            · obtain ⟨kk, hkk⟩ : ∃ kk, fnd es other = kk := ⟨_, rfl⟩
              have hf2 : fndR es other = (kk : Int) := by rw [fndR, if_pos k4, hkk]
              clear hkk
              have hc : splitCode es id area other = 4 := by simp [splitCode, g1, g2, g4, k3, k2, k4]
              rw [hc, splitOut_neg (by omega)]
              clear hc
              go_enter Try.func43, Try.ntmps43
              go_wp2_with (first
                | (go_at_call 47; refine (spec_l19Ok _ _ _ es _ hmax h).mono ?_; rintro e' w1 ⟨rfl, hb1⟩; rw [g1]; have hbb := hb1)
                | (go_at_call 60; refine (spec_l19Id _ _).mono ?_; rintro e' w' ⟨rfl, rfl⟩; (first | rw [g2'] | rw [g4']))
                | (go_at_call 66; refine (spec_l00In _ _ _ _).mono ?_; rintro e' w' ⟨rfl, rfl⟩; rw [k3])
                | (go_at_call 61; refine (spec_l19Find _ _ _ es _ _ hmax (h.on hbb)).mono ?_; rintro e' w2 ⟨rfl, hb2⟩; (first | rw [hf] | rw [hf2]); have hbb := below_then hbb hb2; obtain ⟨c0, c1, c2, c3⟩ := (H.below hbb hb).q4 he))
              go_ret2
              exact ⟨_, rfl, own_nil _ _ _ _ _, hbb⟩
            · have hf2 : fndR es other = -1 := by rw [fndR, if_neg k4]
              rcases Bool.eq_false_or_eq_true (decide (e.c ≤ area)) with k5 | k5
              · have k5' : e.c ≤ area := by simpa using k5
                have hc : splitCode es id area other = 6 := by rw [splitCode_at g1 g2 g4 k3 k2 k4 he1, if_pos k5']
                rw [hc, splitOut_neg (by omega)]
                clear hc
                go_enter Try.func43, Try.ntmps43
                go_wp2_with (first
                  | (go_at_call 47; refine (spec_l19Ok _ _ _ es _ hmax h).mono ?_; rintro e' w1 ⟨rfl, hb1⟩; rw [g1]; have hbb := hb1)
                  | (go_at_call 60; refine (spec_l19Id _ _).mono ?_; rintro e' w' ⟨rfl, rfl⟩; (first | rw [g2'] | rw [g4']))
                  | (go_at_call 66; refine (spec_l00In _ _ _ _).mono ?_; rintro e' w' ⟨rfl, rfl⟩; rw [k3])
                  | (go_at_call 61; refine (spec_l19Find _ _ _ es _ _ hmax (h.on hbb)).mono ?_; rintro e' w2 ⟨rfl, hb2⟩; (first | rw [hf] | rw [hf2]); have hbb := below_then hbb hb2; obtain ⟨c0, c1, c2, c3⟩ := (H.below hbb hb).q4 he))
                go_ret2
                exact ⟨_, rfl, own_nil _ _ _ _ _, hbb⟩
              · by_cases k6 : es.length < 60
                · have hn60' : (n : Int) < 60 := by rw [h.len] at k6; omega
                  have hn60 : ((n : Int) == 60) = false := by simp; omega
                  have hc : splitCode es id area other = 0 := by rw [splitCode_at g1 g2 g4 k3 k2 k4 he1, if_neg (by simpa using k5), if_pos k6]
                  rw [hc, splitOut_pos hc hk he]
                  have He := Lib.hid he
                  have Hr := Lib.hid hr
                  have K4 := Lib.hid k4
                  have Hlen := Lib.hid h.len
                  have k5' : area < e.c := by simpa using k5
                  obtain ⟨_, _, ⟨a1, a2⟩, _⟩ := parcelOk_iff.1 ((parcels_all g1).2 e (List.mem_of_getElem? he))
                  obtain ⟨a3, a4⟩ := inR_iff.1 k3
                  clear hc he1 he0 k2 k4 k6 hk hr g2 g4
                  go_enter Try.func43, Try.ntmps43
                  go_wp2_with (first
                    | (go_at_call 47; refine (spec_l19Ok _ _ _ es _ hmax h).mono ?_; rintro e' w1 ⟨rfl, hb1⟩; rw [g1]; have hbb := hb1)
                    | (go_at_call 60; refine (spec_l19Id _ _).mono ?_; rintro e' w' ⟨rfl, rfl⟩; (first | rw [g2'] | rw [g4']))
                    | (go_at_call 66; refine (spec_l00In _ _ _ _).mono ?_; rintro e' w' ⟨rfl, rfl⟩; rw [k3])
                    | (go_at_call 61; refine (spec_l19Find _ _ _ es _ _ hmax (h.on hbb)).mono ?_; rintro e' w2 ⟨rfl, hb2⟩; (first | rw [hf] | rw [hf2]); have hbb := below_then hbb hb2; obtain ⟨c0, c1, c2, c3⟩ := (H.below hbb hb).q4 he)
                    | (at_builtin; refine wpList_app rfl _ _ 25 rfl w.heap.size 46 i0 _ 4 32 Try.underlying25 hi hz0 hz1 hz2 rfl (by omega) Q4.cells_len q4_one _ ([] : List Q4) es rfl (own_new_empty _ _ _ _ _ hbb.size) w.heap.size _ n c rfl (h.below (below_al hbb _)) (by simp) (by omega) (by omega) (by have := hbb.size; simp; omega) ?_; intro v3 w3 ho3 hg3; rw [List.nil_append] at ho3; have hb3 := own_grown (below_al hbb (.cells #[] 46)) (own_new_empty _ w.heap.size _ 4 Q4.cells hbb.size) (Nat.le_refl _) (by have := hbb.size; simp; omega) hg3; obtain ⟨g3, cc3, rfl, hg3, hg4, hfr⟩ := own_block_of ho3 h.len (by omega); obtain ⟨y0, y1, y2, y3⟩ := (own_has ho3 Q4.cells_len).q4 he; simp only [Nat.zero_add] at y0 y1 y2 y3; have hncc : n ≤ cc3 := (by obtain ⟨A', n', c', he', _, h3⟩ := own_shape ho3; injection he' with _ e2 e3; omega); clear he)
                    | (go_at_call 64; refine (spec_l19Put _ _ _ (lessArea es k e area) ⟨other, e.b, area, e.d⟩ _ hmax hncc (own_sl (own_alloc (own_store4 ho3 He.out _ _ _ _) _) Q4.cells_len)).mono ?_; rintro e' w4 ⟨v4, k4, rfl, ho4, q1, q2, q3, hb4⟩))
                  go_ret2
                  have hpp : pat (lessArea es k e area) other = k4 := put_pos (lessArea_rise Hr.out He.out area) (by rw [lessArea_fnd He.out, lessArea_len]; exact K4.out) (by rw [lessArea_len, Hlen.out]; exact q1) q2 q3
                  have hbw := below_then (below_al (below_st (below_st (below_st (below_st hb3 _ hg3 _) _ hg3 _) _ hg3 _) _ hg3 _) _) hb4
                  exact ⟨_, rfl, by rw [← lessArea_pat He.out area other, hpp]; exact ho4.base_le (below_al (below_st (below_st (below_st (below_st hb3 _ hg3 _) _ hg3 _) _ hg3 _) _ hg3 _) _).size, hbw⟩
                · have k5' : area < e.c := by simpa using k5
                  have hl60 := (parcels_all g1).1
                  have hn60 : ((n : Int) == 60) = true := by rw [← h.len]; simp; omega
                  have hn60' : (60 : Int) ≤ (n : Int) := by rw [← h.len]; omega
                  have hc : splitCode es id area other = 5 := by rw [splitCode_at g1 g2 g4 k3 k2 k4 he1, if_neg (by simpa using k5), if_neg k6]
                  rw [hc, splitOut_neg (by omega)]
                  clear hc
                  go_enter Try.func43, Try.ntmps43
                  go_wp2_with (first
                    | (go_at_call 47; refine (spec_l19Ok _ _ _ es _ hmax h).mono ?_; rintro e' w1 ⟨rfl, hb1⟩; rw [g1]; have hbb := hb1)
                    | (go_at_call 60; refine (spec_l19Id _ _).mono ?_; rintro e' w' ⟨rfl, rfl⟩; (first | rw [g2'] | rw [g4']))
                    | (go_at_call 66; refine (spec_l00In _ _ _ _).mono ?_; rintro e' w' ⟨rfl, rfl⟩; rw [k3])
                    | (go_at_call 61; refine (spec_l19Find _ _ _ es _ _ hmax (h.on hbb)).mono ?_; rintro e' w2 ⟨rfl, hb2⟩; (first | rw [hf] | rw [hf2]); have hbb := below_then hbb hb2; obtain ⟨c0, c1, c2, c3⟩ := (H.below hbb hb).q4 he))
                  go_ret2
                  exact ⟨_, rfl, own_nil _ _ _ _ _, hbb⟩
          · have hf : fndR es id = -1 := by rw [fndR, if_neg k2]
            have hc : splitCode es id area other = 3 := by simp [splitCode, g1, g2, g4, k3, k2]
            rw [hc, splitOut_neg (by omega)]
            clear hc
            go_enter Try.func43, Try.ntmps43
            go_wp2_with (first
              | (go_at_call 47; refine (spec_l19Ok _ _ _ es _ hmax h).mono ?_; rintro e' w1 ⟨rfl, hb1⟩; rw [g1]; have hbb := hb1)
              | (go_at_call 60; refine (spec_l19Id _ _).mono ?_; rintro e' w' ⟨rfl, rfl⟩; (first | rw [g2'] | rw [g4']))
              | (go_at_call 66; refine (spec_l00In _ _ _ _).mono ?_; rintro e' w' ⟨rfl, rfl⟩; rw [k3])
              | (go_at_call 61; refine (spec_l19Find _ _ _ es _ _ hmax (h.on hbb)).mono ?_; rintro e' w2 ⟨rfl, hb2⟩; rw [hf]; have hbb := below_then hbb hb2))
            go_ret2
            exact ⟨_, rfl, own_nil _ _ _ _ _, hbb⟩
        · have hc : splitCode es id area other = 2 := by simp [splitCode, g1, g2, g4, k3]
          rw [hc, splitOut_neg (by omega)]
          clear hc
          go_enter Try.func43, Try.ntmps43
          go_wp2_with (first
            | (go_at_call 47; refine (spec_l19Ok _ _ _ es _ hmax h).mono ?_; rintro e' w1 ⟨rfl, hb1⟩; rw [g1]; have hbb := hb1)
            | (go_at_call 60; refine (spec_l19Id _ _).mono ?_; rintro e' w' ⟨rfl, rfl⟩; (first | rw [g2'] | rw [g4']))
            | (go_at_call 66; refine (spec_l00In _ _ _ _).mono ?_; rintro e' w' ⟨rfl, rfl⟩; rw [k3]))
          go_ret2
          exact ⟨_, rfl, own_nil _ _ _ _ _, hbb⟩
      · have g4' : inR other 1 9999 = false := g4
        have hc : splitCode es id area other = 2 := by simp [splitCode, g1, g2, g4]
        rw [hc, splitOut_neg (by omega)]
        clear hc
        go_enter Try.func43, Try.ntmps43
        go_wp2_with (first
          | (go_at_call 47; refine (spec_l19Ok _ _ _ es _ hmax h).mono ?_; rintro e' w1 ⟨rfl, hb1⟩; rw [g1]; have hbb := hb1)
          | (go_at_call 60; refine (spec_l19Id _ _).mono ?_; rintro e' w' ⟨rfl, rfl⟩; (first | rw [g2'] | rw [g4'])))
        go_ret2
        exact ⟨_, rfl, own_nil _ _ _ _ _, hbb⟩
    · have g2' : inR id 1 9999 = false := g2
      have hc : splitCode es id area other = 2 := by simp [splitCode, g1, g2]
      rw [hc, splitOut_neg (by omega)]
      clear hc
      go_enter Try.func43, Try.ntmps43
      go_wp2_with (first
        | (go_at_call 47; refine (spec_l19Ok _ _ _ es _ hmax h).mono ?_; rintro e' w1 ⟨rfl, hb1⟩; rw [g1]; have hbb := hb1)
        | (go_at_call 60; refine (spec_l19Id _ _).mono ?_; rintro e' w' ⟨rfl, rfl⟩; rw [g2']))
      go_ret2
      exact ⟨_, rfl, own_nil _ _ _ _ _, hbb⟩
  · have hc : splitCode es id area other = 1 := by simp [splitCode, g1]
    rw [hc, splitOut_neg (by omega)]
    clear hc
    go_enter Try.func43, Try.ntmps43
    go_wp2_with (go_at_call 47; refine (spec_l19Ok _ _ _ es _ hmax h).mono ?_; rintro e' w1 ⟨rfl, hb1⟩; rw [g1]; have hbb := hb1)
    go_ret2
    exact ⟨_, rfl, own_nil _ _ _ _ _, hbb⟩

end Go.Proofs.Ytiibamemkmffoaa

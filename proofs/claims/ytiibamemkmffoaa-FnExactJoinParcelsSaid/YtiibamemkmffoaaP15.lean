/- Walks over functions of this seat, by contract. Conditions: those that each theorem states. -/
import Derived.Test.YtiibamemkmffoaaP14
namespace Go.Proofs.Ytiibamemkmffoaa
open Go.RowKit Go.Sort

set_option maxHeartbeats 1000000 in
theorem spec_JoinParcels (A : Option Addr) (n c : Nat) (es : List Q4) (id other : Int) (w : World) (hmax : n ≤ 1048576) (h : Sl w w.heap.size 4 Q4.cells A n es) :
    Calls Try.prog 41 #[.slice A n c, .int .i64 id, .int .i64 other] w fun e w' => ∃ v, e = .returned (.tuple #[v, .int .i64 (joinCode es id other)]) ∧ Own w' w.heap.size 46 4 Q4.cells v (joinOut es id other) ∧ Below w.heap.size w w' := by
  obtain ⟨i0, hi, hz0, hz1, hz2⟩ := info_parts info_Parcel
  rcases Bool.eq_false_or_eq_true (parcelsOk es) with g1 | g1
  · have hr := parcels_rise g1
    rcases Bool.eq_false_or_eq_true (idOk id) with g2 | g2
    · have g2' : inR id 1 9999 = true := g2
      rcases Bool.eq_false_or_eq_true (idOk other) with g4 | g4
      · have g4' : inR other 1 9999 = true := g4
        by_cases k2 : fnd es id < es.length
        · by_cases k4 : fnd es other < es.length
          · obtain ⟨x, hx0, _⟩ := fi_get k2
            obtain ⟨i, hi_⟩ : ∃ i, fnd es id = i := ⟨_, rfl⟩
            have hx : es[i]? = some x := by rw [← hi_]; exact hx0
            have hin : i < n := by rw [← h.len, ← hi_]; exact k2
            obtain ⟨y, hy0, _⟩ := fi_get k4
            obtain ⟨k, hk⟩ : ∃ k, fnd es other = k := ⟨_, rfl⟩
            have hy : es[k]? = some y := by rw [← hk]; exact hy0
            have hkn : k < n := by rw [← h.len, ← hk]; exact k4
            obtain ⟨b, off, rfl, hb, H⟩ := h.at_ (by omega)
            have hf : fndR es id = (i : Int) := by rw [fndR, if_pos k2, hi_]
            have hf2 : fndR es other = (k : Int) := by rw [fndR, if_pos k4, hk]
            have hca := joinCode_at g1 g2 g4 k2 k4 hi_ hk hx hy
            obtain ⟨_, _, ⟨a1, a2⟩, _⟩ := parcelOk_iff.1 ((parcels_all g1).2 x (List.mem_of_getElem? hx))
            obtain ⟨_, _, ⟨a3, a4⟩, _⟩ := parcelOk_iff.1 ((parcels_all g1).2 y (List.mem_of_getElem? hy))
            have Hx := Lib.hid hx
            have Hy := Lib.hid hy
            have Hi := Lib.hid hi_
            have Hk := Lib.hid hk
            have Hca := Lib.hid hca
            clear hx0 hy0 hx hy hi_ hk hca k2 k4 hr
            by_cases e1 : i = k
            · have e1' : ((i : Int) == (k : Int)) = true := by rw [e1]; simp
              have hc : joinCode es id other = 6 := by rw [Hca.out, if_pos e1]
              rw [hc, joinOut_neg (by omega)]
              clear hc
              go_enter Try.func41, Try.ntmps41
              go_wp2_with (first
                | (go_at_call 47; refine (spec_l19Ok _ _ _ es _ hmax h).mono ?_; rintro e' w1 ⟨rfl, hb1⟩; rw [g1]; have hbb := hb1)
                | (go_at_call 60; refine (spec_l19Id _ _).mono ?_; rintro e' w' ⟨rfl, rfl⟩; (first | rw [g2'] | rw [g4']))
                | (go_at_call 61; refine (spec_l19Find _ _ _ es _ _ hmax (h.on hbb)).mono ?_; rintro e' w2 ⟨rfl, hb2⟩; (first | rw [hf] | rw [hf2]); have hbb := below_then hbb hb2))
              obtain ⟨c0, c1, c2, c3⟩ := (H.below hbb hb).q4c (Nat.lt_of_lt_of_le hb hbb.size) Hx.out
              obtain ⟨d0, d1, d2, d3⟩ := (H.below hbb hb).q4c (Nat.lt_of_lt_of_le hb hbb.size) Hy.out
              refine wp_region_quiet_below (by kernel_rfl) (by kernel_rfl) ?_
              repeat (go_big_quiet_step (fail))
              refine wpQuiet_nil ?_
              intro wq hwq
              have hbb := below_then hbb (below_of_class hwq)
              clear hwq c0 c1 c2 c3 d0 d1 d2 d3
              go_wp2
              go_ret2
              exact ⟨_, rfl, own_nil _ _ _ _ _, hbb⟩
            · have e1' : ((i : Int) == (k : Int)) = false := by simp; omega
              by_cases e2 : x.b = y.b
              · have e2' : (x.b != y.b) = false := by simpa using e2
                by_cases e3 : x.d = y.d
                · have e3' : (x.d != y.d) = false := by simpa using e3
                  by_cases e4 : 10000000 < x.c + y.c
                  · have hc : joinCode es id other = 5 := by rw [Hca.out, if_neg e1, if_neg (by simpa using e2), if_neg (by simpa using e3), if_pos e4]
                    rw [hc, joinOut_neg (by omega)]
                    clear hc
                    go_enter Try.func41, Try.ntmps41
                    go_wp2_with (first
                      | (go_at_call 47; refine (spec_l19Ok _ _ _ es _ hmax h).mono ?_; rintro e' w1 ⟨rfl, hb1⟩; rw [g1]; have hbb := hb1)
                      | (go_at_call 60; refine (spec_l19Id _ _).mono ?_; rintro e' w' ⟨rfl, rfl⟩; (first | rw [g2'] | rw [g4']))
                      | (go_at_call 61; refine (spec_l19Find _ _ _ es _ _ hmax (h.on hbb)).mono ?_; rintro e' w2 ⟨rfl, hb2⟩; (first | rw [hf] | rw [hf2]); have hbb := below_then hbb hb2))
                    obtain ⟨c0, c1, c2, c3⟩ := (H.below hbb hb).q4c (Nat.lt_of_lt_of_le hb hbb.size) Hx.out
                    obtain ⟨d0, d1, d2, d3⟩ := (H.below hbb hb).q4c (Nat.lt_of_lt_of_le hb hbb.size) Hy.out
                    refine wp_region_quiet_below (by kernel_rfl) (by kernel_rfl) ?_
                    repeat (go_big_quiet_step (fail))
                    refine wpQuiet_nil ?_
                    intro wq hwq
                    have hbb := below_then hbb (below_of_class hwq)
                    clear hwq c0 c1 c2 c3 d0 d1 d2 d3
                    go_wp2
                    obtain ⟨c0, c1, c2, c3⟩ := (H.below hbb hb).q4c (Nat.lt_of_lt_of_le hb hbb.size) Hx.out
                    obtain ⟨d0, d1, d2, d3⟩ := (H.below hbb hb).q4c (Nat.lt_of_lt_of_le hb hbb.size) Hy.out
                    refine wp_region_quiet_below (by kernel_rfl) (by kernel_rfl) ?_
                    repeat (go_big_quiet_step (fail))
                    refine wpQuiet_nil ?_
                    intro wq hwq
                    have hbb := below_then hbb (below_of_class hwq)
                    clear hwq c0 c1 c2 c3 d0 d1 d2 d3
                    go_wp2
                    go_ret2
                    exact ⟨_, rfl, own_nil _ _ _ _ _, hbb⟩
                  · have hc : joinCode es id other = 0 := by rw [Hca.out, if_neg e1, if_neg (by simpa using e2), if_neg (by simpa using e3), if_neg e4]
                    rw [hc, joinOut_pos hc Hi.out Hk.out Hx.out Hy.out]
                    have e4' : x.c + y.c ≤ 10000000 := by omega
                    have Hlen := Lib.hid h.len
                    clear hc e2 e3 e4
                    go_enter Try.func41, Try.ntmps41
                    go_wp2_with (first
                      | (go_at_call 47; refine (spec_l19Ok _ _ _ es _ hmax h).mono ?_; rintro e' w1 ⟨rfl, hb1⟩; rw [g1]; have hbb := hb1)
                      | (go_at_call 60; refine (spec_l19Id _ _).mono ?_; rintro e' w' ⟨rfl, rfl⟩; (first | rw [g2'] | rw [g4']))
                      | (go_at_call 61; refine (spec_l19Find _ _ _ es _ _ hmax (h.on hbb)).mono ?_; rintro e' w2 ⟨rfl, hb2⟩; (first | rw [hf] | rw [hf2]); have hbb := below_then hbb hb2))
                    obtain ⟨c0, c1, c2, c3⟩ := (H.below hbb hb).q4c (Nat.lt_of_lt_of_le hb hbb.size) Hx.out
                    obtain ⟨d0, d1, d2, d3⟩ := (H.below hbb hb).q4c (Nat.lt_of_lt_of_le hb hbb.size) Hy.out
                    refine wp_region_quiet_below (by kernel_rfl) (by kernel_rfl) ?_
                    repeat (go_big_quiet_step (fail))
                    refine wpQuiet_nil ?_
                    intro wq hwq
                    have hbb := below_then hbb (below_of_class hwq)
                    clear hwq c0 c1 c2 c3 d0 d1 d2 d3
                    go_wp2
                    obtain ⟨c0, c1, c2, c3⟩ := (H.below hbb hb).q4c (Nat.lt_of_lt_of_le hb hbb.size) Hx.out
                    obtain ⟨d0, d1, d2, d3⟩ := (H.below hbb hb).q4c (Nat.lt_of_lt_of_le hb hbb.size) Hy.out
                    refine wp_region_quiet_below (by kernel_rfl) (by kernel_rfl) ?_
                    repeat (go_big_quiet_step (fail))
                    refine wpQuiet_nil ?_
                    intro wq hwq
                    have hbb := below_then hbb (below_of_class hwq)
                    clear hwq c0 c1 c2 c3 d0 d1 d2 d3
                    go_wp2_with fail
                    have hlj : (joinList es i x y).length = n := by rw [joinList, List.length_set]; exact Hlen.out
                    have Hlj := Lib.hid hlj
                    clear hlj e1' e2' e3'
                    go_loopw [10, 11] (fun v q wr => ∃ j : Nat, j ≤ n ∧ q = .int .i64 j ∧ Hid (Own wr w.heap.size 46 4 Q4.cells v (((joinList es i x y).take j).eraseIdx k)) ∧ Below w.heap.size w wr) (fun _ q _ => n - (intOf q).toNat)
                    case atStart => exact ⟨0, by omega, rfl, Lib.hid (by simpa using own_new_empty wq w.heap.size 46 4 Q4.cells hbb.size), below_al hbb _⟩
                    case round =>
                      obtain ⟨j, hj, rfl, Hown, hbel⟩ := hrel
                      have hpl : (((joinList es i x y).take j).eraseIdx k).length ≤ j := Nat.le_trans (List.length_eraseIdx_le _ _) (by rw [List.length_take]; omega)
                      by_cases hlt : j < n
                      · obtain ⟨e, he⟩ := h.get hlt
                        obtain ⟨c0, c1, c2, c3⟩ := (H.below hbel hb).q4 he
                        obtain ⟨d0, d1, d2, d3⟩ := (H.below hbel hb).q4 Hy.out
                        by_cases q1 : j = i
                        · subst q1
                          have hje : (joinList es j x y)[j]? = some ⟨x.a, x.b, x.c + y.c, x.d⟩ := by rw [joinList, List.getElem?_set_self (by rw [Hlen.out]; exact hlt)]
                          have hxe : e = x := by have := Hx.out; rw [he] at this; injection this
                          subst hxe
                          have Hje := Lib.hid hje
                          have t1 : ((j : Int) == (j : Int)) = true := by simp
                          have t2 : ((j : Int) != (k : Int)) = true := by rw [bne_iff_ne]; omega
                          clear he hje
                          go_wp2_with fail
                          have d2a := cell_on d2 (below_al (Below.refl wr.heap.size wr) (.cells #[.int .i64 e.a, .int .i64 e.b, .int .i64 e.c, .int .i64 e.d] 46)) (Nat.lt_of_lt_of_le hb hbel.size)
                          go_region
                          obtain ⟨ws, hws⟩ : ∃ ws, (wr.alloc (.cells #[.int .i64 e.a, .int .i64 e.b, .int .i64 (e.c + y.c), .int .i64 e.d] 46)).drew = ws := ⟨_, rfl⟩
                          have hbs := below_dr (below_al hbel (.cells #[.int .i64 e.a, .int .i64 e.b, .int .i64 (e.c + y.c), .int .i64 e.d] 46))
                          have hos := Own.below (own_alloc Hown.out (.cells #[.int .i64 e.a, .int .i64 e.b, .int .i64 (e.c + y.c), .int .i64 e.d] 46)) (below_dr (Below.refl _ _)) (Nat.le_refl _)
                          obtain ⟨z0, z1, z2, z3⟩ := box4k (below_dr (Below.refl _ (wr.alloc (.cells #[.int .i64 e.a, .int .i64 e.b, .int .i64 (e.c + y.c), .int .i64 e.d] 46))))
                          rw [hws] at hbs hos z0 z1 z2 z3
                          rw [hws]
                          have Hos := Lib.hid hos
                          clear hws d2a hos
                          go_wp2_with (at_builtin; refine wpList_push rfl _ _ 25 rfl w.heap.size 46 i0 _ 4 32 Try.underlying25 hi hz0 hz1 hz2 rfl (by omega) Q4.cells_len q4_one _ _ (⟨e.a, e.b, e.c + y.c, e.d⟩ : Q4) rfl (Hos.out) _ rfl _ rfl (by first | rfl | simp) (by omega) (by omega) (by exact hbs.size) ?_; intro v3 w3 ho3 hg3; have hbel3 := own_grown (hbs) (Hos.out) (Nat.le_refl _) (by exact hbs.size) hg3; have Ho3 := Lib.hid ho3; clear ho3)
                          go_roundw
                          case rel => exact ⟨j + 1, by omega, by go_num, Lib.hid (by rw [erase_succ Hje.out, if_neg (by omega)]; exact Ho3.out), hbel3⟩
                          case measure => simp [intOf]; omega
                        · have hje : (joinList es i x y)[j]? = some e := by rw [joinList, List.getElem?_set_ne (by omega)]; exact he
                          have Hje := Lib.hid hje
                          have t1 : ((j : Int) == (i : Int)) = false := by simp; omega
                          clear he hje
                          by_cases q2 : j = k
                          · subst q2
                            have t2 : ((j : Int) != (j : Int)) = false := by simp
                            go_wp2_with fail
                            go_roundw
                            case rel => exact ⟨j + 1, by omega, by go_num, Lib.hid (by rw [erase_succ Hje.out, if_pos rfl]; exact own_alloc Hown.out _), below_al hbel _⟩
                            case measure => simp [intOf]; omega
                          · have t2 : ((j : Int) != (k : Int)) = true := by rw [bne_iff_ne]; omega
                            go_wp2_with (at_builtin; refine wpList_push rfl _ _ 25 rfl w.heap.size 46 i0 _ 4 32 Try.underlying25 hi hz0 hz1 hz2 rfl (by omega) Q4.cells_len q4_one _ _ (e : Q4) rfl (own_alloc Hown.out _) _ rfl _ rfl (by first | rfl | simp) (by omega) (by omega) (by have := hbel.size; simp; omega) ?_; intro v3 w3 ho3 hg3; have hbel3 := own_grown (below_al hbel _) (own_alloc Hown.out _) (Nat.le_refl _) (by have := hbel.size; simp; omega) hg3; have Ho3 := Lib.hid ho3; clear ho3)
                            go_roundw
                            case rel => exact ⟨j + 1, by omega, by go_num, Lib.hid (by rw [erase_succ Hje.out, if_neg q2]; exact Ho3.out), hbel3⟩
                            case measure => simp [intOf]; omega
                      · go_wp2
                        go_ret2
                        have hjn : j = n := by omega
                        subst hjn
                        have ho := Hown.out
                        rw [List.take_of_length_le (by rw [Hlj.out]; exact Nat.le_refl _)] at ho
                        exact ⟨_, rfl, ho, hbel⟩
                · have e3' : (x.d != y.d) = true := by simpa using e3
                  have hc : joinCode es id other = 6 := by rw [Hca.out, if_neg e1, if_neg (by simpa using e2), if_pos e3]
                  rw [hc, joinOut_neg (by omega)]
                  clear hc
                  go_enter Try.func41, Try.ntmps41
                  go_wp2_with (first
                    | (go_at_call 47; refine (spec_l19Ok _ _ _ es _ hmax h).mono ?_; rintro e' w1 ⟨rfl, hb1⟩; rw [g1]; have hbb := hb1)
                    | (go_at_call 60; refine (spec_l19Id _ _).mono ?_; rintro e' w' ⟨rfl, rfl⟩; (first | rw [g2'] | rw [g4']))
                    | (go_at_call 61; refine (spec_l19Find _ _ _ es _ _ hmax (h.on hbb)).mono ?_; rintro e' w2 ⟨rfl, hb2⟩; (first | rw [hf] | rw [hf2]); have hbb := below_then hbb hb2))
                  obtain ⟨c0, c1, c2, c3⟩ := (H.below hbb hb).q4c (Nat.lt_of_lt_of_le hb hbb.size) Hx.out
                  obtain ⟨d0, d1, d2, d3⟩ := (H.below hbb hb).q4c (Nat.lt_of_lt_of_le hb hbb.size) Hy.out
                  refine wp_region_quiet_below (by kernel_rfl) (by kernel_rfl) ?_
                  repeat (go_big_quiet_step (fail))
                  refine wpQuiet_nil ?_
                  intro wq hwq
                  have hbb := below_then hbb (below_of_class hwq)
                  clear hwq c0 c1 c2 c3 d0 d1 d2 d3
                  go_wp2
                  go_ret2
                  exact ⟨_, rfl, own_nil _ _ _ _ _, hbb⟩
              · have e2' : (x.b != y.b) = true := by simpa using e2
                have hc : joinCode es id other = 6 := by rw [Hca.out, if_neg e1, if_pos e2]
                rw [hc, joinOut_neg (by omega)]
                clear hc
                go_enter Try.func41, Try.ntmps41
                go_wp2_with (first
                  | (go_at_call 47; refine (spec_l19Ok _ _ _ es _ hmax h).mono ?_; rintro e' w1 ⟨rfl, hb1⟩; rw [g1]; have hbb := hb1)
                  | (go_at_call 60; refine (spec_l19Id _ _).mono ?_; rintro e' w' ⟨rfl, rfl⟩; (first | rw [g2'] | rw [g4']))
                  | (go_at_call 61; refine (spec_l19Find _ _ _ es _ _ hmax (h.on hbb)).mono ?_; rintro e' w2 ⟨rfl, hb2⟩; (first | rw [hf] | rw [hf2]); have hbb := below_then hbb hb2))
                obtain ⟨c0, c1, c2, c3⟩ := (H.below hbb hb).q4c (Nat.lt_of_lt_of_le hb hbb.size) Hx.out
                obtain ⟨d0, d1, d2, d3⟩ := (H.below hbb hb).q4c (Nat.lt_of_lt_of_le hb hbb.size) Hy.out
                refine wp_region_quiet_below (by kernel_rfl) (by kernel_rfl) ?_
                repeat (go_big_quiet_step (fail))
                refine wpQuiet_nil ?_
                intro wq hwq
                have hbb := below_then hbb (below_of_class hwq)
                clear hwq c0 c1 c2 c3 d0 d1 d2 d3
                go_wp2
                go_ret2
                exact ⟨_, rfl, own_nil _ _ _ _ _, hbb⟩
          · obtain ⟨kk, hkk⟩ : ∃ kk, fnd es id = kk := ⟨_, rfl⟩
            have hf : fndR es id = (kk : Int) := by rw [fndR, if_pos k2, hkk]
            have hf2 : fndR es other = -1 := by rw [fndR, if_neg k4]
            have hc : joinCode es id other = 3 := by exact joinCode_none g1 g2 g4 (by omega)
            rw [hc, joinOut_neg (by omega)]
            clear hc
            clear hkk k2 k4 hr
            go_enter Try.func41, Try.ntmps41
            go_wp2_with (first
              | (go_at_call 47; refine (spec_l19Ok _ _ _ es _ hmax h).mono ?_; rintro e' w1 ⟨rfl, hb1⟩; rw [g1]; have hbb := hb1)
              | (go_at_call 60; refine (spec_l19Id _ _).mono ?_; rintro e' w' ⟨rfl, rfl⟩; (first | rw [g2'] | rw [g4']))
              | (go_at_call 61; refine (spec_l19Find _ _ _ es _ _ hmax (h.on hbb)).mono ?_; rintro e' w2 ⟨rfl, hb2⟩; (first | rw [hf] | rw [hf2]); have hbb := below_then hbb hb2))
            go_ret2
            exact ⟨_, rfl, own_nil _ _ _ _ _, hbb⟩
        · have hf : fndR es id = -1 := by rw [fndR, if_neg k2]
          obtain ⟨tt, hf2⟩ : ∃ tt, fndR es other = tt := ⟨_, rfl⟩
          have hc : joinCode es id other = 3 := by exact joinCode_none g1 g2 g4 (by omega)
          rw [hc, joinOut_neg (by omega)]
          clear hc
          go_enter Try.func41, Try.ntmps41
          go_wp2_with (first
            | (go_at_call 47; refine (spec_l19Ok _ _ _ es _ hmax h).mono ?_; rintro e' w1 ⟨rfl, hb1⟩; rw [g1]; have hbb := hb1)
            | (go_at_call 60; refine (spec_l19Id _ _).mono ?_; rintro e' w' ⟨rfl, rfl⟩; (first | rw [g2'] | rw [g4']))
            | (go_at_call 61; refine (spec_l19Find _ _ _ es _ _ hmax (h.on hbb)).mono ?_; rintro e' w2 ⟨rfl, hb2⟩; (first | rw [hf] | rw [hf2]); have hbb := below_then hbb hb2))
          go_ret2
          exact ⟨_, rfl, own_nil _ _ _ _ _, hbb⟩
      · have g4' : inR other 1 9999 = false := g4
        have hc : joinCode es id other = 2 := by simp [joinCode, g1, g2, g4]
        rw [hc, joinOut_neg (by omega)]
        clear hc
        go_enter Try.func41, Try.ntmps41
        go_wp2_with (first
          | (go_at_call 47; refine (spec_l19Ok _ _ _ es _ hmax h).mono ?_; rintro e' w1 ⟨rfl, hb1⟩; rw [g1]; have hbb := hb1)
          | (go_at_call 60; refine (spec_l19Id _ _).mono ?_; rintro e' w' ⟨rfl, rfl⟩; (first | rw [g2'] | rw [g4'])))
        go_ret2
        exact ⟨_, rfl, own_nil _ _ _ _ _, hbb⟩
    · have g2' : inR id 1 9999 = false := g2
      have hc : joinCode es id other = 2 := by simp [joinCode, g1, g2]
      rw [hc, joinOut_neg (by omega)]
      clear hc
      go_enter Try.func41, Try.ntmps41
      go_wp2_with (first
        | (go_at_call 47; refine (spec_l19Ok _ _ _ es _ hmax h).mono ?_; rintro e' w1 ⟨rfl, hb1⟩; rw [g1]; have hbb := hb1)
        | (go_at_call 60; refine (spec_l19Id _ _).mono ?_; rintro e' w' ⟨rfl, rfl⟩; rw [g2']))
      go_ret2
      exact ⟨_, rfl, own_nil _ _ _ _ _, hbb⟩
  · have hc : joinCode es id other = 1 := by simp [joinCode, g1]
    rw [hc, joinOut_neg (by omega)]
    clear hc
    go_enter Try.func41, Try.ntmps41
    go_wp2_with (go_at_call 47; refine (spec_l19Ok _ _ _ es _ hmax h).mono ?_; rintro e' w1 ⟨rfl, hb1⟩; rw [g1]; have hbb := hb1)
    go_ret2
    exact ⟨_, rfl, own_nil _ _ _ _ _, hbb⟩

end Go.Proofs.Ytiibamemkmffoaa

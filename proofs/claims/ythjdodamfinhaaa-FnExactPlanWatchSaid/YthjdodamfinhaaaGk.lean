/- Walks over functions of this seat, by contract. Conditions: those that each theorem states. -/
import Derived.Test.YthjdodamfinhaaaGj
namespace Go.Proofs.Ythjdodamfinhaaa
open Go.RowKit Go.Sort

set_option maxHeartbeats 4000000 in
set_option maxRecDepth 100000 in
theorem spec_PlanWatch (A : Option Addr) (n c : Nat) (es : List G3) (f t l r : Int) (w : World) (hmax : n ≤ 1048576) (hnm : ∀ e ∈ es, e.s.size ≤ 1048576) (h : Sl w w.heap.size 3 G3.cells A n es) :
    Calls Try.prog 39 #[.slice A n c, .int .i64 f, .int .i64 t, .int .i64 l, .int .i64 r] w fun e w' => ∃ v, e = .returned (.tuple #[v, .int .i64 (planCode es f t l r)]) ∧ Own w' w.heap.size 82 3 Q3.cells v (planOut es f t l r) ∧ Below w.heap.size w w' := by
  obtain ⟨i0, hi, hz0, hz1, hz2⟩ := info_parts info_i64
  obtain ⟨j0, ki, kz0, kz1, kz2⟩ := info_parts info_Shift
  obtain ⟨rg, hrg⟩ : ∃ r, guardsOk es = r := ⟨_, rfl⟩
  cases rg with
  | false =>
    have g0 := hrg
    clear hrg
    have hc := planCode_one (es := es) (f := f) (t := t) (l := l) (r := r) g0
    rw [planOut_neg (by rw [hc]; omega), hc]
    clear hc
    go_enter Try.func39, Try.ntmps39
    go_wp2_with (go_at_call 56; refine (spec_l17Ok _ _ _ es _ hmax hnm h).mono ?_; rintro e w1 ⟨rfl, hb1⟩; rw [g0])
    go_ret2
    exact ⟨_, rfl, own_nil _ _ _ _ _, hb1⟩
  | true =>
    have g0 := hrg
    clear hrg
    obtain ⟨bo0, hr0⟩ : ∃ bo : Bool, inR f 0 100000 = bo := ⟨_, rfl⟩
    cases bo0 with
    | false =>
      have g1 := hr0
      clear hr0
      have hc := planCode_bad (es := es) (f := f) (t := t) (l := l) (r := r) g0 (by rw [planOk, g1]; rfl)
      rw [planOut_neg (by rw [hc]; omega), hc]
      clear hc
      go_enter Try.func39, Try.ntmps39
      go_wp2_with (first
          | (go_at_call 56; refine (spec_l17Ok _ _ _ es _ hmax hnm h).mono ?_; rintro e w1 ⟨rfl, hb1⟩; rw [g0])
          | (go_at_call 76; refine (spec_l17Hour _ _).mono ?_; rintro e w' ⟨rfl, rfl⟩; (first | rw [g1])))
      go_ret2
      exact ⟨_, rfl, own_nil _ _ _ _ _, hb1⟩
    | true =>
      have g1 := hr0
      clear hr0
      obtain ⟨bo1, hr1⟩ : ∃ bo : Bool, inR t 0 100000 = bo := ⟨_, rfl⟩
      cases bo1 with
      | false =>
        have g2 := hr1
        clear hr1
        have hc := planCode_bad (es := es) (f := f) (t := t) (l := l) (r := r) g0 (by rw [planOk, g1, g2]; rfl)
        rw [planOut_neg (by rw [hc]; omega), hc]
        clear hc
        go_enter Try.func39, Try.ntmps39
        go_wp2_with (first
          | (go_at_call 56; refine (spec_l17Ok _ _ _ es _ hmax hnm h).mono ?_; rintro e w1 ⟨rfl, hb1⟩; rw [g0])
          | (go_at_call 76; refine (spec_l17Hour _ _).mono ?_; rintro e w' ⟨rfl, rfl⟩; (first | rw [g1] | rw [g2])))
        go_ret2
        exact ⟨_, rfl, own_nil _ _ _ _ _, hb1⟩
      | true =>
        have g2 := hr1
        clear hr1
        obtain ⟨bo2, hr2⟩ : ∃ bo : Bool, decide (f ≤ t) = bo := ⟨_, rfl⟩
        cases bo2 with
        | false =>
          have g3 := hr2
          clear hr2
          have hc := planCode_bad (es := es) (f := f) (t := t) (l := l) (r := r) g0 (by rw [planOk, g1, g2, g3]; rfl)
          rw [planOut_neg (by rw [hc]; omega), hc]
          clear hc
          have hft : t < f := by simpa using g3
          clear g3
          go_enter Try.func39, Try.ntmps39
          go_wp2_with (first
          | (go_at_call 56; refine (spec_l17Ok _ _ _ es _ hmax hnm h).mono ?_; rintro e w1 ⟨rfl, hb1⟩; rw [g0])
          | (go_at_call 76; refine (spec_l17Hour _ _).mono ?_; rintro e w' ⟨rfl, rfl⟩; (first | rw [g1] | rw [g2])))
          go_ret2
          exact ⟨_, rfl, own_nil _ _ _ _ _, hb1⟩
        | true =>
          have g3 := hr2
          clear hr2
          obtain ⟨bo3, hr3⟩ : ∃ bo : Bool, inR l 1 24 = bo := ⟨_, rfl⟩
          cases bo3 with
          | false =>
            have g4 := hr3
            clear hr3
            have hc := planCode_bad (es := es) (f := f) (t := t) (l := l) (r := r) g0 (by rw [planOk, g1, g2, g3, g4]; rfl)
            rw [planOut_neg (by rw [hc]; omega), hc]
            clear hc
            have hft : f ≤ t := by simpa using g3
            clear g3
            go_enter Try.func39, Try.ntmps39
            go_wp2_with (first
          | (go_at_call 56; refine (spec_l17Ok _ _ _ es _ hmax hnm h).mono ?_; rintro e w1 ⟨rfl, hb1⟩; rw [g0])
          | (go_at_call 76; refine (spec_l17Hour _ _).mono ?_; rintro e w' ⟨rfl, rfl⟩; (first | rw [g1] | rw [g2]))
          | (go_at_call 64; refine (spec_l00In _ _ _ _).mono ?_; rintro e w' ⟨rfl, rfl⟩; (first | rw [g4])))
            go_ret2
            exact ⟨_, rfl, own_nil _ _ _ _ _, hb1⟩
          | true =>
            have g4 := hr3
            clear hr3
            obtain ⟨bo4, hr4⟩ : ∃ bo : Bool, inR r 0 100 = bo := ⟨_, rfl⟩
            cases bo4 with
            | false =>
              have g5 := hr4
              clear hr4
              have hc := planCode_bad (es := es) (f := f) (t := t) (l := l) (r := r) g0 (by rw [planOk, g1, g2, g3, g4, g5]; rfl)
              rw [planOut_neg (by rw [hc]; omega), hc]
              clear hc
              have hft : f ≤ t := by simpa using g3
              clear g3
              go_enter Try.func39, Try.ntmps39
              go_wp2_with (first
          | (go_at_call 56; refine (spec_l17Ok _ _ _ es _ hmax hnm h).mono ?_; rintro e w1 ⟨rfl, hb1⟩; rw [g0])
          | (go_at_call 76; refine (spec_l17Hour _ _).mono ?_; rintro e w' ⟨rfl, rfl⟩; (first | rw [g1] | rw [g2]))
          | (go_at_call 64; refine (spec_l00In _ _ _ _).mono ?_; rintro e w' ⟨rfl, rfl⟩; (first | rw [g4] | rw [g5])))
              go_ret2
              exact ⟨_, rfl, own_nil _ _ _ _ _, hb1⟩
            | true =>
              have g5 := hr4
              clear hr4
              obtain ⟨f0, f1⟩ := inR_iff.1 g1
              obtain ⟨t0, t1⟩ := inR_iff.1 g2
              obtain ⟨l0, l1⟩ := inR_iff.1 g4
              obtain ⟨r0, r1⟩ := inR_iff.1 g5
              have hft : f ≤ t := by simpa using g3
              have hpc := planCode_ok (es := es) (f := f) (t := t) (l := l) (r := r) g0 (by rw [planOk, g1, g2, g3, g4, g5]; rfl)
              rw [h.len] at hpc
              have Hpc := Lib.hid hpc
              have Hn := Lib.hid h.len
              clear g3 hpc
              have hmk := make_all Try.underlying39 hi hz0 n (by rw [hz2]; omega) (by omega)
              rw [hz1, Nat.mul_one] at hmk
              clear hi hz0 hz1 hz2
              go_enter Try.func39, Try.ntmps39
              go_wp2_with (first
          | (go_at_call 56; refine (spec_l17Ok _ _ _ es _ hmax hnm h).mono ?_; rintro e w1 ⟨rfl, hb1⟩; rw [g0])
          | (go_at_call 76; refine (spec_l17Hour _ _).mono ?_; rintro e w' ⟨rfl, rfl⟩; (first | rw [g1] | rw [g2]))
          | (go_at_call 64; refine (spec_l00In _ _ _ _).mono ?_; rintro e w' ⟨rfl, rfl⟩; (first | rw [g4] | rw [g5])))
              clear hmk g0 g1 g2 g4 g5
              have hE := own_new_empty w1 w.heap.size 82 3 Q3.cells hb1.size
              obtain ⟨we, hwe⟩ : ∃ we, we = w1.alloc (.cells #[] 82) := ⟨_, rfl⟩
              have hbe : Below w.heap.size w we := by rw [hwe]; exact below_al hb1 _
              have hge : we.heap.size = w1.heap.size + 1 := by rw [hwe]; simp
              rw [← hwe] at hE
              rw [← hwe]
              clear hwe
              have hO := own_alloc hE (.cells (madeCells #[.int .i64 0] n) 2)
              have hA := own_ne_hi hE (own_zeros we 2 n (by omega)) (Nat.le_refl _)
              have HFz := Lib.hid (own_zeros we 2 n (by omega))
              have HO := Lib.hid hO
              have HA := Lib.hid hA
              clear hO hA hE
              have hbel1 := below_al hbe (.cells (madeCells #[.int .i64 0] n) 2)
              have Hbase : Hid (w.heap.size ≤ we.heap.size) := hbe.size
              rw [← hge]
              clear hge
              go_loopw [12, 14] (fun v p wr => ∃ (fu : Nat) (m : Int) (fr : List Int) (out : List Q3), p = .int .i64 m ∧ f ≤ m ∧ m ≤ t ∧ t < m + fu ∧ out.length ≤ 40 ∧ fr.length = n ∧ Hid (pgo t l r fu m fr out = planAll n f t l r) ∧ Hid (Own wr we.heap.size 2 1 icell (.slice (some ⟨we.heap.size, 0, none⟩) n n) fr) ∧ Hid (Own wr w.heap.size 82 3 Q3.cells v out) ∧ Hid ((Value.slice (some ⟨we.heap.size, 0, none⟩) n n).ownBlock = none ∨ (Value.slice (some ⟨we.heap.size, 0, none⟩) n n).ownBlock ≠ v.ownBlock) ∧ Below w.heap.size w wr) (fun _ p _ => (t - intOf p).toNat)
              case atStart => exact ⟨(t - f).toNat + 1, f, List.replicate n 0, [], rfl, by omega, by omega, by omega, by simp, by simp, Lib.hid rfl, Lib.hid HFz.out, Lib.hid HO.out, Lib.hid HA.out, hbel1⟩
              case round =>
                obtain ⟨fu, m, fr, out, rfl, hfm, hmt, hfu, hol, hfl, Hgo, HF, HOw, HAp, hbel⟩ := hrel
                obtain ⟨A3, n3, c3, rfl, hl3, _⟩ := own_shape HOw.out
                have hfr := fun o => own_free HF.out o
                by_cases hlt : m < t
                · obtain ⟨wo, hwo⟩ : ∃ wo : World, wo = wr := ⟨_, rfl⟩
                  subst hwo
                  have hgl : we.heap.size < wo.heap.size := (World.ownsRow.lt HF.out _ rfl).2
                  have Hgl := Lib.hid hgl
                  have Hfl := Lib.hid hfl
                  have Hl3 := Lib.hid hl3
                  clear hfr
                  go_wp2
                  go_loopw [15, 16] (fun bs i wz => ∃ (k : Nat) (bb : Int), k ≤ n ∧ i = .int .i64 k ∧ bs = .int .i64 bb ∧ Hid (bestN fr m k = bb) ∧ Below wo.heap.size wo wz) (fun _ i _ => n - (intOf i).toNat)
                  case atStart => exact ⟨0, -1, by omega, rfl, rfl, Lib.hid rfl, Below.refl _ _⟩
                  case round =>
                    obtain ⟨k, bb, hk, rfl, rfl, Hb, hbz⟩ := hrel
                    by_cases hlk : k < n
                    · obtain ⟨x, hx⟩ : ∃ x, fr[k]? = some x := ⟨fr[k]'(by rw [Hfl.out]; exact hlk), List.getElem?_eq_getElem _⟩
                      have y0 := cell_on ((own_has HF.out icell_len).i1 hx) hbz Hgl.out
                      rw [Nat.zero_add] at y0
                      have Hs := Lib.hid (bestN_succ (m := m) hx)
                      have Hx := Lib.hid (freeOf_at hx)
                      have hk0 : (0 : Int) ≤ (k : Int) := by omega
                      have hkn : (k : Int) < (n : Int) := by omega
                      clear hx
                      have hbo := hbz.size
                      have y0c := fun d os => cell_regrown y0 d os
                      have y0z : wr.cell? ⟨we.heap.size, 0 + k, none⟩ = some (.int .i64 x) := by rw [Nat.zero_add]; exact y0
                      have y0e := fun d os => cell_regrown y0z d os
                      by_cases hxm : x ≤ m
                      · have hxd : decide (x ≤ m) = true := by simpa using hxm
                        by_cases hneg : bb < 0
                        · have hnd : decide (bb < 0) = true := by simpa using hneg
                          go_wp2_with fail
                          refine wp_region_quiet_below (by kernel_rfl) (by kernel_rfl) ?_
                          repeat (go_big_quiet_step (fail))
                          refine wpQuiet_nil ?_
                          intro wq hwq
                          have hbq := below_then hbz (below_of_class hwq)
                          clear hwq
                          go_wp2_with fail
                          go_roundw
                          case rel => exact ⟨k + 1, (k : Int), by omega, by go_num, rfl, Lib.hid (by rw [Hs.out, bNext, if_pos ⟨hxm, .inl (by rw [Hb.out]; exact hneg)⟩]), hbq⟩
                          case measure => simp [intOf]; omega
                        · have hnd : decide (bb < 0) = false := by simpa using hneg
                          obtain ⟨j, hj, hjk⟩ : ∃ j : Nat, bb = (j : Int) ∧ j < k := by
                            rcases bestN_bd fr m k with h1 | ⟨j, h1, h2, _⟩
                            · rw [Hb.out] at h1; omega
                            · exact ⟨j, by rw [← Hb.out, h1], h2⟩
                          subst hj
                          obtain ⟨y, hy⟩ : ∃ y, fr[j]? = some y := ⟨fr[j]'(by rw [Hfl.out]; omega), List.getElem?_eq_getElem _⟩
                          have d0 := cell_on ((own_has HF.out icell_len).i1 hy) hbz Hgl.out
                          rw [Nat.zero_add] at d0
                          have Hy := Lib.hid (freeOf_at hy)
                          have hj0 : (0 : Int) ≤ (j : Int) := by omega
                          have hjn : (j : Int) < (n : Int) := by omega
                          clear hy
                          have d0c := fun d os => cell_regrown d0 d os
                          have d0z : wr.cell? ⟨we.heap.size, 0 + j, none⟩ = some (.int .i64 y) := by rw [Nat.zero_add]; exact d0
                          have d0e := fun d os => cell_regrown d0z d os
                          by_cases hxy : x < y
                          · have hxyd : decide (x < y) = true := by simpa using hxy
                            go_wp2_with fail
                            refine wp_region_quiet_below (by kernel_rfl) (by kernel_rfl) ?_
                            repeat (go_big_quiet_step (fail))
                            refine wpQuiet_nil ?_
                            intro wq hwq
                            have hbq := below_then hbz (below_of_class hwq)
                            clear hwq
                            go_wp2_with fail
                            go_roundw
                            case rel => exact ⟨k + 1, (k : Int), by omega, by go_num, rfl, Lib.hid (by rw [Hs.out, bNext, if_pos ⟨hxm, .inr (by rw [Hb.out, Hy.out]; exact hxy)⟩]), hbq⟩
                            case measure => simp [intOf]; omega
                          · have hxyd : decide (x < y) = false := by simpa using hxy
                            go_wp2_with fail
                            refine wp_region_quiet_below (by kernel_rfl) (by kernel_rfl) ?_
                            repeat (go_big_quiet_step (fail))
                            refine wpQuiet_nil ?_
                            intro wq hwq
                            have hbq := below_then hbz (below_of_class hwq)
                            clear hwq
                            go_wp2_with fail
                            go_roundw
                            case rel => exact ⟨k + 1, (j : Int), by omega, by go_num, rfl, Lib.hid (by rw [Hs.out, bNext, if_neg (by rw [Hb.out, Hy.out]; omega)]; exact Hb.out), hbq⟩
                            case measure => simp [intOf]; omega
                      · have hxd : decide (x ≤ m) = false := by simpa using hxm
                        go_wp2_with fail
                        refine wp_region_quiet_below (by kernel_rfl) (by kernel_rfl) ?_
                        repeat (go_big_quiet_step (fail))
                        refine wpQuiet_nil ?_
                        intro wq hwq
                        have hbq := below_then hbz (below_of_class hwq)
                        clear hwq
                        go_wp2_with fail
                        go_roundw
                        case rel => exact ⟨k + 1, bb, by omega, by go_num, rfl, Lib.hid (by rw [Hs.out, bNext, if_neg (by omega)]; exact Hb.out), hbq⟩
                        case measure => simp [intOf]; omega
                    · have hkn : k = n := by omega
                      subst hkn
                      have hbw := below_then hbel hbz
                      have HF2 := Lib.hid (Own.below HF.out hbz (Nat.le_refl _))
                      have HO2 := Lib.hid (Own.below HOw.out hbz (Nat.le_refl _))
                      have Hb2 : Hid (bestN fr m fr.length = bb) := by show bestN fr m fr.length = bb; rw [Hfl.out]; exact Hb.out
                      by_cases hneg : bb < 0
                      · have hno := pgo_none (long := l) (rest := r) (out := out) hfu hlt (by rw [Hb2.out]; exact hneg)
                        rw [Hgo.out] at hno
                        have Hc : Hid (planCode es f t l r = 3) := by show planCode es f t l r = 3; rw [Hpc.out, hno]
                        clear hno
                        go_wp2_with fail
                        go_ret2
                        exact ⟨_, by rw [Hc.out]; rfl, by rw [planOut_neg (by rw [Hc.out]; omega)]; exact own_nil _ _ _ _ _, hbw⟩
                      · by_cases h40 : 40 ≤ n3
                        · have hno := pgo_full (long := l) (rest := r) hfu hlt (by rw [Hb2.out]; exact hneg) (show 40 ≤ out.length by rw [Hl3.out]; exact h40)
                          rw [Hgo.out] at hno
                          have Hc : Hid (planCode es f t l r = 5) := by show planCode es f t l r = 5; rw [Hpc.out, hno]
                          clear hno
                          obtain rfl : n3 = 40 := by have := Hl3.out; omega
                          go_wp2_with fail
                          go_ret2
                          exact ⟨_, by rw [Hc.out]; rfl, by rw [planOut_neg (by rw [Hc.out]; omega)]; exact own_nil _ _ _ _ _, hbw⟩
                        · obtain ⟨j, hj, hjk⟩ : ∃ j : Nat, bb = (j : Int) ∧ j < k := by
                            rcases bestN_bd fr m k with h1 | ⟨j, h1, h2, _⟩
                            · rw [Hb.out] at h1; omega
                            · exact ⟨j, by rw [← Hb.out, h1], h2⟩
                          subst hj
                          have hst := pgo_step (rest := r) (out := out) l0 hfu hlt Hb2.out (by rw [Hl3.out]; exact h40) (show min t (m + l) = (min t (m + l)) from by omega)
                          have Hst := Lib.hid hst.1
                          have hfu2 := hst.2
                          clear hst
                          have hw1 : IntKind.i64.wrap (m + l) = m + l := IntWalk.i64_in _ (by omega)
                          have hw2 : IntKind.i64.wrap ((min t (m + l)) + r) = (min t (m + l)) + r := IntWalk.i64_in _ (by omega)
                          have hj0 : (0 : Int) ≤ (j : Int) := by omega
                          have hjn : (j : Int) < (k : Int) := by omega
                          have h40' : (n3 : Int) < 40 := by omega
                          obtain ⟨xo, hxo⟩ : ∃ x, fr[j]? = some x := ⟨fr[j]'(by rw [Hfl.out]; exact hjk), List.getElem?_eq_getElem _⟩
                          have Hxo := Lib.hid hxo
                          clear hxo
                          have hgw : we.heap.size < wr.heap.size := by have := Hgl.out; have := hbz.size; omega
                          have hgw2 : ¬ we.heap.size = wr.heap.size := by omega
                          have hgw3 : ¬ wr.heap.size = we.heap.size := by omega
                          go_wp2_with (first
          | (at_builtin; refine wpList_push_at rfl _ _ 49 rfl w.heap.size 82 j0 _ 3 24 Try.underlying49 ki kz0 kz1 kz2 rfl (by omega) Q3.cells_len q3_one _ _ (⟨(j : Int), m, (min t (m + l))⟩ : Q3) rfl (own_alloc HO2.out _) _ rfl _ rfl (by first | rfl | simp) (by rw [Hl3.out]; omega) (by omega) (below_al hbw _).size ?_; intro v4 w4 ho4 hg4 hat4; have hbel4 := own_grown (below_al hbw _) (own_alloc HO2.out _) (Nat.le_refl _) (below_al hbw _).size hg4; have HF4 := Lib.hid (own_other (own_alloc HF2.out _) HAp.out hg4); have HA4 := Lib.hid (apart_next (own_alloc HF2.out _) HAp.out (Nat.le_succ _) hat4); have Ho4 := Lib.hid ho4; have hgl4 : we.heap.size < w4.heap.size := (World.ownsRow.lt HF4.out _ rfl).2; have hfr4 := own_free HF4.out j; have z0 := (own_has HF4.out icell_len).i1 Hxo.out; rw [Nat.zero_add] at z0; obtain ⟨q0, q1, q2⟩ := box3g hg4 (ne_box HO2.out); clear ho4 hat4)
          | (go_at_call 77; refine (spec_l00Min _ _ _).mono ?_; rintro ev w' ⟨rfl, rfl⟩))
                          go_roundw
                          case rel =>
                            have hs4 := Own.store (u := .int .i64 ((min t (m + l)) + r)) (e' := (min t (m + l)) + r) (j := 0) icell_len HF4.out Hxo.out (by omega) rfl
                            rw [Nat.mul_one, Nat.add_zero] at hs4
                            exact ⟨fu - 1, (min t (m + l)), fr.set j ((min t (m + l)) + r), out ++ [⟨(j : Int), m, (min t (m + l))⟩], rfl, by omega, by omega, hfu2, by (have := Hl3.out; simp; omega), by (rw [List.length_set]; exact Hfl.out), Lib.hid (by rw [← Hst.out]; exact Hgo.out), Lib.hid hs4, Lib.hid (own_st_other Ho4.out (ne_swap HA4.out) _ _), Lib.hid HA4.out, below_st hbel4 _ Hbase.out _⟩
                          case measure => simp [intOf]; omega
                · have hend := pgo_end (to := t) (long := l) (rest := r) (m := m) (f := fu) (fr := fr) (out := out) (by omega)
                  rw [Hgo.out] at hend
                  have Hc : Hid (planCode es f t l r = 0) := by show planCode es f t l r = 0; rw [Hpc.out, hend]
                  have Hr : Hid (planOut es f t l r = out) := planOut_ok Hc.out (by rw [Hn.out]; exact hend)
                  clear hend hfr
                  go_wp2
                  go_ret2
                  exact ⟨_, by rw [Hc.out]; rfl, by rw [Hr.out]; exact HOw.out, hbel⟩

end Go.Proofs.Ythjdodamfinhaaa

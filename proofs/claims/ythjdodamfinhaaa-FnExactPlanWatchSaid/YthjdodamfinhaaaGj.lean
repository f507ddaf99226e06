/- Walks over functions of this seat, by contract. Conditions: those that each theorem states. -/
import Derived.Test.YthjdodamfinhaaaGh
namespace Go.Proofs.Ythjdodamfinhaaa
open Go.RowKit Go.Sort

theorem planCode_bad {es : List G3} {f t l r : Int} (g : guardsOk es = true) (h : planOk f t l r = false) : planCode es f t l r = 2 := by unfold planCode; rw [if_neg (by simp [g]), if_pos h]
theorem planCode_one {es : List G3} {f t l r : Int} (g : guardsOk es = false) : planCode es f t l r = 1 := by unfold planCode; rw [if_pos g]
theorem planCode_ok {es : List G3} {f t l r : Int} (g : guardsOk es = true) (h : planOk f t l r = true) : planCode es f t l r = (planAll es.length f t l r).1 := by unfold planCode; rw [if_neg (by simp [g]), if_neg (by simp [h])]
theorem planOut_ok {es : List G3} {f t l r : Int} {out : List Q3} (hc : planCode es f t l r = 0) (h : planAll es.length f t l r = (0, out)) : planOut es f t l r = out := by unfold planOut; rw [if_pos hc, h]
theorem own_st_other {W : World} {b E s g : Nat} {α : Type} {f : α → List Value} {v : Value} {l : List α} (h : Own W b E s f v l) (hne : v.ownBlock = none ∨ v.ownBlock ≠ some g) (o : Nat) (u : Value) : Own (W.setCell ⟨g, o, none⟩ u) b E s f v l :=
  own_other h hne (only_st (by exact ⟨rfl, rfl, rfl, Nat.le_refl _, fun _ _ _ => rfl⟩) o u)
theorem box3g {W w4 : World} {v0 v1 v2 : Value} {E : Nat} {row : Option Nat} (hg : (W.alloc (.cells #[v0, v1, v2] E)).grownBy w4 row) (hne : row ≠ some W.heap.size) :
    w4.cell? ⟨W.heap.size, 0, none⟩ = some v0 ∧ w4.cell? ⟨W.heap.size, 1, none⟩ = some v1 ∧ w4.cell? ⟨W.heap.size, 2, none⟩ = some v2 := by
  have hb := hg.block W.heap.size (by simp) (by first | exact hne | exact fun e => hne e.symm)
  rw [heap_alloc_new] at hb
  exact ⟨cell_of_row _ _ 0 _ _ _ hb, cell_of_row _ _ 1 _ _ _ hb, cell_of_row _ _ 2 _ _ _ hb⟩
theorem ne_box {W : World} {b E s : Nat} {α : Type} {f : α → List Value} {v : Value} {l : List α} (h : Own W b E s f v l) : v.ownBlock ≠ some W.heap.size := fun e => by
  have := (World.ownsRow.lt h _ e).2
  omega
theorem ne_swap {v : Value} {g n c : Nat} (h : (Value.slice (some ⟨g, 0, none⟩) n c).ownBlock = none ∨ (Value.slice (some ⟨g, 0, none⟩) n c).ownBlock ≠ v.ownBlock) : v.ownBlock = none ∨ v.ownBlock ≠ some g := by
  rcases h with h | h
  · cases h
  · exact .inr fun e => h (by rw [e]; rfl)
set_option maxHeartbeats 4000000 in
set_option maxRecDepth 100000 in
theorem impl_PlanWatch (A : Option Addr) (n c : Nat) (es : List G3) (f t l r : Int) (w : World) (hmax : n ≤ 1048576) (hnm : ∀ e ∈ es, e.s.size ≤ 1048576) (h : Sl w w.heap.size 3 G3.cells A n es) :
    Calls Try.prog 40 #[.slice A n c, .int .i64 f, .int .i64 t, .int .i64 l, .int .i64 r] w fun e w' => ∃ v, e = .returned (.tuple #[v, .int .i64 (planCode es f t l r)]) ∧ Own w' w.heap.size 82 3 Q3.cells v (planOut es f t l r) ∧ Below w.heap.size w w' := by
  obtain ⟨i0, hi, hz0, hz1, hz2⟩ := info_parts info_i64
  obtain ⟨j0, ki, kz0, kz1, kz2⟩ := info_parts info_Shift
  obtain ⟨rg, hrg⟩ : ∃ r, guardsOk es = r := ⟨_, rfl⟩
  cases rg with
  | false =>
    have g0 := hrg
    clear hrg
    have hc := planCode_one (es := es) (f := f) (t := t) (l := l) (r := r) g0
    rw [planOut_neg (by rw [hc]; omega), hc]
    clear hc
    go_enter Try.func40, Try.ntmps40
    go_wp2_with (go_at_call 20; refine (impl_ValidGuards _ _ _ es _ hmax hnm h).mono ?_; rintro e w1 ⟨rfl, hb1⟩; rw [g0])
    go_ret2
    exact ⟨_, rfl, own_new_empty _ _ _ _ _ hb1.size, below_al hb1 _⟩
  | true =>
    have g0 := hrg
    clear hrg
    obtain ⟨bo0, hr0⟩ : ∃ bo : Bool, inR f 0 100000 = bo := ⟨_, rfl⟩
    cases bo0 with
    | false =>
      have g1 := hr0
      clear hr0
      have hc := planCode_bad (es := es) (f := f) (t := t) (l := l) (r := r) g0 (by rw [planOk, g1]; rfl)
      rw [planOut_neg (by rw [hc]; omega), hc]
      clear hc
      go_enter Try.func40, Try.ntmps40
      go_wp2_with (first
          | (go_at_call 20; refine (impl_ValidGuards _ _ _ es _ hmax hnm h).mono ?_; rintro e w1 ⟨rfl, hb1⟩; rw [g0])
          | (go_at_call 78; refine (impl_ValidDay _ _).mono ?_; rintro e w' ⟨rfl, rfl⟩; (first | rw [g1])))
      go_ret2
      exact ⟨_, rfl, own_new_empty _ _ _ _ _ hb1.size, below_al hb1 _⟩
    | true =>
      have g1 := hr0
      clear hr0
      obtain ⟨bo1, hr1⟩ : ∃ bo : Bool, inR t 0 100000 = bo := ⟨_, rfl⟩
      cases bo1 with
      | false =>
        have g2 := hr1
        clear hr1
        have hc := planCode_bad (es := es) (f := f) (t := t) (l := l) (r := r) g0 (by rw [planOk, g1, g2]; rfl)
        rw [planOut_neg (by rw [hc]; omega), hc]
        clear hc
        go_enter Try.func40, Try.ntmps40
        go_wp2_with (first
          | (go_at_call 20; refine (impl_ValidGuards _ _ _ es _ hmax hnm h).mono ?_; rintro e w1 ⟨rfl, hb1⟩; rw [g0])
          | (go_at_call 78; refine (impl_ValidDay _ _).mono ?_; rintro e w' ⟨rfl, rfl⟩; (first | rw [g1] | rw [g2])))
        go_ret2
        exact ⟨_, rfl, own_new_empty _ _ _ _ _ hb1.size, below_al hb1 _⟩
      | true =>
        have g2 := hr1
        clear hr1
        obtain ⟨bo2, hr2⟩ : ∃ bo : Bool, decide (f ≤ t) = bo := ⟨_, rfl⟩
        cases bo2 with
        | false =>
          have g3 := hr2
          clear hr2
          have hc := planCode_bad (es := es) (f := f) (t := t) (l := l) (r := r) g0 (by rw [planOk, g1, g2, g3]; rfl)
          rw [planOut_neg (by rw [hc]; omega), hc]
          clear hc
          have hft : t < f := by simpa using g3
          clear g3
          go_enter Try.func40, Try.ntmps40
          go_wp2_with (first
          | (go_at_call 20; refine (impl_ValidGuards _ _ _ es _ hmax hnm h).mono ?_; rintro e w1 ⟨rfl, hb1⟩; rw [g0])
          | (go_at_call 78; refine (impl_ValidDay _ _).mono ?_; rintro e w' ⟨rfl, rfl⟩; (first | rw [g1] | rw [g2])))
          go_ret2
          exact ⟨_, rfl, own_new_empty _ _ _ _ _ hb1.size, below_al hb1 _⟩
        | true =>
          have g3 := hr2
          clear hr2
          obtain ⟨bo3, hr3⟩ : ∃ bo : Bool, inR l 1 24 = bo := ⟨_, rfl⟩
          cases bo3 with
          | false =>
            have g4 := hr3
            clear hr3
            have hc := planCode_bad (es := es) (f := f) (t := t) (l := l) (r := r) g0 (by rw [planOk, g1, g2, g3, g4]; rfl)
            rw [planOut_neg (by rw [hc]; omega), hc]
            clear hc
            have hft : f ≤ t := by simpa using g3
            clear g3
            go_enter Try.func40, Try.ntmps40
            go_wp2_with (first
          | (go_at_call 20; refine (impl_ValidGuards _ _ _ es _ hmax hnm h).mono ?_; rintro e w1 ⟨rfl, hb1⟩; rw [g0])
          | (go_at_call 78; refine (impl_ValidDay _ _).mono ?_; rintro e w' ⟨rfl, rfl⟩; (first | rw [g1] | rw [g2]))
          | (go_at_call 65; refine (impl_in _ _ _ _).mono ?_; rintro e w' ⟨rfl, rfl⟩; (first | rw [g4])))
            go_ret2
            exact ⟨_, rfl, own_new_empty _ _ _ _ _ hb1.size, below_al hb1 _⟩
          | true =>
            have g4 := hr3
            clear hr3
            obtain ⟨bo4, hr4⟩ : ∃ bo : Bool, inR r 0 100 = bo := ⟨_, rfl⟩
            cases bo4 with
            | false =>
              have g5 := hr4
              clear hr4
              have hc := planCode_bad (es := es) (f := f) (t := t) (l := l) (r := r) g0 (by rw [planOk, g1, g2, g3, g4, g5]; rfl)
              rw [planOut_neg (by rw [hc]; omega), hc]
              clear hc
              have hft : f ≤ t := by simpa using g3
              clear g3
              go_enter Try.func40, Try.ntmps40
              go_wp2_with (first
          | (go_at_call 20; refine (impl_ValidGuards _ _ _ es _ hmax hnm h).mono ?_; rintro e w1 ⟨rfl, hb1⟩; rw [g0])
          | (go_at_call 78; refine (impl_ValidDay _ _).mono ?_; rintro e w' ⟨rfl, rfl⟩; (first | rw [g1] | rw [g2]))
          | (go_at_call 65; refine (impl_in _ _ _ _).mono ?_; rintro e w' ⟨rfl, rfl⟩; (first | rw [g4] | rw [g5])))
              go_ret2
              exact ⟨_, rfl, own_new_empty _ _ _ _ _ hb1.size, below_al hb1 _⟩
            | true =>
              have g5 := hr4
              clear hr4
              obtain ⟨f0, f1⟩ := inR_iff.1 g1
              obtain ⟨t0, t1⟩ := inR_iff.1 g2
              obtain ⟨l0, l1⟩ := inR_iff.1 g4
              obtain ⟨r0, r1⟩ := inR_iff.1 g5
              have hft : f ≤ t := by simpa using g3
              have hpc := planCode_ok (es := es) (f := f) (t := t) (l := l) (r := r) g0 (by rw [planOk, g1, g2, g3, g4, g5]; rfl)
              rw [h.len] at hpc
              have Hpc := Lib.hid hpc
              have Hn := Lib.hid h.len
              clear g3 hpc
              have hmk := make_all Try.underlying39 hi hz0 n (by rw [hz2]; omega) (by omega)
              rw [hz1, Nat.mul_one] at hmk
              clear hi hz0 hz1 hz2
              go_enter Try.func40, Try.ntmps40
              go_wp2_with (first
          | (go_at_call 20; refine (impl_ValidGuards _ _ _ es _ hmax hnm h).mono ?_; rintro e w1 ⟨rfl, hb1⟩; rw [g0])
          | (go_at_call 78; refine (impl_ValidDay _ _).mono ?_; rintro e w' ⟨rfl, rfl⟩; (first | rw [g1] | rw [g2]))
          | (go_at_call 65; refine (impl_in _ _ _ _).mono ?_; rintro e w' ⟨rfl, rfl⟩; (first | rw [g4] | rw [g5])))
              clear hmk g0 g1 g2 g4 g5
              have HFz := Lib.hid (own_alloc (own_zeros w1 2 n (by omega)) (.cells #[] 82))
              have hO := own_new_empty (w1.alloc (.cells (madeCells #[.int .i64 0] n) 2)) (w1.alloc (.cells (madeCells #[.int .i64 0] n) 2)).heap.size 82 3 Q3.cells (Nat.le_refl _)
              have hA := own_ne_lo (own_zeros w1 2 n (by omega)) hO (Nat.le_refl _)
              have hO2 : Own _ w.heap.size 82 3 Q3.cells _ [] := hO.base_le (by have := hb1.size; simp; omega)
              have HO := Lib.hid hO2
              rw [show (w1.alloc (.cells (madeCells #[.int .i64 0] n) 2)).heap.size = w1.heap.size + 1 from by simp] at hO2 hA
              have HO := Lib.hid hO2
              have HA := Lib.hid hA
              clear hO hA hO2
              have hbel1 := below_al (below_al hb1 (.cells (madeCells #[.int .i64 0] n) 2)) (.cells #[] 82)
              have Hbase : Hid (w.heap.size ≤ w1.heap.size) := hb1.size
              go_loopw [1, 13] (fun p v wr => ∃ (fu : Nat) (m : Int) (fr : List Int) (out : List Q3), p = .int .i64 m ∧ f ≤ m ∧ m ≤ t ∧ t < m + fu ∧ out.length ≤ 40 ∧ fr.length = n ∧ Hid (pgo t l r fu m fr out = planAll n f t l r) ∧ Hid (Own wr w1.heap.size 2 1 icell (.slice (some ⟨w1.heap.size, 0, none⟩) n n) fr) ∧ Hid (Own wr w.heap.size 82 3 Q3.cells v out) ∧ Hid ((Value.slice (some ⟨w1.heap.size, 0, none⟩) n n).ownBlock = none ∨ (Value.slice (some ⟨w1.heap.size, 0, none⟩) n n).ownBlock ≠ v.ownBlock) ∧ Below w.heap.size w wr) (fun p _ _ => (t - intOf p).toNat)
              case atStart => exact ⟨(t - f).toNat + 1, f, List.replicate n 0, [], rfl, by omega, by omega, by omega, by simp, by simp, Lib.hid rfl, Lib.hid HFz.out, Lib.hid HO.out, Lib.hid HA.out, hbel1⟩
              case round =>
                obtain ⟨fu, m, fr, out, rfl, hfm, hmt, hfu, hol, hfl, Hgo, HF, HOw, HAp, hbel⟩ := hrel
                obtain ⟨A3, n3, c3, rfl, hl3, _⟩ := own_shape HOw.out
                have hfr := fun o => own_free HF.out o
                by_cases hlt : m < t
                · obtain ⟨wo, hwo⟩ : ∃ wo : World, wo = wr := ⟨_, rfl⟩
                  subst hwo
                  have hgl : w1.heap.size < wo.heap.size := (World.ownsRow.lt HF.out _ rfl).2
                  have Hgl := Lib.hid hgl
                  have Hfl := Lib.hid hfl
                  have Hl3 := Lib.hid hl3
                  clear hfr
                  go_wp2
                  go_loopw [14, 57] (fun bs i wz => ∃ (k : Nat) (bb : Int), k ≤ n ∧ i = .int .i64 k ∧ bs = .int .i64 bb ∧ Hid (bestN fr m k = bb) ∧ Below wo.heap.size wo wz) (fun _ i _ => n - (intOf i).toNat)
                  case atStart => exact ⟨0, -1, by omega, rfl, rfl, Lib.hid rfl, Below.refl _ _⟩
                  case round =>
                    obtain ⟨k, bb, hk, rfl, rfl, Hb, hbz⟩ := hrel
                    by_cases hlk : k < n
                    · obtain ⟨x, hx⟩ : ∃ x, fr[k]? = some x := ⟨fr[k]'(by rw [Hfl.out]; exact hlk), List.getElem?_eq_getElem _⟩
                      have y0 := cell_on ((own_has HF.out icell_len).i1 hx) hbz Hgl.out
                      rw [Nat.zero_add] at y0
                      have Hs := Lib.hid (bestN_succ (m := m) hx)
                      have Hx := Lib.hid (freeOf_at hx)
                      have hk0 : (0 : Int) ≤ (k : Int) := by omega
                      have hkn : (k : Int) < (n : Int) := by omega
                      clear hx
                      have hbo := hbz.size
                      by_cases hxm : x ≤ m
                      · have hxd : decide (x ≤ m) = true := by simpa using hxm
                        by_cases hneg : bb < 0
                        · have hnd : decide (bb < 0) = true := by simpa using hneg
                          go_wp2_with fail
                          go_roundw
                          case rel => exact ⟨k + 1, (k : Int), by omega, by go_num, rfl, Lib.hid (by rw [Hs.out, bNext, if_pos ⟨hxm, .inl (by rw [Hb.out]; exact hneg)⟩]), hbz⟩
                          case measure => simp [intOf]; omega
                        · have hnd : decide (bb < 0) = false := by simpa using hneg
                          obtain ⟨j, hj, hjk⟩ : ∃ j : Nat, bb = (j : Int) ∧ j < k := by
                            rcases bestN_bd fr m k with h1 | ⟨j, h1, h2, _⟩
                            · rw [Hb.out] at h1; omega
                            · exact ⟨j, by rw [← Hb.out, h1], h2⟩
                          subst hj
                          obtain ⟨y, hy⟩ : ∃ y, fr[j]? = some y := ⟨fr[j]'(by rw [Hfl.out]; omega), List.getElem?_eq_getElem _⟩
                          have d0 := cell_on ((own_has HF.out icell_len).i1 hy) hbz Hgl.out
                          rw [Nat.zero_add] at d0
                          have Hy := Lib.hid (freeOf_at hy)
                          have hj0 : (0 : Int) ≤ (j : Int) := by omega
                          have hjn : (j : Int) < (n : Int) := by omega
                          clear hy
                          by_cases hxy : x < y
                          · have hxyd : decide (x < y) = true := by simpa using hxy
                            go_wp2_with fail
                            go_roundw
                            case rel => exact ⟨k + 1, (k : Int), by omega, by go_num, rfl, Lib.hid (by rw [Hs.out, bNext, if_pos ⟨hxm, .inr (by rw [Hb.out, Hy.out]; exact hxy)⟩]), hbz⟩
                            case measure => simp [intOf]; omega
                          · have hxyd : decide (x < y) = false := by simpa using hxy
                            go_wp2_with fail
                            go_roundw
                            case rel => exact ⟨k + 1, (j : Int), by omega, by go_num, rfl, Lib.hid (by rw [Hs.out, bNext, if_neg (by rw [Hb.out, Hy.out]; omega)]; exact Hb.out), hbz⟩
                            case measure => simp [intOf]; omega
                      · have hxd : decide (x ≤ m) = false := by simpa using hxm
                        go_wp2_with fail
                        go_roundw
                        case rel => exact ⟨k + 1, bb, by omega, by go_num, rfl, Lib.hid (by rw [Hs.out, bNext, if_neg (by omega)]; exact Hb.out), hbz⟩
                        case measure => simp [intOf]; omega
                    · have hkn : k = n := by omega
                      subst hkn
                      have hbw := below_then hbel hbz
                      have HF2 := Lib.hid (Own.below HF.out hbz (Nat.le_refl _))
                      have HO2 := Lib.hid (Own.below HOw.out hbz (Nat.le_refl _))
                      have Hb2 : Hid (bestN fr m fr.length = bb) := by show bestN fr m fr.length = bb; rw [Hfl.out]; exact Hb.out
                      by_cases hneg : bb < 0
                      · have hno := pgo_none (long := l) (rest := r) (out := out) hfu hlt (by rw [Hb2.out]; exact hneg)
                        rw [Hgo.out] at hno
                        have Hc : Hid (planCode es f t l r = 3) := by show planCode es f t l r = 3; rw [Hpc.out, hno]
                        clear hno
                        go_wp2_with fail
                        go_ret2
                        exact ⟨_, by rw [Hc.out]; rfl, by rw [planOut_neg (by rw [Hc.out]; omega)]; exact own_new_empty _ _ _ _ _ hbw.size, below_al hbw _⟩
                      · by_cases h40 : 40 ≤ n3
                        · have hno := pgo_full (long := l) (rest := r) hfu hlt (by rw [Hb2.out]; exact hneg) (show 40 ≤ out.length by rw [Hl3.out]; exact h40)
                          rw [Hgo.out] at hno
                          have Hc : Hid (planCode es f t l r = 5) := by show planCode es f t l r = 5; rw [Hpc.out, hno]
                          clear hno
                          obtain rfl : n3 = 40 := by have := Hl3.out; omega
                          go_wp2_with fail
                          go_ret2
                          exact ⟨_, by rw [Hc.out]; rfl, by rw [planOut_neg (by rw [Hc.out]; omega)]; exact own_new_empty _ _ _ _ _ hbw.size, below_al hbw _⟩
                        · obtain ⟨j, hj, hjk⟩ : ∃ j : Nat, bb = (j : Int) ∧ j < k := by
                            rcases bestN_bd fr m k with h1 | ⟨j, h1, h2, _⟩
                            · rw [Hb.out] at h1; omega
                            · exact ⟨j, by rw [← Hb.out, h1], h2⟩
                          subst hj
                          by_cases hmin : m + l < t
                          · have hmin2 : ¬ t ≤ m + l := by omega
                            have hst := pgo_step (rest := r) (out := out) l0 hfu hlt Hb2.out (by rw [Hl3.out]; exact h40) (show min t (m + l) = (m + l) from by omega)
                            have Hst := Lib.hid hst.1
                            have hfu2 := hst.2
                            clear hst
                            have hw1 : IntKind.i64.wrap (m + l) = m + l := IntWalk.i64_in _ (by omega)
                            have hw2 : IntKind.i64.wrap ((m + l) + r) = (m + l) + r := IntWalk.i64_in _ (by omega)
                            have hj0 : (0 : Int) ≤ (j : Int) := by omega
                            have hjn : (j : Int) < (k : Int) := by omega
                            have h40' : (n3 : Int) < 40 := by omega
                            have h40e : ((n3 : Int) == 40) = false := by simp; omega
                            obtain ⟨xo, hxo⟩ : ∃ x, fr[j]? = some x := ⟨fr[j]'(by rw [Hfl.out]; exact hjk), List.getElem?_eq_getElem _⟩
                            have Hxo := Lib.hid hxo
                            clear hxo
                            go_wp2_with (at_builtin; refine wpList_push_at rfl _ _ 49 rfl w.heap.size 82 j0 _ 3 24 Try.underlying49 ki kz0 kz1 kz2 rfl (by omega) Q3.cells_len q3_one _ _ (⟨(j : Int), m, (m + l)⟩ : Q3) rfl HO2.out _ rfl _ rfl (by first | rfl | simp) (by rw [Hl3.out]; omega) (by omega) hbw.size ?_; intro v4 w4 ho4 hg4 hat4; have hbel4 := own_grown hbw HO2.out (Nat.le_refl _) hbw.size hg4; have HF4 := Lib.hid (own_other HF2.out HAp.out hg4); have HA4 := Lib.hid (apart_next HF2.out HAp.out (Nat.le_succ _) hat4); have Ho4 := Lib.hid ho4; have hgl4 : w1.heap.size < w4.heap.size := (World.ownsRow.lt HF4.out _ rfl).2; have hfr4 := own_free HF4.out j; have z0 := (own_has HF4.out icell_len).i1 Hxo.out; rw [Nat.zero_add] at z0; clear ho4 hat4)
                            go_roundw
                            case rel =>
                              have hs4 := Own.store (u := .int .i64 ((m + l) + r)) (e' := (m + l) + r) (j := 0) icell_len HF4.out Hxo.out (by omega) rfl
                              rw [Nat.mul_one, Nat.add_zero] at hs4
                              exact ⟨fu - 1, (m + l), fr.set j ((m + l) + r), out ++ [⟨(j : Int), m, (m + l)⟩], rfl, by omega, by omega, hfu2, by (have := Hl3.out; simp; omega), by (rw [List.length_set]; exact Hfl.out), Lib.hid (by rw [← Hst.out]; exact Hgo.out), Lib.hid hs4, Lib.hid (own_st_other Ho4.out (ne_swap HA4.out) _ _), Lib.hid HA4.out, below_st hbel4 _ Hbase.out _⟩
                            case measure => simp [intOf]; omega
                          · have hmin2 : t ≤ m + l := by omega
                            have hst := pgo_step (rest := r) (out := out) l0 hfu hlt Hb2.out (by rw [Hl3.out]; exact h40) (show min t (m + l) = t from by omega)
                            have Hst := Lib.hid hst.1
                            have hfu2 := hst.2
                            clear hst
                            have hw1 : IntKind.i64.wrap (m + l) = m + l := IntWalk.i64_in _ (by omega)
                            have hw2 : IntKind.i64.wrap (t + r) = t + r := IntWalk.i64_in _ (by omega)
                            have hj0 : (0 : Int) ≤ (j : Int) := by omega
                            have hjn : (j : Int) < (k : Int) := by omega
                            have h40' : (n3 : Int) < 40 := by omega
                            have h40e : ((n3 : Int) == 40) = false := by simp; omega
                            obtain ⟨xo, hxo⟩ : ∃ x, fr[j]? = some x := ⟨fr[j]'(by rw [Hfl.out]; exact hjk), List.getElem?_eq_getElem _⟩
                            have Hxo := Lib.hid hxo
                            clear hxo
                            go_wp2_with (at_builtin; refine wpList_push_at rfl _ _ 49 rfl w.heap.size 82 j0 _ 3 24 Try.underlying49 ki kz0 kz1 kz2 rfl (by omega) Q3.cells_len q3_one _ _ (⟨(j : Int), m, t⟩ : Q3) rfl HO2.out _ rfl _ rfl (by first | rfl | simp) (by rw [Hl3.out]; omega) (by omega) hbw.size ?_; intro v4 w4 ho4 hg4 hat4; have hbel4 := own_grown hbw HO2.out (Nat.le_refl _) hbw.size hg4; have HF4 := Lib.hid (own_other HF2.out HAp.out hg4); have HA4 := Lib.hid (apart_next HF2.out HAp.out (Nat.le_succ _) hat4); have Ho4 := Lib.hid ho4; have hgl4 : w1.heap.size < w4.heap.size := (World.ownsRow.lt HF4.out _ rfl).2; have hfr4 := own_free HF4.out j; have z0 := (own_has HF4.out icell_len).i1 Hxo.out; rw [Nat.zero_add] at z0; clear ho4 hat4)
                            go_roundw
                            case rel =>
                              have hs4 := Own.store (u := .int .i64 (t + r)) (e' := t + r) (j := 0) icell_len HF4.out Hxo.out (by omega) rfl
                              rw [Nat.mul_one, Nat.add_zero] at hs4
                              exact ⟨fu - 1, t, fr.set j (t + r), out ++ [⟨(j : Int), m, t⟩], rfl, by omega, by omega, hfu2, by (have := Hl3.out; simp; omega), by (rw [List.length_set]; exact Hfl.out), Lib.hid (by rw [← Hst.out]; exact Hgo.out), Lib.hid hs4, Lib.hid (own_st_other Ho4.out (ne_swap HA4.out) _ _), Lib.hid HA4.out, below_st hbel4 _ Hbase.out _⟩
                            case measure => simp [intOf]; omega
                · have hend := pgo_end (to := t) (long := l) (rest := r) (m := m) (f := fu) (fr := fr) (out := out) (by omega)
                  rw [Hgo.out] at hend
                  have Hc : Hid (planCode es f t l r = 0) := by show planCode es f t l r = 0; rw [Hpc.out, hend]
                  have Hr : Hid (planOut es f t l r = out) := planOut_ok Hc.out (by rw [Hn.out]; exact hend)
                  clear hend hfr
                  go_wp2
                  go_ret2
                  exact ⟨_, by rw [Hc.out]; rfl, by rw [Hr.out]; exact HOw.out, hbel⟩

end Go.Proofs.Ythjdodamfinhaaa

/- Walks over functions of this seat, by contract. Conditions: those that each theorem states. -/
import Derived.Test.YtccajbnklegniaaD7
namespace Go.Proofs.Ytccajbnklegniaa
open Go.RowKit Go.Sort

def nearP (es : List Q4) (xs : List Int) (m metres : Int) (k : Nat) : Bool := match xs[k]? with | some x => inR (metreOf es x) m (m + metres) | none => false
def nearN (es : List Q4) (xs : List Int) (m metres : Int) : Nat := (idxs (nearP es xs m metres) xs.length).length
def wStep (es : List Q4) (xs : List Int) (metres : Int) (st : Int × Int) (x : Int) : Int × Int :=
  if st.2 < (nearN es xs (metreOf es x) metres : Int) then (metreOf es x, (nearN es xs (metreOf es x) metres : Int)) else if (nearN es xs (metreOf es x) metres : Int) = st.2 ∧ metreOf es x < st.1 then (metreOf es x, (nearN es xs (metreOf es x) metres : Int)) else st
def wFold (es : List Q4) (xs : List Int) (metres : Int) (ys : List Int) : Int × Int := ys.foldl (wStep es xs metres) (0, 0)
theorem wFold_succ {es : List Q4} {xs : List Int} {metres : Int} {ys : List Int} {k : Nat} {x : Int} (hx : ys[k]? = some x) : wFold es xs metres (ys.take (k + 1)) = wStep es xs metres (wFold es xs metres (ys.take k)) x := by
  obtain ⟨hk, he⟩ := List.getElem?_eq_some_iff.1 hx
  rw [List.take_succ_eq_append_getElem hk, wFold, List.foldl_append, he]; rfl
theorem nearP_at {es : List Q4} {xs : List Int} {m metres : Int} {k : Nat} {x : Int} (hx : xs[k]? = some x) : nearP es xs m metres k = inR (metreOf es x) m (m + metres) := by simp [nearP, hx]
def worst (es : List Q4) (day metres : Int) : Int × Int := wFold es (openIdx es day) metres (openIdx es day)
def wCode (es : List Q4) (day metres : Int) : Int := if dcode es day ≠ 0 then dcode es day else if inR metres 0 300000 = false then 2 else if (worst es day metres).2 = 0 then 3 else 0
def wRes (es : List Q4) (day metres : Int) : Int × Int := if wCode es day metres = 0 then worst es day metres else (0, 0)
theorem wRes_neg {es : List Q4} {day metres : Int} (h : wCode es day metres ≠ 0) : wRes es day metres = (0, 0) := if_neg h
theorem open_in (es : List Q4) (day : Int) (n : Nat) (hn : es.length = n) : inDef n (openIdx es day) := fun x hx => by
  obtain ⟨k, rfl, hk, _⟩ := idxs_mem hx
  omega
theorem wStep_hi {es : List Q4} {xs : List Int} {metres bb mm m : Int} {x : Int} {N : Nat} (hm : metreOf es x = m) (hN : nearN es xs m metres = N) (h : mm < (N : Int)) : wStep es xs metres (bb, mm) x = (m, (N : Int)) := by
  unfold wStep; rw [hm, hN]; simp only; rw [if_pos h]
theorem wStep_eq {es : List Q4} {xs : List Int} {metres bb mm m : Int} {x : Int} {N : Nat} (hm : metreOf es x = m) (hN : nearN es xs m metres = N) (h2 : (N : Int) = mm) (h3 : m < bb) : wStep es xs metres (bb, mm) x = (m, (N : Int)) := by
  unfold wStep; rw [hm, hN]; simp only; rw [if_neg (by omega), if_pos ⟨h2, h3⟩]
theorem wStep_eq2 {es : List Q4} {xs : List Int} {metres bb mm m : Int} {x : Int} {N : Nat} (hm : metreOf es x = m) (hN : nearN es xs m metres = N) (h2 : (N : Int) = mm) (h3 : m < bb) : wStep es xs metres (bb, mm) x = (m, mm) := by
  rw [wStep_eq hm hN h2 h3, h2]
theorem wStep_no {es : List Q4} {xs : List Int} {metres bb mm m : Int} {x : Int} {N : Nat} (hm : metreOf es x = m) (hN : nearN es xs m metres = N) (_h1 : (N : Int) ≤ mm) (h2 : ¬ ((N : Int) = mm ∧ m < bb)) : wStep es xs metres (bb, mm) x = (bb, mm) := by
  unfold wStep; rw [hm, hN]; simp only; rw [if_neg (by omega), if_neg h2]
theorem impl_WorstStretch_1 (i : Nat) (g0 g1 g2 g3 : Nat) (A : Option Addr) (n c : Nat) (es : List Q4) (A2 : Option Addr) (n2 c2 : Nat) (xs : List Int) (m metres : Int) (W : World) (hi : i < n2) (hmax : n ≤ 1048576) (hmax2 : n2 ≤ 1048576) (hin : inDef n xs)
    (hm : 0 ≤ m ∧ m ≤ 300000) (hmt : 0 ≤ metres ∧ metres ≤ 300000)
    (x0 : W.cell? ⟨g0, 0, none⟩ = some (.slice A n c)) (x1 : W.cell? ⟨g1, 0, none⟩ = some (.slice A2 n2 c2)) (x2 : W.cell? ⟨g2, 0, none⟩ = some (.int .i64 m)) (x3 : W.cell? ⟨g3, 0, none⟩ = some (.int .i64 metres)) (h : Sl W W.heap.size 4 Q4.cells A n es) (h2 : Sl W W.heap.size 1 icell A2 n2 xs) :
    Calls Try.prog 69 #[.int .i64 i, .pointer (some ⟨g0, 0, none⟩), .pointer (some ⟨g1, 0, none⟩), .pointer (some ⟨g2, 0, none⟩), .pointer (some ⟨g3, 0, none⟩)] W fun e w' => e = .returned (.bool (nearP es xs m metres i)) ∧ Below W.heap.size W w' := by
  obtain ⟨m1, m2⟩ := hm
  obtain ⟨m3, m4⟩ := hmt
  obtain ⟨b2, off2, rfl, hb2, H2⟩ := h2.at_ (by omega)
  obtain ⟨x, hx⟩ := h2.get hi
  obtain ⟨j1, j2⟩ := hin x (List.mem_of_getElem? hx)
  obtain ⟨j, rfl⟩ : ∃ j : Nat, x = (j : Int) := ⟨x.toNat, by omega⟩
  have hjn : j < n := by omega
  obtain ⟨b, off, rfl, hb, H⟩ := h.at_ (by omega)
  obtain ⟨e, he⟩ := h.get hjn
  obtain ⟨c0, _, _, _⟩ := H.q4 he
  have d0 := H2.i1 hx
  rw [nearP_at hx, metreOf_at he]
  clear hx he j1 j2 hin
  go_enter Try.func69, Try.ntmps69
  have z0 := fun d os => cell_regrown x0 d os
  have z1 := fun d os => cell_regrown x1 d os
  have z2 := fun d os => cell_regrown x2 d os
  have z3 := fun d os => cell_regrown x3 d os
  have y0 := fun d os => cell_regrown c0 d os
  have y1 := fun d os => cell_regrown d0 d os
  have hwr : IntKind.i64.wrap (m + metres) = m + metres := IntWalk.i64_in _ (by omega)
  have hj0 : (0 : Int) ≤ (j : Int) := by omega
  have hjn' : (j : Int) < (n : Int) := by omega
  have hi0 : (0 : Int) ≤ (i : Int) := by omega
  have hin' : (i : Int) < (n2 : Int) := by omega
  go_wp2_with fail
  refine wp_region_quiet_below (by kernel_rfl) (by kernel_rfl) ?_
  repeat (go_big_quiet_step (exact Calls.regrown_of (calls_below (impl_in _ _ _ _))))
  refine wpQuiet_nil ?_
  intro wq hwq
  have hbq := below_of_class hwq
  clear hwq
  go_wp2
  go_ret
  exact ⟨rfl, hbq⟩
set_option maxHeartbeats 2000000 in
theorem impl_WorstStretch (A : Option Addr) (n c : Nat) (es : List Q4) (day metres : Int) (w : World) (hmax : n ≤ 1048576) (h : Sl w w.heap.size 4 Q4.cells A n es) :
    Calls Try.prog 38 #[.slice A n c, .int .i64 day, .int .i64 metres] w fun e w' => e = .returned (.tuple #[.int .i64 (wRes es day metres).1, .int .i64 (wRes es day metres).2, .int .i64 (wCode es day metres)]) ∧ Below w.heap.size w w' := by
  by_cases k0 : dcode es day = 0
  · rcases Bool.eq_false_or_eq_true (inR metres 0 300000) with k3 | k3
    · obtain ⟨g1, g2⟩ := dcode_zero.1 k0
      obtain ⟨m3, m4⟩ := inR_iff.1 k3
      have Hn := Lib.hid h.len
      have Hok := Lib.hid g1
      have Hk0 := Lib.hid k0
      have Hk3 := Lib.hid k3
      have hlen : (openIdx es day).length ≤ n := by have := idxs_len (openP es day) es.length; rw [h.len] at this; rw [openIdx, h.len]; exact this
      obtain ⟨xs, hxs⟩ : ∃ xs, openIdx es day = xs := ⟨_, rfl⟩
      have Hin : Hid (inDef n xs) := by show inDef n xs; rw [← hxs]; exact open_in es day n h.len
      rw [hxs] at hlen
      have Hxs := Lib.hid hxs
      clear g1 g2
      go_enter Try.func38, Try.ntmps38
      go_wp2_with (first
        | (go_at_call 65; refine (impl_defectsCode _ _ _ es _ _ hmax (h.on (below_al (below_al (Below.refl _ _) _) _))).mono ?_; rintro e w1 ⟨rfl, hb1⟩; obtain ⟨x0, x1, hs1, hbel⟩ := boxes2 hb1; rw [k0])
        | (go_at_call 61; refine (impl_isMetre _ _).mono ?_; rintro e w' ⟨rfl, rfl⟩; rw [k3])
        | (go_at_call 66; refine (impl_openDefects _ _ _ es _ _ hmax (h.on hbel)).mono ?_; rintro e w2 ⟨v2, rfl, ho2, hb2⟩; rw [hxs] at ho2; obtain ⟨A2, n2, c2, rfl, hl2, _⟩ := own_shape ho2))
      have hbw2 := below_then hbel hb2
      have hn2 : n2 ≤ n := by omega
      have Hl2 := Lib.hid hl2
      obtain ⟨W3, hW3⟩ : ∃ W3, w2.alloc (.cells #[.slice A2 n2 c2] 33) = W3 := ⟨_, rfl⟩
      have hal2 := below_al (Below.refl w2.heap.size w2) (.cells #[.slice A2 n2 c2] 33)
      have o0 : (w2.alloc (.cells #[.slice A2 n2 c2] 33)).cell? ⟨w2.heap.size, 0, none⟩ = some (.slice A2 n2 c2) := by
        rw [cell_of_row _ _ _ _ _ (0, 0) (heap_alloc_new w2 _)]; rfl
      have hsz3 : W3.heap.size = w2.heap.size + 1 := by rw [← hW3]; simp
      rw [hW3] at hal2 o0
      rw [hW3]
      have q0 := cell_on x0 (below_then hb2 hal2) (by omega)
      have q1 := cell_on x1 (below_then hb2 hal2) hs1
      have hS2 := (own_sl ho2 icell_len).on hal2
      have hS := h.on (below_then hbw2 hal2)
      have hbw3 := below_then hbw2 hal2
      have hs3 : w.heap.size + 1 < W3.heap.size := by have := hb2.size; omega
      have hs4 : w2.heap.size < W3.heap.size := by omega
      have Hsz3 := Lib.hid hsz3
      clear hW3 x0 x1 k0 k3 hl2 ho2 hsz3 hxs
      go_loopw [10, 11, 31] (fun bs ms i wr => ∃ (k : Nat) (bb mm : Int), k ≤ n2 ∧ i = .int .i64 k ∧ bs = .int .i64 bb ∧ ms = .int .i64 mm ∧ Hid (wFold es xs metres (xs.take k) = (bb, mm)) ∧ Below W3.heap.size W3 wr) (fun _ _ i _ => n2 - (intOf i).toNat)
      case atStart => exact ⟨0, 0, 0, by omega, rfl, rfl, rfl, Lib.hid rfl, Below.refl _ _⟩
      case round =>
        obtain ⟨k, bb, mm, hk, rfl, rfl, rfl, Hst, hbl⟩ := hrel
        by_cases hlt : k < n2
        · obtain ⟨b2, off2, rfl, hb22, H2⟩ := hS2.at_ (by omega)
          obtain ⟨x, hx⟩ := hS2.get hlt
          obtain ⟨j1, j2⟩ := Hin.out x (List.mem_of_getElem? hx)
          obtain ⟨j, rfl⟩ : ∃ j : Nat, x = (j : Int) := ⟨x.toNat, by omega⟩
          have hjn : j < n := by omega
          obtain ⟨b, off, rfl, hb, H⟩ := hS.at_ (by omega)
          obtain ⟨e, he⟩ := hS.get hjn
          obtain ⟨c0, _, _, _⟩ := (H.below hbl hb).q4 he
          have y0 := (H2.below hbl hb22).i1 hx
          have r0 := cell_on q0 hbl (by omega)
          have hs5 : w2.heap.size < wr.heap.size := by have := hbl.size; omega
          have hs6 : w.heap.size < wr.heap.size := by have := hbl.size; omega
          have hs7 : w.heap.size + 1 < wr.heap.size := by have := hbl.size; omega
          have r1 := cell_on q1 hbl hs3
          have r2 := cell_on o0 hbl hs4
          have Hmt := Lib.hid (metreOf_bd Hok.out (j : Int))
          have Hma := Lib.hid (metreOf_at he)
          have Hx := Lib.hid hx
          clear hx he j1 j2
          have hcall : ∀ args W, (callFunc 69 args).run Try.prog W = .ok (.enter 69 args) W := fun _ _ => by kernel_rfl
          obtain ⟨WM, hWM⟩ : ∃ WM, wr.alloc (.cells #[.int .i64 e.a] 2) = WM := ⟨_, rfl⟩
          have haM := below_al (Below.refl wr.heap.size wr) (.cells #[.int .i64 e.a] 2)
          have m0 : (wr.alloc (.cells #[.int .i64 e.a] 2)).cell? ⟨wr.heap.size, 0, none⟩ = some (.int .i64 e.a) := by
            rw [cell_of_row _ _ _ _ _ (0, 0) (heap_alloc_new wr _)]; rfl
          have hszM : WM.heap.size = wr.heap.size + 1 := by rw [← hWM]; simp
          rw [hWM] at haM m0
          have hblM := below_then hbl haM
          have HM := Lib.hid hWM
          have HszM := Lib.hid hszM
          clear hWM hszM
          have Hind : Hid (Calls Try.prog 68 #[.int .i64 n2, .func (.func 69) #[] #[.pointer (some ⟨w.heap.size, 0, none⟩), .pointer (some ⟨w2.heap.size, 0, none⟩), .pointer (some ⟨wr.heap.size, 0, none⟩), .pointer (some ⟨w.heap.size + 1, 0, none⟩)]] (wr.alloc (.cells #[.int .i64 e.a] 2)) fun e' w' => ∃ v, e' = .returned v ∧ Own w' WM.heap.size 2 1 icell v (idxs (nearP es xs e.a metres) n2) ∧ Below WM.heap.size WM w') := by
            show Calls _ _ _ _ _
            rw [HM.out]
            refine impl_indicesWhere 69 _ n2 (nearP es xs e.a metres) WM (by omega) hcall (fun i W hi hW => ?_)
            have hWW := below_then hblM hW
            exact impl_WorstStretch_1 i _ _ _ _ _ n c es _ n2 c2 xs e.a metres W hi hmax (by omega) Hin.out (by rw [← Hma.out]; exact Hmt.out) ⟨m3, m4⟩ (cell_on q0 hWW (by omega)) (cell_on o0 hWW hs4) (cell_on m0 hW (by have := HszM.out; omega)) (cell_on q1 hWW hs3) (hS.on hWW) (hS2.on hWW)
          go_wp2_with (first
            | (go_at_call 67; refine (impl_size_int64 _ _ _ _ (by omega)).mono ?_; rintro e w' ⟨rfl, rfl⟩)
            | (go_at_call 68; refine Hind.out.mono ?_; rintro e4 w4 ⟨v4, rfl, ho4, hb4⟩; obtain ⟨A4, n4, c4, rfl, hl4, _⟩ := own_shape ho4; have hn4 : n4 ≤ n2 := (by have := idxs_len (nearP es xs e.a metres) n2; omega); have Hl4 := Lib.hid hl4; clear hl4 ho4; have t0 := cell_on m0 hb4 (by have := HszM.out; omega)))
          all_goals
            have hbl4 := below_then hblM hb4
            have hN : nearN es xs e.a metres = n4 := by rw [nearN, Hl2.out, Hl4.out]
            go_roundw
            case rel => exact ⟨k + 1, _, _, by omega, by go_num, rfl, rfl, Lib.hid (by
                rw [wFold_succ Hx.out, Hst.out]
                first
                  | exact wStep_hi (bb := bb) (mm := mm) Hma.out hN (by omega)
                  | exact wStep_eq (bb := bb) (mm := mm) Hma.out hN (by omega) (by omega)
                  | exact wStep_eq2 (bb := bb) (mm := mm) Hma.out hN (by omega) (by omega)
                  | exact wStep_no (bb := bb) (mm := mm) Hma.out hN (by omega) (fun hh => by first | omega | exact absurd hh.1 (by assumption) | (exfalso; simp_all))), hbl4⟩
            case measure => simp [intOf]; omega
        · have hkn : k = n2 := by omega
          subst hkn
          have hl : xs.take k = xs := List.take_of_length_le (by rw [Hl2.out]; omega)
          have hst := Hst.out
          rw [hl] at hst
          have hw : worst es day metres = (bb, mm) := by rw [worst, Hxs.out]; exact hst
          by_cases h0 : mm = 0
          · have hc : wCode es day metres = 3 := by unfold wCode; rw [if_neg (by simp [Hk0.out]), if_neg (by simp [Hk3.out]), hw, if_pos h0]
            have Hc := Lib.hid hc
            have h0' : (mm == 0) = true := by simpa using h0
            clear hst hw hc h0 hl
            go_wp2
            go_ret3
            exact ⟨by rw [wRes_neg (by rw [Hc.out]; omega), Hc.out]; rfl, below_then hbw3 hbl⟩
          · have hc : wCode es day metres = 0 := by unfold wCode; rw [if_neg (by simp [Hk0.out]), if_neg (by simp [Hk3.out]), hw, if_neg h0]
            have Hr : Hid (wRes es day metres = (bb, mm)) := by show wRes es day metres = (bb, mm); rw [wRes, if_pos hc, hw]
            have Hc := Lib.hid hc
            have h0' : (mm == 0) = false := by simpa using h0
            clear hst hw hc h0 hl
            go_wp2
            go_ret3
            exact ⟨by rw [Hr.out, Hc.out]; rfl, below_then hbw3 hbl⟩
    · have hc : wCode es day metres = 2 := by unfold wCode; rw [if_neg (by simp [k0]), if_pos k3]
      rw [wRes_neg (by omega), hc]
      clear hc
      go_enter Try.func38, Try.ntmps38
      go_wp2_with (first
        | (go_at_call 65; refine (impl_defectsCode _ _ _ es _ _ hmax (h.on (below_al (below_al (Below.refl _ _) _) _))).mono ?_; rintro e w1 ⟨rfl, hb1⟩; obtain ⟨x0, x1, hs1, hbel⟩ := boxes2 hb1; rw [k0])
        | (go_at_call 61; refine (impl_isMetre _ _).mono ?_; rintro e w' ⟨rfl, rfl⟩; rw [k3]))
      go_ret3
      exact ⟨rfl, hbel⟩
  · have hc : wCode es day metres = dcode es day := by unfold wCode; rw [if_pos k0]
    have hne : (dcode es day != 0) = true := by simpa using k0
    rw [wRes_neg (by rw [hc]; exact k0), hc]
    clear hc
    go_enter Try.func38, Try.ntmps38
    go_wp2_with (go_at_call 65; refine (impl_defectsCode _ _ _ es _ _ hmax (h.on (below_al (below_al (Below.refl _ _) _) _))).mono ?_; rintro e w1 ⟨rfl, hb1⟩; obtain ⟨x0, x1, hs1, hbel⟩ := boxes2 hb1)
    go_ret3
    exact ⟨rfl, hbel⟩
set_option maxHeartbeats 2000000 in
theorem spec_WorstStretch (A : Option Addr) (n c : Nat) (es : List Q4) (day metres : Int) (w : World) (hmax : n ≤ 1048576) (h : Sl w w.heap.size 4 Q4.cells A n es) :
    Calls Try.prog 37 #[.slice A n c, .int .i64 day, .int .i64 metres] w fun e w' => e = .returned (.tuple #[.int .i64 (wRes es day metres).1, .int .i64 (wRes es day metres).2, .int .i64 (wCode es day metres)]) ∧ Below w.heap.size w w' := by
  by_cases k0 : dcode es day = 0
  · rcases Bool.eq_false_or_eq_true (inR metres 0 300000) with k3 | k3
    · obtain ⟨g1, g2⟩ := dcode_zero.1 k0
      obtain ⟨m3, m4⟩ := inR_iff.1 k3
      have Hn := Lib.hid h.len
      have Hok := Lib.hid g1
      have Hk0 := Lib.hid k0
      have Hk3 := Lib.hid k3
      have hlen : (openIdx es day).length ≤ n := by have := idxs_len (openP es day) es.length; rw [h.len] at this; rw [openIdx, h.len]; exact this
      obtain ⟨xs, hxs⟩ : ∃ xs, openIdx es day = xs := ⟨_, rfl⟩
      have Hin : Hid (inDef n xs) := by show inDef n xs; rw [← hxs]; exact open_in es day n h.len
      rw [hxs] at hlen
      have Hxs := Lib.hid hxs
      clear g1 g2
      go_enter Try.func37, Try.ntmps37
      go_wp2_with (first
        | (go_at_call 63; refine (spec_l18Code _ _ _ es _ _ hmax h).mono ?_; rintro e w1 ⟨rfl, hb1⟩; rw [k0])
        | (go_at_call 43; refine (spec_l00In _ _ _ _).mono ?_; rintro e w' ⟨rfl, rfl⟩; rw [k3])
        | (go_at_call 64; refine (spec_l18List _ _ _ es _ _ hmax (h.on hb1)).mono ?_; rintro e w2 ⟨v2, rfl, ho2, hb2⟩; rw [hxs] at ho2; obtain ⟨A2, n2, c2, rfl, hl2, _⟩ := own_shape ho2))
      have hbw2 := below_then hb1 hb2
      have hn2 : n2 ≤ n := by omega
      have Hl2 := Lib.hid hl2
      have hS2 := own_sl ho2 icell_len
      have hS := h.on hbw2
      clear k0 k3 hl2 ho2 hxs
      go_loopw [11, 12, 13] (fun bs ms i wr => ∃ (k : Nat) (bb mm : Int), k ≤ n2 ∧ i = .int .i64 k ∧ bs = .int .i64 bb ∧ ms = .int .i64 mm ∧ Hid (wFold es xs metres (xs.take k) = (bb, mm)) ∧ Below w2.heap.size w2 wr) (fun _ _ i _ => n2 - (intOf i).toNat)
      case atStart => exact ⟨0, 0, 0, by omega, rfl, rfl, rfl, Lib.hid rfl, Below.refl _ _⟩
      case round =>
        obtain ⟨k, bb, mm, hk, rfl, rfl, rfl, Hst, hbl⟩ := hrel
        by_cases hlt : k < n2
        · obtain ⟨x, hx⟩ := hS2.get hlt
          obtain ⟨j1, j2⟩ := Hin.out x (List.mem_of_getElem? hx)
          obtain ⟨j, rfl⟩ : ∃ j : Nat, x = (j : Int) := ⟨x.toNat, by omega⟩
          have hjn : j < n := by omega
          obtain ⟨b2, off2, rfl, hb22, H2⟩ := hS2.at_ (by omega)
          obtain ⟨b, off, rfl, hb, H⟩ := hS.at_ (by omega)
          obtain ⟨e, he⟩ := hS.get hjn
          obtain ⟨c0, _, _, _⟩ := (H.below hbl hb).q4 he
          have y0 := (H2.below hbl hb22).i1 hx
          have hmt := metreOf_bd Hok.out (j : Int)
          rw [metreOf_at he] at hmt
          obtain ⟨p1, p2⟩ := hmt
          have Hma := Lib.hid (metreOf_at he)
          have Hx := Lib.hid hx
          clear hx he j1 j2
          go_wp2_with fail
          obtain ⟨wo, hwo⟩ : ∃ wo : World, wo = wr := ⟨_, rfl⟩
          subst hwo
          go_loopw [15, 16] (fun cn q wz => ∃ (p : Nat), p ≤ n2 ∧ q = .int .i64 p ∧ cn = .int .i64 ((idxs (nearP es xs e.a metres) p).length : Int) ∧ Below w2.heap.size w2 wz) (fun _ q _ => n2 - (intOf q).toNat)
          case atStart => exact ⟨0, by omega, rfl, rfl, hbl⟩
          case round =>
            obtain ⟨p, hp, rfl, rfl, hbz⟩ := hrel
            have hll := idxs_len (nearP es xs e.a metres) p
            by_cases hlp : p < n2
            · obtain ⟨y, hy⟩ := hS2.get hlp
              obtain ⟨i1, i2⟩ := Hin.out y (List.mem_of_getElem? hy)
              obtain ⟨i, rfl⟩ : ∃ i : Nat, y = (i : Int) := ⟨y.toNat, by omega⟩
              have hin' : i < n := by omega
              obtain ⟨f, hf⟩ := hS.get hin'
              obtain ⟨d0, _, _, _⟩ := (H.below hbz hb).q4 hf
              have z0 := (H2.below hbz hb22).i1 hy
              have Hp : Hid (nearP es xs e.a metres p = inR f.a e.a (e.a + metres)) := by show nearP es xs e.a metres p = _; rw [nearP_at hy, metreOf_at hf]
              clear hy hf i1 i2
              go_wp2_with (go_at_call 43; refine (spec_l00In _ _ _ _).mono ?_; rintro e w' ⟨rfl, rfl⟩)
              · have hyes : inR f.a e.a (e.a + metres) = true := by assumption
                go_roundw
                case rel => exact ⟨p + 1, by omega, by go_num, by rw [idxs_yes (by rw [Hp.out]; exact hyes), List.length_append]; go_num, hbz⟩
                case measure => simp [intOf]; omega
              · have hno : inR f.a e.a (e.a + metres) = false := by assumption
                go_roundw
                case rel => exact ⟨p + 1, by omega, by go_num, by rw [idxs_no (by rw [Hp.out]; exact hno)], hbz⟩
                case measure => simp [intOf]; omega
            · have hpn : p = n2 := by omega
              subst hpn
              obtain ⟨n4, hn4⟩ : ∃ n4, (idxs (nearP es xs e.a metres) p).length = n4 := ⟨_, rfl⟩
              have hN : Hid (nearN es xs e.a metres = n4) := by show nearN es xs e.a metres = n4; rw [nearN, Hl2.out]; exact hn4
              rw [hn4] at hll
              rw [hn4]
              clear hn4
              go_wp2
              all_goals
                go_roundw
                case rel => exact ⟨k + 1, _, _, by omega, by go_num, rfl, rfl, Lib.hid (by
                    rw [wFold_succ Hx.out, Hst.out]
                    first
                      | exact wStep_hi (bb := bb) (mm := mm) Hma.out hN.out (by omega)
                      | exact wStep_eq (bb := bb) (mm := mm) Hma.out hN.out (by omega) (by omega)
                      | exact wStep_eq2 (bb := bb) (mm := mm) Hma.out hN.out (by omega) (by omega)
                      | exact wStep_no (bb := bb) (mm := mm) Hma.out hN.out (by omega) (fun hh => by first | omega | exact absurd hh.1 (by assumption) | (exfalso; simp_all))), hbz⟩
                case measure => simp [intOf]; omega
        · have hkn : k = n2 := by omega
          subst hkn
          have hl : xs.take k = xs := List.take_of_length_le (by rw [Hl2.out]; omega)
          have hst := Hst.out
          rw [hl] at hst
          have hw : worst es day metres = (bb, mm) := by rw [worst, Hxs.out]; exact hst
          by_cases h0 : mm = 0
          · have hc : wCode es day metres = 3 := by unfold wCode; rw [if_neg (by simp [Hk0.out]), if_neg (by simp [Hk3.out]), hw, if_pos h0]
            have Hc := Lib.hid hc
            have h0' : (mm == 0) = true := by simpa using h0
            clear hst hw hc h0 hl
            go_wp2
            go_ret3
            exact ⟨by rw [wRes_neg (by rw [Hc.out]; omega), Hc.out]; rfl, below_then hbw2 hbl⟩
          · have hc : wCode es day metres = 0 := by unfold wCode; rw [if_neg (by simp [Hk0.out]), if_neg (by simp [Hk3.out]), hw, if_neg h0]
            have Hr : Hid (wRes es day metres = (bb, mm)) := by show wRes es day metres = (bb, mm); rw [wRes, if_pos hc, hw]
            have Hc := Lib.hid hc
            have h0' : (mm == 0) = false := by simpa using h0
            clear hst hw hc h0 hl
            go_wp2
            go_ret3
            exact ⟨by rw [Hr.out, Hc.out]; rfl, below_then hbw2 hbl⟩
    · have hc : wCode es day metres = 2 := by unfold wCode; rw [if_neg (by simp [k0]), if_pos k3]
      rw [wRes_neg (by omega), hc]
      clear hc
      go_enter Try.func37, Try.ntmps37
      go_wp2_with (first
        | (go_at_call 63; refine (spec_l18Code _ _ _ es _ _ hmax h).mono ?_; rintro e w1 ⟨rfl, hb1⟩; rw [k0])
        | (go_at_call 43; refine (spec_l00In _ _ _ _).mono ?_; rintro e w' ⟨rfl, rfl⟩; rw [k3]))
      go_ret3
      exact ⟨rfl, hb1⟩
  · have hc : wCode es day metres = dcode es day := by unfold wCode; rw [if_pos k0]
    have hne : (dcode es day != 0) = true := by simpa using k0
    have hne' : (dcode es day == 0) = false := by simpa using k0
    rw [wRes_neg (by rw [hc]; exact k0), hc]
    clear hc
    go_enter Try.func37, Try.ntmps37
    go_wp2_with (go_at_call 63; refine (spec_l18Code _ _ _ es _ _ hmax h).mono ?_; rintro e w1 ⟨rfl, hb1⟩)
    go_ret3
    exact ⟨rfl, hb1⟩

end Go.Proofs.Ytccajbnklegniaa

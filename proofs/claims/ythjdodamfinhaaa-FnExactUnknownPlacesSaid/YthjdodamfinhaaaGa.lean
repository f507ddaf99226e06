/- Walks over functions of this seat, by contract. Conditions: those that each theorem states. -/
import Derived.Test.YthjdodamfinhaaaGw
import Derived.Test.YthjdodamfinhaaaApp
namespace Go.Proofs.Ythjdodamfinhaaa
open Go.RowKit Go.Sort

theorem l00In_r (n lo hi : Int) (r : Bool) (hr : inR n lo hi = r) (w : World) : Calls Try.prog 64 #[.int .i64 n, .int .i64 lo, .int .i64 hi] w fun e w' => e = .returned (.bool r) ∧ w = w' := by
  subst hr; exact spec_l00In n lo hi w
theorem spec_IsName_r (s : ByteArray) (r : Bool) (hr : nameOk s = r) (w : World) (hs : s.size ≤ maxLen) : Calls Try.prog 84 #[.string s] w fun e w' => e = .returned (.bool r) ∧ w = w' := by
  subst hr; exact spec_IsName s w hs
theorem impl_isGuard (g : G3) (w : World) (hs : g.s.size ≤ 1048576) : Calls Try.prog 57 #[.agg #[.string g.s, .int .i64 g.a, .int .i64 g.b]] w fun e w' => e = .returned (.bool (guardOk g)) ∧ Below w.heap.size w w' := by
  rcases Bool.eq_false_or_eq_true (nameOk g.s) with hn | hn
  all_goals
    go_enter Try.func57, Try.ntmps57
    go_wp2_with (go_at_call 83; refine (impl_IsName _ _ (by unfold maxLen; omega)).mono ?_; rintro e w' ⟨rfl, rfl⟩; rw [hn])
  all_goals (go_ret; exact ⟨ret_bool (by simp_all [guardOk] <;> omega), below_al (Below.refl _ _) _⟩)
theorem spec_l17One (b o : Nat) (g : G3) (w : World) (hs : g.s.size ≤ 1048576) (c0 : w.cell? ⟨b, o, none⟩ = some (.string g.s)) (c1 : w.cell? ⟨b, o + 1, none⟩ = some (.int .i64 g.a)) (c2 : w.cell? ⟨b, o + 2, none⟩ = some (.int .i64 g.b)) :
    Calls Try.prog 59 #[.pointer (some ⟨b, o, none⟩)] w fun e w' => e = .returned (.bool (guardOk g)) ∧ Below w.heap.size w w' := by
  have hsm : g.s.size ≤ maxLen := by unfold maxLen; omega
  have z0 := fun d os => cell_regrown c0 d os
  have z1 := fun d os => cell_regrown c1 d os
  have z2 := fun d os => cell_regrown c2 d os
  rcases Bool.eq_false_or_eq_true (nameOk g.s) with hn | hn
  · rcases Bool.eq_false_or_eq_true (inR g.a 0 299999) with h1 | h1
    · obtain ⟨a1, a2⟩ := inR_iff.1 h1
      have hw : IntKind.i64.wrap (g.a + 1) = g.a + 1 := IntWalk.i64_in _ (by omega)
      obtain ⟨r, hr⟩ : ∃ r, inR g.b (g.a + 1) 300000 = r := ⟨_, rfl⟩
      have hg : guardOk g = r := by
        rw [← hr, Bool.eq_iff_iff, guardOk_iff, inR_iff]
        exact ⟨fun ⟨_, _, x, y⟩ => ⟨by omega, y⟩, fun ⟨x, y⟩ => ⟨hn, a1, by omega, y⟩⟩
      rw [hg, ← hr]
      clear hr hg
      go_enter Try.func59, Try.ntmps59
      go_wp2_with fail
      refine wp_region_quiet_below (by kernel_rfl) (by kernel_rfl) ?_
      repeat (go_big_quiet_step (first | exact Calls.regrown_of (calls_below (spec_IsName_r _ true hn _ hsm)) | exact Calls.regrown_of (calls_below (spec_l00In _ _ _ _))))
      refine wpQuiet_nil ?_
      intro wq hwq
      have hbq := below_of_class hwq
      clear hwq
      go_wp2
      go_ret
      exact ⟨rfl, hbq⟩
    · have hg : guardOk g = false := by
        cases hx : guardOk g with
        | false => rfl
        | true =>
          obtain ⟨_, a1, a2, a3⟩ := guardOk_iff.1 hx
          have := inR_not.1 h1
          omega
      rw [hg]
      clear hg
      go_enter Try.func59, Try.ntmps59
      go_wp2_with fail
      refine wp_region_quiet_below (by kernel_rfl) (by kernel_rfl) ?_
      repeat (go_big_quiet_step (first | exact Calls.regrown_of (calls_below (spec_IsName_r _ true hn _ hsm)) | exact Calls.regrown_of (calls_below (spec_l00In _ _ _ _))))
      refine wpQuiet_nil ?_
      intro wq hwq
      have hbq := below_of_class hwq
      clear hwq
      go_wp2
      go_ret
      exact ⟨rfl, hbq⟩
  · have hg : guardOk g = false := by rw [guardOk, hn]; rfl
    rw [hg]
    clear hg
    go_enter Try.func59, Try.ntmps59
    go_wp2_with fail
    refine wp_region_quiet_below (by kernel_rfl) (by kernel_rfl) ?_
    repeat (go_big_quiet_step (exact Calls.regrown_of (calls_below (spec_IsName_r _ false hn _ hsm))))
    refine wpQuiet_nil ?_
    intro wq hwq
    have hbq := below_of_class hwq
    clear hwq
    go_wp2
    go_ret
    exact ⟨rfl, hbq⟩
set_option maxHeartbeats 400000 in
theorem impl_hasName (A : Option Addr) (n c : Nat) (xs : List ByteArray) (x : ByteArray) (w : World) (hmax : n ≤ 1048576) (h : Sl w w.heap.size 1 scell A n xs) :
    Calls Try.prog 58 #[.slice A n c, .string x] w fun e w' => e = .returned (.bool (hasS xs x)) ∧ Below w.heap.size w w' := by
  have Hn := Lib.hid h.len
  go_enter Try.func58, Try.ntmps58
  go_wp2
  go_loopw [9] (fun i wr => ∃ k : Nat, k ≤ n ∧ i = .int .i64 k ∧ Hid (∀ (j : Nat) y, j < k → xs[j]? = some y → sEq y x = false) ∧ Below w.heap.size w wr) (fun i _ => n - (intOf i).toNat)
  case atStart => exact ⟨0, by omega, rfl, Lib.hid (fun j y hj => by omega), Below.refl _ _⟩
  case round =>
    obtain ⟨k, hk, rfl, Hgood, hbel⟩ := hrel
    by_cases hlt : k < n
    · obtain ⟨b, off, rfl, hb, H⟩ := h.at_ (by omega)
      obtain ⟨e, he⟩ := h.get hlt
      have c0 := (H.below hbel hb).s1 he
      have He := Lib.hid he
      clear he
      rcases Bool.eq_false_or_eq_true (sEq e x) with hq | hq
      · have hq' : e.toList = x.toList := by simpa [sEq] using hq
        go_wp2
        go_ret
        exact ⟨ret_bool (hasS_yes He.out hq).symm, hbel⟩
      · have hq' : ¬ e.toList = x.toList := by simpa [sEq] using hq
        have hq2 : (e.toList == x.toList) = false := hq
        go_wp2
        go_roundw
        case rel => exact ⟨k + 1, by omega, by go_num, Lib.hid (fun j y hj hy => by
            rcases Nat.lt_or_ge j k with h1 | h1
            · exact Hgood.out j y h1 hy
            · have : j = k := by omega
              subst this; rw [He.out] at hy; injection hy with hy; subst hy; exact hq), hbel⟩
        case measure => simp [intOf]; omega
    · go_wp2
      go_ret
      exact ⟨ret_bool (hasS_no fun j y hy => Hgood.out j y (by have := (List.getElem?_eq_some_iff.1 hy).1; have := Hn.out; omega) hy).symm, hbel⟩
theorem info_str : (Try.prog.info? 9).map (fun i => (i.zero, i.size, i.bytes)) = some (some (.string ⟨#[]⟩), 1, 16) := by kernel_rfl
set_option maxHeartbeats 1000000 in
theorem impl_ValidGuards (A : Option Addr) (n c : Nat) (es : List G3) (w : World) (hmax : n ≤ 1048576) (hnm : ∀ e ∈ es, e.s.size ≤ 1048576) (h : Sl w w.heap.size 3 G3.cells A n es) :
    Calls Try.prog 20 #[.slice A n c] w fun e w' => e = .returned (.bool (guardsOk es)) ∧ Below w.heap.size w w' := by
  obtain ⟨i0, hi, hz0, hz1, hz2⟩ := info_parts info_str
  have Hn := Lib.hid h.len
  have HN := Lib.hid hnm
  clear hnm
  go_enter Try.func20, Try.ntmps20
  go_wp2
  go_loopw [3, 9] (fun v i wr => ∃ k : Nat, k ≤ n ∧ i = .int .i64 k ∧ Hid (∀ j, j < k → guardAt es j = true) ∧ Hid (Own wr w.heap.size 9 1 scell v (namesOf (es.take k))) ∧ Below w.heap.size w wr) (fun _ i _ => n - (intOf i).toNat)
  case atStart => exact ⟨0, by omega, rfl, Lib.hid (fun j hj => by omega), Lib.hid (own_new_empty _ _ _ _ _ (Nat.le_refl _)), below_al (Below.refl _ _) _⟩
  case round =>
    obtain ⟨k, hk, rfl, Hg, Hown, hbel⟩ := hrel
    obtain ⟨A2, n2, c2, rfl, hl2, _⟩ := own_shape Hown.out
    have hnl : n2 ≤ k := by rw [← hl2, namesOf, List.length_map, List.length_take]; omega
    have Hl2 := Lib.hid hl2
    clear hl2
    by_cases hlt : k < n
    · obtain ⟨b, off, rfl, hb, H⟩ := h.at_ (by omega)
      obtain ⟨e, he⟩ := h.get hlt
      obtain ⟨c0, c1, c2'⟩ := (H.below hbel hb).g3 he
      have hsz := HN.out e (List.mem_of_getElem? he)
      have He := Lib.hid he
      have Hat := Lib.hid (guardAt_eq he)
      clear he
      rcases Bool.eq_false_or_eq_true (guardOk e) with g1 | g1
      · rcases Bool.eq_false_or_eq_true (hasS (namesOf (es.take k)) e.s) with g2 | g2
        · go_wp2_with (first
            | (go_at_call 57; refine (impl_isGuard e _ hsz).mono ?_; rintro ev w1 ⟨rfl, hb1⟩; rw [g1]; have hbel1 := below_then (below_al hbel _) hb1; have Ho1 := Lib.hid (Own.below (own_alloc Hown.out _) hb1 (Nat.le_refl _)); obtain ⟨x0, x1, x2⟩ := box3k hb1)
            | (go_at_call 58; refine (impl_hasName _ _ _ (namesOf (es.take k)) _ _ (by omega) (own_sl Ho1.out scell_len)).mono ?_; rintro ev w2 ⟨rfl, hb2⟩; rw [g2]))
          go_ret
          exact ⟨ret_bool (guardsOk_no He.out (by rw [Hat.out, g1, g2]; rfl)).symm, below_then hbel1 hb2⟩
        · go_wp2_with (first
            | (at_builtin; refine wpList_push rfl _ _ 68 rfl w.heap.size 9 i0 _ 1 16 Try.underlying68 hi hz0 hz1 hz2 rfl (by omega) scell_len scell_one _ _ e.s rfl Ho2.out _ rfl _ rfl (by first | rfl | simp) (by rw [Hl2.out]; omega) (by omega) hbel2.size ?_; intro v3 w3 ho3 hg3; have hbel3 := own_grown hbel2 Ho2.out (Nat.le_refl _) hbel2.size hg3; have Ho3 := Lib.hid ho3; clear ho3)
            | (go_at_call 57; refine (impl_isGuard e _ hsz).mono ?_; rintro ev w1 ⟨rfl, hb1⟩; rw [g1]; have hbel1 := below_then (below_al hbel _) hb1; have Ho1 := Lib.hid (Own.below (own_alloc Hown.out _) hb1 (Nat.le_refl _)); obtain ⟨x0, x1, x2⟩ := box3k hb1)
            | (go_at_call 58; refine (impl_hasName _ _ _ (namesOf (es.take k)) _ _ (by omega) (own_sl Ho1.out scell_len)).mono ?_; rintro ev w2 ⟨rfl, hb2⟩; rw [g2]; have hbel2 := below_then hbel1 hb2; have Ho2 := Lib.hid (Own.below Ho1.out hb2 (Nat.le_refl _)); obtain ⟨x0, x1, x2⟩ := box3k (below_then hb1 hb2)))
          go_roundw
          case rel => exact ⟨k + 1, by omega, by go_num, Lib.hid (fun j hj => by
              rcases Nat.lt_or_ge j k with h1 | h1
              · exact Hg.out j h1
              · have : j = k := by omega
                subst this; rw [Hat.out, g1, g2]; rfl), Lib.hid (by rw [namesOf_succ He.out]; exact Ho3.out), hbel3⟩
          case measure => simp [intOf]; omega
      · go_wp2_with (go_at_call 57; refine (impl_isGuard e _ hsz).mono ?_; rintro ev w1 ⟨rfl, hb1⟩; rw [g1]; have hbel1 := below_then (below_al hbel _) hb1)
        go_ret
        exact ⟨ret_bool (guardsOk_no He.out (by rw [Hat.out, g1]; rfl)).symm, hbel1⟩
    · go_wp2
      go_ret
      have hkn : k = n := by omega
      subst hkn
      exact ⟨ret_bool (by rw [guardsOk_of (fun j hj => Hg.out j (by rw [Hn.out] at hj; exact hj)), Hn.out]; exact decide_eq_decide.2 (by omega)), hbel⟩
set_option maxHeartbeats 1000000 in
theorem spec_l17Ok (A : Option Addr) (n c : Nat) (es : List G3) (w : World) (hmax : n ≤ 1048576) (hnm : ∀ e ∈ es, e.s.size ≤ 1048576) (h : Sl w w.heap.size 3 G3.cells A n es) :
    Calls Try.prog 56 #[.slice A n c] w fun e w' => e = .returned (.bool (guardsOk es)) ∧ Below w.heap.size w w' := by
  have Hn := Lib.hid h.len
  have HN := Lib.hid hnm
  clear hnm
  go_enter Try.func56, Try.ntmps56
  go_wp2
  go_loopw [3] (fun i wr => ∃ k : Nat, k ≤ n ∧ i = .int .i64 k ∧ Hid (∀ j, j < k → guardAt es j = true) ∧ Below w.heap.size w wr) (fun i _ => n - (intOf i).toNat)
  case atStart => exact ⟨0, by omega, rfl, Lib.hid (fun j hj => by omega), Below.refl _ _⟩
  case round =>
    obtain ⟨k, hk, rfl, Hg, hbel⟩ := hrel
    by_cases hlt : k < n
    · obtain ⟨b, off, rfl, hb, H⟩ := h.at_ (by omega)
      obtain ⟨e, he⟩ := h.get hlt
      obtain ⟨c0, c1, c2⟩ := (H.below hbel hb).g3 he
      have hsz := HN.out e (List.mem_of_getElem? he)
      have He := Lib.hid he
      have Hat := Lib.hid (guardAt_eq he)
      clear he
      rcases Bool.eq_false_or_eq_true (guardOk e) with g1 | g1
      · go_wp2_with (go_at_call 59; refine (spec_l17One _ _ e _ hsz c0 c1 c2).mono ?_; rintro ev w1 ⟨rfl, hb1⟩; rw [g1])
        have hbel1 := below_then hbel hb1
        clear c0 c1 c2 hb1 hbel
        obtain ⟨wo, hwo⟩ : ∃ wo : World, wo = w1 := ⟨_, rfl⟩
        subst hwo
        go_loopw [4] (fun q wz => ∃ p : Nat, p ≤ k ∧ q = .int .i64 p ∧ Hid (∀ (j : Nat) y, j < p → (namesOf (es.take k))[j]? = some y → sEq y e.s = false) ∧ Below w.heap.size w wz) (fun q _ => k - (intOf q).toNat)
        case atStart => exact ⟨0, by omega, rfl, Lib.hid (fun j y hj => by omega), hbel1⟩
        case round =>
          obtain ⟨p, hp, rfl, Hq, hbz⟩ := hrel
          by_cases hlp : p < k
          · obtain ⟨f, hf⟩ := h.get (k := p) (by omega)
            obtain ⟨d0, _, _⟩ := (H.below hbz hb).g3c (Nat.lt_of_lt_of_le hb hbz.size) hf
            obtain ⟨e0, _, _⟩ := (H.below hbz hb).g3c (Nat.lt_of_lt_of_le hb hbz.size) He.out
            have hft : (es.take k)[p]? = some f := by rw [List.getElem?_take_of_lt hlp]; exact hf
            have Hf := Lib.hid (namesOf_get hft)
            clear hf hft
            rcases Bool.eq_false_or_eq_true (sEq f.s e.s) with g2 | g2
            · have hq2 : (f.s.toList == e.s.toList) = true := g2
              go_wp2_with fail
              refine wp_region_quiet_below (by kernel_rfl) (by kernel_rfl) ?_
              repeat (go_big_quiet_step (fail))
              refine wpQuiet_nil ?_
              intro wq hwq
              have hbq := below_then hbz (below_of_class hwq)
              clear hwq d0 e0
              go_wp2_with fail
              go_ret
              exact ⟨ret_bool (guardsOk_no He.out (by rw [Hat.out, g1, hasS_yes Hf.out g2]; rfl)).symm, hbq⟩
            · have hq' : ¬ f.s.toList = e.s.toList := by simpa [sEq] using g2
              have hq2 : (f.s.toList == e.s.toList) = false := g2
              go_wp2_with fail
              refine wp_region_quiet_below (by kernel_rfl) (by kernel_rfl) ?_
              repeat (go_big_quiet_step (fail))
              refine wpQuiet_nil ?_
              intro wq hwq
              have hbq := below_then hbz (below_of_class hwq)
              clear hwq d0 e0
              go_wp2_with fail
              go_roundw
              case rel => exact ⟨p + 1, by omega, by go_num, Lib.hid (fun j y hj hy => by
                  rcases Nat.lt_or_ge j p with h1 | h1
                  · exact Hq.out j y h1 hy
                  · have : j = p := by omega
                    subst this; rw [Hf.out] at hy; injection hy with hy; subst hy; exact g2), hbq⟩
              case measure => simp [intOf]; omega
          · have hpk : p = k := by omega
            subst hpk
            have Hno : Hid (hasS (namesOf (es.take p)) e.s = false) := hasS_no fun j y hy => Hq.out j y (by have := (List.getElem?_eq_some_iff.1 hy).1; rw [namesOf, List.length_map, List.length_take] at this; omega) hy
            go_wp2_with fail
            go_roundw
            case rel => exact ⟨p + 1, by omega, by go_num, Lib.hid (fun j hj => by
                rcases Nat.lt_or_ge j p with h1 | h1
                · exact Hg.out j h1
                · have : j = p := by omega
                  subst this; rw [Hat.out, g1, Hno.out]; rfl), hbz⟩
            case measure => simp [intOf]; omega
      · go_wp2_with (go_at_call 59; refine (spec_l17One _ _ e _ hsz c0 c1 c2).mono ?_; rintro ev w1 ⟨rfl, hb1⟩; rw [g1])
        go_ret
        exact ⟨ret_bool (guardsOk_no He.out (by rw [Hat.out, g1]; rfl)).symm, below_then hbel hb1⟩
    · go_wp2
      go_ret
      have hkn : k = n := by omega
      subst hkn
      exact ⟨ret_bool (by rw [guardsOk_of (fun j hj => Hg.out j (by rw [Hn.out] at hj; exact hj)), Hn.out]; exact decide_eq_decide.2 (by omega)), hbel⟩
theorem spec_ValidGuards (A : Option Addr) (n c : Nat) (es : List G3) (w : World) (hmax : n ≤ 1048576) (hnm : ∀ e ∈ es, e.s.size ≤ 1048576) (h : Sl w w.heap.size 3 G3.cells A n es) :
    Calls Try.prog 19 #[.slice A n c] w fun e w' => e = .returned (.bool (guardsOk es)) ∧ Below w.heap.size w w' := by
  go_enter Try.func19, Try.ntmps19
  go_wp2_with (go_at_call 56; refine (spec_l17Ok _ _ _ es _ hmax hnm h).mono ?_; rintro e w' ⟨rfl, hb⟩)
  go_ret
  exact ⟨rfl, hb⟩

end Go.Proofs.Ythjdodamfinhaaa

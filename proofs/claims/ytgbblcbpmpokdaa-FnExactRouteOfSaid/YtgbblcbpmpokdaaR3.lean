/- Walks over functions of this seat, by contract. Conditions: those that each theorem states. -/
import Derived.Test.YtgbblcbpmpokdaaR2
import Derived.Test.YtgbblcbpmpokdaaApp
import Derived.Test.YtgbblcbpmpokdaaStp
namespace Go.Proofs.Ytgbblcbpmpokdaa
open Go.RowKit Go.Sort

theorem ap_sym' {a b : Option Nat} (h : a = none ∨ a ≠ b) : b = none ∨ b ≠ a := by
  rcases h with h | h
  · cases b with
    | none => exact .inl rfl
    | some k => exact .inr (by rw [h]; intro e; cases e)
  · exact .inr (Ne.symm h)
structure RW (w W : World) (base : Nat) (v9 v10 v30 : Value) (lo hi xs : List Int) : Prop where
  b : Own W base 2 1 icell v9 lo
  c : Own W base 2 1 icell v10 hi
  a : Own W base 2 1 icell v30 xs
  ab : v30.ownBlock = none ∨ v30.ownBlock ≠ v9.ownBlock
  ac : v30.ownBlock = none ∨ v30.ownBlock ≠ v10.ownBlock
  bc : v9.ownBlock = none ∨ v9.ownBlock ≠ v10.ownBlock
  bel : Below base w W
theorem RW.push9 {w W w' : World} {base : Nat} {v9 v10 v30 v9' : Value} {lo hi xs lo' : List Int} (h : RW w W base v9 v10 v30 lo hi xs) (hbase : base ≤ W.heap.size) (ho : Own w' base 2 1 icell v9' lo') (hg : W.grownBy w' v9.ownBlock) (hat : v9'.ownBlock = v9.ownBlock ∨ v9'.ownBlock = some (W.heap.size + 1)) : RW w w' base v9' v10 v30 lo' hi xs :=
  ⟨ho, own_other h.c (ap_sym' h.bc) hg, own_other h.a h.ab hg, apart_next h.a h.ab (Nat.le_succ _) hat, h.ac, ap_sym' (apart_next h.c (ap_sym' h.bc) (Nat.le_succ _) hat), own_grown h.bel h.b (Nat.le_refl _) hbase hg⟩
theorem RW.push10 {w W w' : World} {base : Nat} {v9 v10 v30 v10' : Value} {lo hi xs hi' : List Int} (h : RW w W base v9 v10 v30 lo hi xs) (hbase : base ≤ W.heap.size) (ho : Own w' base 2 1 icell v10' hi') (hg : W.grownBy w' v10.ownBlock) (hat : v10'.ownBlock = v10.ownBlock ∨ v10'.ownBlock = some (W.heap.size + 1)) : RW w w' base v9 v10' v30 lo hi' xs :=
  ⟨own_other h.b h.bc hg, ho, own_other h.a h.ac hg, h.ab, apart_next h.a h.ac (Nat.le_succ _) hat, apart_next h.b h.bc (Nat.le_succ _) hat, own_grown h.bel h.c (Nat.le_refl _) hbase hg⟩
theorem best_two {es : List Q4} {day f : Int} (h : (routeFold es f (twoOf es day f)).1 < (routeFold es f (oneOf es day f)).1) : bestOf es day f = twoOf es day f := if_pos h
theorem best_one {es : List Q4} {day f : Int} (h : ¬ (routeFold es f (twoOf es day f)).1 < (routeFold es f (oneOf es day f)).1) : bestOf es day f = oneOf es day f := if_neg h
theorem wayOf_t (es : List Q4) (day f : Int) : wayOf es day f true = sortI (mK es (-1)) (partL es f true (openIdx es day)) := rfl
theorem wayOf_f (es : List Q4) (day f : Int) : wayOf es day f false = sortI (mK es 1) (partL es f false (openIdx es day)) := rfl
theorem part_in {es : List Q4} {f : Int} {b : Bool} {xs : List Int} {n : Nat} (h : inDef n xs) : inDef n (partL es f b xs) := fun x hx => h x (part_mem hx)
theorem roCode_zero {es : List Q4} {day f : Int} (h1 : dcode es day = 0) (h2 : inR f 0 300000 = true) : roCode es day f = 0 := by
  unfold roCode; rw [if_neg (by omega), if_neg (by simp [h2])]
theorem roCode_rng {es : List Q4} {day f : Int} (h1 : dcode es day = 0) (h2 : inR f 0 300000 = false) : roCode es day f = 2 := by
  unfold roCode; rw [if_neg (by omega), if_pos h2]
theorem roCode_bad {es : List Q4} {day f : Int} (h1 : dcode es day ≠ 0) : roCode es day f = dcode es day := by
  unfold roCode; rw [if_pos h1]
set_option maxHeartbeats 4000000 in
set_option maxRecDepth 100000 in
theorem impl_RouteOf (A : Option Addr) (n c : Nat) (es : List Q4) (day f : Int) (w : World) (hmax : n ≤ 1048576) (h : Sl w w.heap.size 4 Q4.cells A n es) :
    Calls Try.prog 19 #[.slice A n c, .int .i64 day, .int .i64 f] w fun e w' => ∃ v, e = .returned (.tuple #[v, .int .i64 (roCode es day f)]) ∧ Own w' w.heap.size 2 1 icell v (roOut es day f) ∧ Below w.heap.size w w' := by
  obtain ⟨i0, hi, hz0, hz1, hz2⟩ := info_parts info_i64
  by_cases k0 : dcode es day = 0
  · rcases Bool.eq_false_or_eq_true (inR f 0 300000) with k3 | k3
    · rw [roOut_pos (roCode_zero k0 k3), roCode_zero k0 k3]
      obtain ⟨g1, g2⟩ := dcode_zero.1 k0
      have Hf := Lib.hid (inR_iff.1 k3)
      have Hok := Lib.hid g1
      have Hn := Lib.hid h.len
      have hxl : (openIdx es day).length ≤ n := by rw [openIdx, ← h.len]; exact idxs_len _ _
      have hin := open_in es day n h.len
      obtain ⟨xs, hxs⟩ : ∃ xs, openIdx es day = xs := ⟨_, rfl⟩
      rw [hxs] at hxl hin
      have Hxs := Lib.hid hxs
      have Hin := Lib.hid hin
      have Hord : Hid (xs.Pairwise (· < ·)) := Lib.hid (by rw [← hxs]; exact open_ord es day)
      clear hxs hin g1 g2
      go_enter Try.func19, Try.ntmps19
      go_wp2_with (first
        | (go_at_call 44; refine (impl_defectsCode _ _ _ es _ _ hmax h).mono ?_; rintro e w1 ⟨rfl, hb1⟩; rw [k0])
        | (go_at_call 45; refine (impl_isMetre _ _).mono ?_; rintro e w' ⟨rfl, rfl⟩; rw [k3])
        | (go_at_call 46; refine (impl_openDefects _ _ _ es _ _ hmax (h.on (below_al (below_al hb1 _) _))).mono ?_; rintro e w2 ⟨v2, rfl, ho2, hb2⟩; rw [Hxs.out] at ho2; obtain ⟨A2, n2, c2, rfl, hl2, _⟩ := own_shape ho2))
      have hRW : RW w w2 w.heap.size (.slice (some ⟨w1.heap.size, 0, none⟩) 0 0) (.slice (some ⟨(w1.alloc (.cells #[] 2)).heap.size, 0, none⟩) 0 0) (.slice A2 n2 c2) [] [] xs := by
        have hs1 := hb1.size
        have p1 := own_new_empty (α := Int) w1 w.heap.size 2 1 icell hs1
        have p2 := own_new_empty (α := Int) (w1.alloc (.cells #[] 2)) w.heap.size 2 1 icell (by simp; omega)
        have p1' := own_alloc p1 (.cells #[] 2)
        exact ⟨p1'.below hb2 (Nat.le_refl _), p2.below hb2 (Nat.le_refl _), ho2.base_le (by simp; omega), own_ne_hi p1' ho2 (Nat.le_refl _), own_ne_hi p2 ho2 (Nat.le_refl _), .inr (by simp [Value.ownBlock]), (below_al (below_al hb1 _) _).trans (hb2.mono (by simp; omega))⟩
      have HR := Lib.hid hRW
      rw [show (w1.alloc (.cells #[] 2)).heap.size = w1.heap.size + 1 from by simp] at HR
      have hn2 : n2 ≤ n := by omega
      have Hl2 := Lib.hid hl2
      clear hRW ho2 hl2 k0 k3 hxl
      go_loopw [9, 10, 32] (fun v9 v10 i wr => ∃ (k : Nat), k ≤ n2 ∧ i = .int .i64 k ∧ Hid (RW w wr w.heap.size v9 v10 (.slice A2 n2 c2) (partL es f true (xs.take k)) (partL es f false (xs.take k)) xs)) (fun _ _ i _ => n2 - (intOf i).toNat)
      case atStart => exact ⟨0, by omega, rfl, HR⟩
      case round =>
        clear HR
        obtain ⟨k, hk, rfl, HR⟩ := hrel
        obtain ⟨A9, n9, c9, rfl, hl9, _⟩ := own_shape HR.out.b
        obtain ⟨A10, n10, c10, rfl, hl10, _⟩ := own_shape HR.out.c
        have hq9 := part_len es f true (xs.take k)
        have hq10 := part_len es f false (xs.take k)
        rw [List.length_take] at hq9 hq10
        have hbz := HR.out.bel.size
        by_cases hlt : k < n2
        · have hS2 := own_sl HR.out.a icell_len
          obtain ⟨b2, off2, rfl, hb22, H2⟩ := hS2.at_ (by omega)
          obtain ⟨x, hx⟩ := hS2.get hlt
          obtain ⟨j1, j2⟩ := Hin.out x (List.mem_of_getElem? hx)
          obtain ⟨j, rfl⟩ : ∃ j : Nat, x = (j : Int) := ⟨x.toNat, by omega⟩
          have hjn : j < n := by omega
          obtain ⟨b, off, rfl, hb, H⟩ := h.at_ (by omega)
          obtain ⟨e, he⟩ := h.get hjn
          obtain ⟨c0, _, _, _⟩ := (H.below HR.out.bel hb).q4 he
          have y0 := H2.i1 hx
          have Hx := Lib.hid hx
          have hlp : lowP es f (j : Int) = decide (e.a < f) := by rw [lowP, metreOf_at he]
          have Hlp := Lib.hid hlp
          clear hx he j1 j2 hlp H2 hS2
          by_cases hlo : e.a < f
          · go_wp2_with (at_builtin; refine wpList_push_at rfl _ _ 23 rfl w.heap.size 2 i0 (.int .i64 0) 1 8 Try.underlying23 hi hz0 hz1 hz2 rfl (by omega) icell_len icell_one _ _ (j : Int) rfl HR.out.b _ rfl _ rfl (by first | rfl | simp) (by omega) (by omega) hbz ?_; intro v3 w3 ho3 hg3 hat3; have HR3 := Lib.hid (HR.out.push9 hbz ho3 hg3 hat3); clear ho3 hg3 hat3)
            go_roundw
            case rel => exact ⟨k + 1, by omega, by go_num, Lib.hid (by
              rw [part_yes Hx.out (by rw [Hlp.out]; simp [hlo]), part_no Hx.out (by rw [Hlp.out]; simp [hlo])]; exact HR3.out)⟩
            case measure => simp [intOf]; omega
          · go_wp2_with (at_builtin; refine wpList_push_at rfl _ _ 23 rfl w.heap.size 2 i0 (.int .i64 0) 1 8 Try.underlying23 hi hz0 hz1 hz2 rfl (by omega) icell_len icell_one _ _ (j : Int) rfl HR.out.c _ rfl _ rfl (by first | rfl | simp) (by omega) (by omega) hbz ?_; intro v3 w3 ho3 hg3 hat3; have HR3 := Lib.hid (HR.out.push10 hbz ho3 hg3 hat3); clear ho3 hg3 hat3)
            go_roundw
            case rel => exact ⟨k + 1, by omega, by go_num, Lib.hid (by
              rw [part_no Hx.out (by rw [Hlp.out]; simp [hlo]), part_yes Hx.out (by rw [Hlp.out]; simp [hlo])]; exact HR3.out)⟩
            case measure => simp [intOf]; omega
        · have hkn : xs.take k = xs := List.take_of_length_le (by rw [Hl2.out]; omega)
          rw [hkn] at HR hl9 hl10
          clear hkn hq9 hq10
          have hm9 := part_len es f true xs
          have hm10 := part_len es f false xs
          have Hb := Lib.hid HR.out.bel
          have hsb := own_sl HR.out.b icell_len
          have hsc := own_sl HR.out.c icell_len
          have hS := h.on HR.out.bel
          have hmx : n9 ≤ n2 ∧ n10 ≤ n2 := by have := Hl2.out; omega
          obtain ⟨hmx9, hmx10⟩ := hmx
          clear HR hl9 hl10 hm9 hm10
          go_wp2_with fail
          refine (impl_byMetre (-1) (.inr rfl) A n c es A9 n9 c9 (partL es f true xs) wr hmax (by omega) Hok.out (part_in Hin.out) (part_ord Hord.out) hS hsb).mono ?_
          rintro e w3 ⟨v3, rfl, ho3, hb3⟩
          have HO3 : Hid (Own w3 wr.heap.size 2 1 icell v3 (wayOf es day f true)) := Lib.hid (by rw [wayOf_t, Hxs.out]; exact ho3)
          obtain ⟨A3, n3, c3, rfl, hl3, _⟩ := own_shape HO3.out
          clear ho3 hsb
          go_wp2_with fail
          refine (impl_byMetre 1 (.inl rfl) A n c es A10 n10 c10 (partL es f false xs) w3 hmax (by omega) Hok.out (part_in Hin.out) (part_ord Hord.out) (hS.on hb3) (hsc.on hb3)).mono ?_
          rintro e w4 ⟨v4, rfl, ho4, hb4⟩
          have HO4 : Hid (Own w4 w3.heap.size 2 1 icell v4 (wayOf es day f false)) := Lib.hid (by rw [wayOf_f, Hxs.out]; exact ho4)
          obtain ⟨A4, n4, c4, rfl, hl4, _⟩ := own_shape HO4.out
          clear ho4 hsc
          have hw3 := way_len es day f true
          have hw4 := way_len es day f false
          rw [Hn.out] at hw3 hw4
          have hn60 : n ≤ 60 := by have := (defects_all Hok.out).1; rw [Hn.out] at this; exact this
          have hs3 := own_sl (HO3.out.below hb4 (Nat.le_refl _)) icell_len
          have hs4 := own_sl HO4.out icell_len
          have HB4 := Lib.hid (Hb.out.trans ((below_then hb3 hb4).mono hbz))
          have hS4 := h.on HB4.out
          have hsz4 := HB4.out.size
          clear hS hb3 hb4
          go_wp2_with fail
          refine (impl_clone_int64 A3 n3 c3 _ w4 (by omega) hs3).mono ?_
          rintro e w5 ⟨v5, rfl, ho5, hb5⟩
          have HO5 := Lib.hid ho5
          clear ho5
          go_wp2_with (at_builtin; refine wpList_app rfl _ _ 23 rfl w4.heap.size 2 i0 _ 1 8 Try.underlying23 hi hz0 hz1 hz2 rfl (by omega) icell_len icell_one v5 (wayOf es day f true) (wayOf es day f false) rfl HO5.out w5.heap.size A4 n4 c4 rfl (hs4.on hb5) (by omega) (by omega) (by omega) hb5.size ?_; intro v6 w6 ho6 hg6; have HO6 := Lib.hid ho6; have hb6 := own_grown hb5 HO5.out (Nat.le_refl _) hb5.size hg6; clear ho6 hg6)
          refine (impl_clone_int64 A4 n4 c4 _ w6 (by omega) (hs4.on hb6)).mono ?_
          rintro e w7 ⟨v7, rfl, ho7, hb7⟩
          have HO7 := Lib.hid ho7
          have hb67 := below_then hb6 hb7
          clear ho7
          go_wp2_with (at_builtin; refine wpList_app rfl _ _ 23 rfl w6.heap.size 2 i0 _ 1 8 Try.underlying23 hi hz0 hz1 hz2 rfl (by omega) icell_len icell_one v7 (wayOf es day f false) (wayOf es day f true) rfl HO7.out w7.heap.size A3 n3 c3 rfl (hs3.on hb67) (by omega) (by omega) (by omega) hb7.size ?_; intro v8 w8 ho8 hg8; have HO8 := Lib.hid ho8; have hb8 := own_grown hb7 HO7.out (Nat.le_refl _) hb7.size hg8; clear ho8 hg8)
          obtain ⟨A6, n6, c6, rfl, hl6, _⟩ := own_shape HO6.out
          obtain ⟨A8, n8, c8, rfl, hl8, _⟩ := own_shape HO8.out
          rw [List.length_append] at hl6 hl8
          have hb48 := below_then hb6 hb8
          have HP6 : Hid (Own w8 w4.heap.size 2 1 icell (.slice A6 n6 c6) (oneOf es day f)) := Lib.hid (HO6.out.below hb8 (Nat.le_refl _))
          have HP8 : Hid (Own w8 w6.heap.size 2 1 icell (.slice A8 n8 c8) (twoOf es day f)) := HO8
          have hs6 := own_sl HP6.out icell_len
          have hs8 := own_sl HP8.out icell_len
          have hw46 := hb6.size
          have hi1 : inDef n (oneOf es day f) := inDef_app (way_in es day f true n Hn.out) (way_in es day f false n Hn.out)
          have hi2 : inDef n (twoOf es day f) := inDef_app (way_in es day f false n Hn.out) (way_in es day f true n Hn.out)
          have Hi1 := Lib.hid hi1
          have Hi2 := Lib.hid hi2
          clear hi1 hi2 HO5 HO6 HO7 HO8 hs3 hs4 hb5 hb7 hb67
          refine (impl_routeMetres A n c es f A8 n8 c8 (twoOf es day f) w8 hmax (by omega) Hok.out Hf.out Hi2.out (hS4.on hb48) hs8).mono ?_
          rintro e w9 ⟨rfl, hb9⟩
          go_wp2_with fail
          refine (impl_routeMetres A n c es f A6 n6 c6 (oneOf es day f) w9 hmax (by omega) Hok.out Hf.out Hi1.out ((hS4.on hb48).on hb9) (hs6.on hb9)).mono ?_
          rintro e w10 ⟨rfl, hb10⟩
          have hb910 := below_then hb9 hb10
          have hBall := HB4.out.trans ((below_then hb48 hb910).mono hsz4)
          by_cases hc : (routeFold es f (twoOf es day f)).1 < (routeFold es f (oneOf es day f)).1
          · go_wp2_with fail
            go_ret2
            exact ⟨_, rfl, by rw [best_two hc]; exact (HP8.out.below hb910 (Nat.le_refl _)).base_le (by omega), hBall⟩
          · go_wp2_with fail
            go_ret2
            exact ⟨_, rfl, by rw [best_one (by omega)]; exact (HP6.out.below hb910 (Nat.le_refl _)).base_le (by omega), hBall⟩
    · rw [roOut_neg (by rw [roCode_rng k0 k3]; omega), roCode_rng k0 k3]
      go_enter Try.func19, Try.ntmps19
      go_wp2_with (first
        | (go_at_call 44; refine (impl_defectsCode _ _ _ es _ _ hmax h).mono ?_; rintro e w1 ⟨rfl, hb1⟩; rw [k0])
        | (go_at_call 45; refine (impl_isMetre _ _).mono ?_; rintro e w' ⟨rfl, rfl⟩; rw [k3]))
      go_ret2
      exact ⟨_, rfl, own_new_empty _ _ _ _ _ hb1.size, below_al hb1 _⟩
  · rw [roOut_neg (by rw [roCode_bad k0]; exact k0), roCode_bad k0]
    have hne : (dcode es day != 0) = true := by simpa using k0
    go_enter Try.func19, Try.ntmps19
    go_wp2_with (go_at_call 44; refine (impl_defectsCode _ _ _ es _ _ hmax h).mono ?_; rintro e w1 ⟨rfl, hb1⟩)
    go_ret2
    exact ⟨_, rfl, own_new_empty _ _ _ _ _ hb1.size, below_al hb1 _⟩

end Go.Proofs.Ytgbblcbpmpokdaa

/- Walks over functions of this seat, by contract. Conditions: those that each theorem states. -/
import Derived.Test.YtolnbbfbeieicaaA2
import Derived.Test.YtolnbbfbeieicaaStp
namespace Go.Proofs.Ytolnbbfbeieicaa
open Go.RowKit Go.Sort

theorem spec_l00Max (a b : Int) (w : World) : Calls Try.prog 25 #[.int .i64 a, .int .i64 b] w fun e w' => e = .returned (.int .i64 (max a b)) ∧ w = w' := by
  go_enter Try.func25, Try.ntmps25
  go_wp2
  all_goals (go_ret; exact ⟨ret_int (by omega), rfl⟩)
theorem l16Stage_r (A : Option Addr) (n c : Nat) (es : List Int) (x : Int) (r : Int) (hr : (stg es x : Int) = r) (w : World) (hmax : n ≤ 1048576) (h : Sl w w.heap.size 1 icell A n es) :
    Calls Try.prog 24 #[.slice A n c, .int .i64 x] w fun e w' => e = .returned (.int .i64 r) ∧ w = w' := by
  subst hr; exact spec_l16Stage A n c es x w hmax h
set_option maxHeartbeats 1000000 in
theorem spec_l16Stages (A B : Option Addr) (n c m d : Nat) (es ls : List Int) (hd : Nat) (w : World) (hmax : n ≤ 1048576) (hm : m ≤ 1048576) (hhd : hd ≤ 100) (h : Sl w w.heap.size 1 icell A n es) (h2 : Sl w w.heap.size 1 icell B m ls) :
    Calls Try.prog 14 #[.slice A n c, .slice B m d, .int .i64 (hd : Int)] w fun e w' => ∃ v, e = .returned v ∧ Own w' w.heap.size 2 1 icell v (stagesTo (sAt es ls) hd m) ∧ Below w.heap.size w w' := by
  obtain ⟨i0, hi, hz0, hz1, hz2⟩ := info_parts info_i64
  go_enter Try.func14, Try.ntmps14
  go_wp2
  go_loopw [7, 8, 9] (fun v t i wr => ∃ (k : Nat) (x : Int), k ≤ m ∧ i = .int .i64 k ∧ t = .int .i64 x ∧ Hid (x = nowA (sAt es ls) hd k) ∧ Hid (Own wr w.heap.size 2 1 icell v (stagesTo (sAt es ls) hd k)) ∧ Below w.heap.size w wr) (fun _ _ i _ => m - (intOf i).toNat)
  case atStart => exact ⟨0, 0, by omega, rfl, rfl, Lib.hid rfl, Lib.hid (own_new_empty _ _ _ _ _ (Nat.le_refl _)), below_al (Below.refl _ _) _⟩
  case round =>
    obtain ⟨k, t, hk, rfl, rfl, Ht, Hown, hbel⟩ := hrel
    have HL := Lib.hid (stagesTo_len (sAt es ls) hd k)
    by_cases hlt : k < m
    · obtain ⟨b, off, rfl, hb, H⟩ := h2.at_ (by omega)
      obtain ⟨x, hx⟩ := h2.get hlt
      have c0 := (H.below hbel hb).i1 hx
      obtain ⟨s, hs⟩ : ∃ s : Int, (stg es x : Int) = s := ⟨_, rfl⟩
      have Hs := Lib.hid hs
      have HS : Hid (sAt es ls k = s) := Lib.hid (by rw [sAt_get hx, hs])
      clear hx hs
      rcases Int.lt_or_le s t with hst | hst
      · rcases Nat.lt_or_ge k hd with hkd | hkd
        · go_wp2_with (first | (go_at_call 24; refine (l16Stage_r _ _ _ es _ s Hs.out _ hmax (h.on hbel)).mono ?_; rintro e w' ⟨rfl, rfl⟩) | (at_builtin; refine wpList_push rfl _ _ 22 rfl w.heap.size 2 i0 (.int .i64 0) 1 8 Try.underlying22 hi hz0 hz1 hz2 rfl (by omega) icell_len (fun e u hu => by simp [icell] at hu; subst hu; rfl) _ _ (t) rfl (Hown.out) _ rfl _ rfl (by first | rfl | simp) (by rw [HL.out]; omega) (by omega) (hbel.size) ?_; intro v2 w2 ho2 hg2; have hbel2 := own_grown hbel Hown.out (Nat.le_refl _) hbel.size hg2; have Ho2 := Lib.hid ho2; clear ho2 hg2))
          go_roundw
          case rel => exact ⟨k + 1, t, by omega, by go_num, rfl, Lib.hid (by rw [nowA_succ, nxt, HS.out, ← Ht.out, if_neg (by omega), if_neg (by omega)]), Lib.hid (by rw [stagesTo_succ, nowA_succ, nxt, HS.out, ← Ht.out, if_neg (by omega), if_neg (by omega)]; exact Ho2.out), hbel2⟩
          case measure => simp [intOf]; omega
        · obtain ⟨q, hq⟩ : ∃ q : Nat, (k : Int) - (hd : Int) = (q : Int) := ⟨k - hd, by omega⟩
          have hqk : q + hd = k := by omega
          have Hqk := Lib.hid hqk
          have hqk' : q ≤ k := by omega
          clear hqk
          go_wp2_with (go_at_call 24; refine (l16Stage_r _ _ _ es _ s Hs.out _ hmax (h.on hbel)).mono ?_; rintro e w' ⟨rfl, rfl⟩)
          go_loop [10, 11] (fun u j => ∃ (p : Nat) (y : Int), q ≤ p ∧ p ≤ k ∧ j = .int .i64 p ∧ u = .int .i64 y ∧ Hid (y = mxS (sAt es ls) q s (p - q))) (fun _ j => k - (intOf j).toNat)
          case atStart => exact ⟨q, s, by omega, by omega, by first | rfl | go_num | omega, rfl, Lib.hid (by rw [Nat.sub_self]; rfl)⟩
          case round =>
            obtain ⟨p, y, hqp, hpk, rfl, rfl, Hy⟩ := hrel
            by_cases hlt2 : p < k
            · obtain ⟨xp, hxp⟩ := h2.get (k := p) (by omega)
              have c1 := (H.below hbel hb).i1 hxp
              obtain ⟨sp, hsp⟩ : ∃ s : Int, (stg es xp : Int) = s := ⟨_, rfl⟩
              have Hsp := Lib.hid hsp
              have HSp : Hid (sAt es ls p = sp) := Lib.hid (by rw [sAt_get hxp, hsp])
              clear hxp hsp
              go_wp2_with (first | (go_at_call 24; refine (l16Stage_r _ _ _ es _ sp Hsp.out _ hmax (h.on hbel)).mono ?_; rintro e w' ⟨rfl, rfl⟩) | (go_at_call 25; refine (spec_l00Max _ _ _).mono ?_; rintro e w' ⟨rfl, rfl⟩))
              go_round
              case rel => exact ⟨p + 1, max y sp, by omega, by omega, by go_num, rfl, Lib.hid (by rw [show p + 1 - q = (p - q) + 1 by omega, mxS_succ, show q + (p - q) = p by omega, HSp.out, ← Hy.out]; split <;> omega)⟩
              case measure => simp [intOf]; omega
            · have hpk2 : p = k := by omega
              subst hpk2
              have Hn : Hid (nowA (sAt es ls) hd (p + 1) = min t y) := Lib.hid (by
                have hpd : p - q = hd := by have := Hqk.out; omega
                have hpq : p - hd = q := by have := Hqk.out; omega
                have hy := Hy.out
                rw [hpd] at hy
                rw [nowA_succ, nxt, HS.out, ← Ht.out, if_neg (by omega), if_pos hkd, hpq, ← hy]; split <;> omega)
              go_wp2_with (first | (go_at_call 26; refine (spec_l00Min _ _ _).mono ?_; rintro e w' ⟨rfl, rfl⟩) | (at_builtin; refine wpList_push rfl _ _ 22 rfl w.heap.size 2 i0 (.int .i64 0) 1 8 Try.underlying22 hi hz0 hz1 hz2 rfl (by omega) icell_len (fun e u hu => by simp [icell] at hu; subst hu; rfl) _ _ (min t y) rfl (Hown.out) _ rfl _ rfl (by first | rfl | simp) (by rw [HL.out]; omega) (by omega) (hbel.size) ?_; intro v2 w2 ho2 hg2; have hbel2 := own_grown hbel Hown.out (Nat.le_refl _) hbel.size hg2; have Ho2 := Lib.hid ho2; clear ho2 hg2))
              go_roundw
              case rel => exact ⟨p + 1, min t y, by omega, by go_num, rfl, Lib.hid Hn.out.symm, Lib.hid (by rw [stagesTo_succ, Hn.out]; exact Ho2.out), hbel2⟩
              case measure => simp [intOf]; omega
      · go_wp2_with (first | (go_at_call 24; refine (l16Stage_r _ _ _ es _ s Hs.out _ hmax (h.on hbel)).mono ?_; rintro e w' ⟨rfl, rfl⟩) | (at_builtin; refine wpList_push rfl _ _ 22 rfl w.heap.size 2 i0 (.int .i64 0) 1 8 Try.underlying22 hi hz0 hz1 hz2 rfl (by omega) icell_len (fun e u hu => by simp [icell] at hu; subst hu; rfl) _ _ (s) rfl (Hown.out) _ rfl _ rfl (by first | rfl | simp) (by rw [HL.out]; omega) (by omega) (hbel.size) ?_; intro v2 w2 ho2 hg2; have hbel2 := own_grown hbel Hown.out (Nat.le_refl _) hbel.size hg2; have Ho2 := Lib.hid ho2; clear ho2 hg2))
        go_roundw
        case rel => exact ⟨k + 1, s, by omega, by go_num, rfl, Lib.hid (by rw [nowA_succ, nxt, HS.out, ← Ht.out, if_pos hst]), Lib.hid (by rw [stagesTo_succ, nowA_succ, nxt, HS.out, ← Ht.out, if_pos hst]; exact Ho2.out), hbel2⟩
        case measure => simp [intOf]; omega
    · go_wp2
      go_ret
      have hkm : k = m := by omega
      subst hkm
      exact ⟨_, rfl, Hown.out, hbel⟩
theorem stageOf_r (A : Option Addr) (n c : Nat) (es : List Int) (x : Int) (r : Int) (hr : (stg es x : Int) = r) (w : World) (hmax : n ≤ 1048576) (h : Sl w w.heap.size 1 icell A n es) :
    Calls Try.prog 29 #[.slice A n c, .int .i64 x] w fun e w' => e = .returned (.int .i64 r) ∧ Below w.heap.size w w' := by
  subst hr; exact impl_stageOf A n c es x w hmax h
theorem greatest_r (A : Option Addr) (n c : Nat) (xs : List Int) (r : Int) (hr : gmax xs = r) (w : World) (hmax : n ≤ 1048576) (hpos : 0 < n) (h : Sl w w.heap.size 1 icell A n xs) :
    Calls Try.prog 30 #[.slice A n c] w fun e w' => e = .returned (.int .i64 r) ∧ Below w.heap.size w w' := by
  subst hr; exact impl_greatest A n c xs w hmax hpos h
theorem ap_sym {a b : Option Nat} (h : a = none ∨ a ≠ b) : b = none ∨ b ≠ a := by
  rcases h with h | h
  · cases b with
    | none => exact .inl rfl
    | some y => right; rw [h]; simp
  · exact .inr h.symm
set_option maxHeartbeats 2000000 in
theorem impl_alarmStages (A B : Option Addr) (n c m d : Nat) (es ls : List Int) (hd : Nat) (w : World) (hmax : n ≤ 1048576) (hm : m ≤ 1048576) (hhd : hd ≤ 100) (h : Sl w w.heap.size 1 icell A n es) (h2 : Sl w w.heap.size 1 icell B m ls) :
    Calls Try.prog 17 #[.slice A n c, .slice B m d, .int .i64 (hd : Int)] w fun e w' => ∃ v, e = .returned v ∧ Own w' w.heap.size 2 1 icell v (stagesTo (sAt es ls) hd m) ∧ Below w.heap.size w w' := by
  obtain ⟨i0, hi, hz0, hz1, hz2⟩ := info_parts info_i64
  go_enter Try.func17, Try.ntmps17
  go_wp2
  go_loopw [7, 8, 9, 17] (fun v u t i wr => ∃ (k : Nat) (x : Int), k ≤ m ∧ i = .int .i64 k ∧ t = .int .i64 x ∧ Hid (x = nowA (sAt es ls) hd k) ∧ Hid (Own wr w.heap.size 2 1 icell v (stagesTo (sAt es ls) hd k)) ∧ Hid (Own wr w.heap.size 2 1 icell u (sTo (sAt es ls) k)) ∧ Hid (v.ownBlock = none ∨ v.ownBlock ≠ u.ownBlock) ∧ Below w.heap.size w wr) (fun _ _ _ i _ => m - (intOf i).toNat)
  case atStart => exact ⟨0, 0, by omega, rfl, rfl, Lib.hid rfl, Lib.hid (own_alloc (own_new_empty _ _ _ _ _ (Nat.le_refl _)) _), Lib.hid (by have hx := own_new_empty (w.alloc (.cells #[] 2)) w.heap.size 2 1 icell (below_al (Below.refl _ _) _).size; rw [show (w.alloc (.cells #[] 2)).heap.size = w.heap.size + 1 from by simp] at hx; exact hx), Lib.hid (by right; simp [Value.ownBlock]), below_al (below_al (Below.refl _ _) _) _⟩
  case round =>
    obtain ⟨k, t, hk, rfl, rfl, Ht, Hown, Hsn, HA, hbel⟩ := hrel
    have HL := Lib.hid (stagesTo_len (sAt es ls) hd k)
    have HL2 := Lib.hid (sTo_len (sAt es ls) k)
    by_cases hlt : k < m
    · obtain ⟨b, off, rfl, hb, H⟩ := h2.at_ (by omega)
      obtain ⟨x, hx⟩ := h2.get hlt
      have c0 := (H.below hbel hb).i1 hx
      obtain ⟨s, hs⟩ : ∃ s : Int, (stg es x : Int) = s := ⟨_, rfl⟩
      have Hs := Lib.hid hs
      have HS : Hid (sAt es ls k = s) := Lib.hid (by rw [sAt_get hx, hs])
      clear hx hs
      go_wp2_with (first | (go_at_call 29; refine (stageOf_r _ _ _ es _ s Hs.out _ hmax (h.on hbel)).mono ?_; rintro e w1 ⟨rfl, hb1⟩) | ((at_builtin; refine wpList_push_at rfl _ _ 22 rfl w.heap.size 2 i0 (.int .i64 0) 1 8 Try.underlying22 hi hz0 hz1 hz2 rfl (by omega) icell_len (fun e u hu => by simp [icell] at hu; subst hu; rfl) _ _ (s) rfl (Own.below Hsn.out hb1 (Nat.le_refl _)) _ rfl _ rfl (by first | rfl | simp) (by rw [HL2.out]; omega) (by omega) (Nat.le_trans hbel.size hb1.size) ?_; intro v2 w2 ho2 hg2 hat2; have hbel2 := own_grown (below_then hbel hb1) (Own.below Hsn.out hb1 (Nat.le_refl _)) (Nat.le_refl _) (Nat.le_trans hbel.size hb1.size) hg2; have HO2 := Lib.hid (own_other (Own.below Hown.out hb1 (Nat.le_refl _)) HA.out hg2); have HA2 := Lib.hid (apart_next (Own.below Hown.out hb1 (Nat.le_refl _)) HA.out (Nat.le_succ _) hat2); have Hs2 := Lib.hid ho2; clear ho2 hg2 hat2); refine Hid.out ?_))
      refine Lib.hid ?_
      have hs2 : Own w2 w.heap.size 2 1 icell v2 (sTo (sAt es ls) (k + 1)) := by rw [sTo_succ, HS.out]; exact Hs2.out
      obtain ⟨g, c2, rfl, hgb, hgl, _⟩ := own_block_of hs2 (sTo_len _ _) (Nat.succ_pos k)
      have hgk := own_has hs2 icell_len
      have Hs3 := Lib.hid hs2
      have d0 := hgk.i1 (k := k) (by rw [sTo_get (Nat.lt_succ_self k), HS.out])
      have HA3 := Lib.hid (ap_sym HA2.out)
      simp only [Nat.zero_add] at d0
      clear hs2
      have hkc2 : k + 1 ≤ c2 := by
        obtain ⟨A', n', c', he, hl', hc'⟩ := own_shape Hs3.out
        injection he with _ e2 e3
        omega
      rcases Int.lt_or_le s t with hst | hst
      · rcases Nat.lt_or_ge k hd with hkd | hkd
        · have HN : Hid (nowA (sAt es ls) hd (k + 1) = t) := Lib.hid (by rw [nowA_succ, nxt, HS.out, ← Ht.out, if_neg (by omega), if_neg (by omega)])
          have hfn : ¬ (0 : Int) ≤ (k : Int) - (hd : Int) := by omega
          go_wp2_with (first | (at_builtin; refine wpList_push_at rfl _ _ 22 rfl w.heap.size 2 i0 (.int .i64 0) 1 8 Try.underlying22 hi hz0 hz1 hz2 rfl (by omega) icell_len (fun e u hu => by simp [icell] at hu; subst hu; rfl) _ _ (t) rfl (HO2.out) _ rfl _ rfl (by first | rfl | simp) (by rw [HL.out]; omega) (by omega) (hbel2.size) ?_; intro v4 w4 ho4 hg4 hat4; have hbel4 := own_grown hbel2 HO2.out (Nat.le_refl _) hbel2.size hg4; have Hs4 := Lib.hid (own_other Hs3.out HA3.out hg4); have HA4 := Lib.hid (apart_next Hs3.out HA3.out (Nat.le_succ _) hat4); have HO4 := Lib.hid ho4; clear ho4 hg4 hat4))
          go_roundw
          case rel => exact ⟨k + 1, t, by omega, by go_num, rfl, Lib.hid HN.out.symm, Lib.hid (by rw [stagesTo_succ, HN.out]; exact HO4.out), Hs4, Lib.hid (ap_sym HA4.out), hbel4⟩
          case measure => simp [intOf]; omega
        · obtain ⟨q, hq⟩ : ∃ q : Nat, (k : Int) - (hd : Int) = (q : Int) := ⟨k - hd, by omega⟩
          obtain ⟨y, hy⟩ : ∃ y : Int, gmax ((sTo (sAt es ls) (k + 1)).drop (k - hd)) = y := ⟨_, rfl⟩
          have Hgm := Lib.hid hy
          have hqk' : q = k - hd := by omega
          have Hqk : Hid (q + hd = k ∧ q = k - hd) := Lib.hid ⟨by omega, hqk'⟩
          have hback : Sl w2 w2.heap.size 1 icell (some ⟨g, q, none⟩) (k + 1 - q) ((sTo (sAt es ls) (k + 1)).drop q) := by
            have := (own_sl Hs3.out icell_len).back q c2 (by omega) hkc2
            rw [if_neg (by omega)] at this; simpa [Addr.add_lit] using this
          have Hback := Lib.hid hback
          have hq0 : (0 : Int) ≤ (q : Int) := by omega
          have hqc : (q : Int) ≤ (c2 : Int) := by omega
          have hqk1 : (q : Int) ≤ (k : Int) + 1 := by omega
          have hqk2 : q ≤ k + 1 := by omega
          have hqne : ¬ c2 = q := by omega
          have hfp : (0 : Int) ≤ (k : Int) - (hd : Int) := by omega
          have hlen : k + 1 - q ≤ 1048576 := by omega
          have hpos : 0 < k + 1 - q := by omega
          have nxtq : nowA (sAt es ls) hd (k + 1) = nxt (sAt es ls) hd k (nowA (sAt es ls) hd k) := rfl
          have Hgq : Hid (gmax ((sTo (sAt es ls) (k + 1)).drop q) = y) := Lib.hid (by rw [hqk']; exact hy)
          clear hy hqk' hback
          rcases Int.lt_or_le y t with hyt | hyt
          · have HN : Hid (nowA (sAt es ls) hd (k + 1) = y) := Lib.hid (by rw [nxtq, nxt_impl (m := t) (by rw [HS.out, ← Ht.out]; omega) hkd, Hgm.out]; omega)
            go_wp2_with (first | (go_at_call 30; refine (greatest_r _ _ _ ((sTo (sAt es ls) (k + 1)).drop q) y Hgq.out _ hlen hpos (by exact Hback.out)).mono ?_; rintro e w3 ⟨rfl, hb3⟩; have HO3 := Lib.hid (Own.below HO2.out hb3 (Nat.le_refl _)); have Hs5 := Lib.hid (Own.below Hs3.out hb3 (Nat.le_refl _)); have hbel3 := below_then hbel2 hb3) | (at_builtin; refine wpList_push_at rfl _ _ 22 rfl w.heap.size 2 i0 (.int .i64 0) 1 8 Try.underlying22 hi hz0 hz1 hz2 rfl (by omega) icell_len (fun e u hu => by simp [icell] at hu; subst hu; rfl) _ _ (y) rfl (HO3.out) _ rfl _ rfl (by first | rfl | simp) (by rw [HL.out]; omega) (by omega) (hbel3.size) ?_; intro v4 w4 ho4 hg4 hat4; have hbel4 := own_grown hbel3 HO3.out (Nat.le_refl _) hbel3.size hg4; have Hs4 := Lib.hid (own_other Hs5.out HA3.out hg4); have HA4 := Lib.hid (apart_next Hs5.out HA3.out (Nat.le_succ _) hat4); have HO4 := Lib.hid ho4; clear ho4 hg4 hat4))
            go_roundw
            case rel => exact ⟨k + 1, y, by omega, by go_num, rfl, Lib.hid HN.out.symm, Lib.hid (by rw [stagesTo_succ, HN.out]; exact HO4.out), Hs4, Lib.hid (ap_sym HA4.out), hbel4⟩
            case measure => simp [intOf]; omega
          · have HN : Hid (nowA (sAt es ls) hd (k + 1) = t) := Lib.hid (by rw [nxtq, nxt_impl (m := t) (by rw [HS.out, ← Ht.out]; omega) hkd, Hgm.out]; omega)
            go_wp2_with (first | (go_at_call 30; refine (greatest_r _ _ _ ((sTo (sAt es ls) (k + 1)).drop q) y Hgq.out _ hlen hpos (by exact Hback.out)).mono ?_; rintro e w3 ⟨rfl, hb3⟩; have HO3 := Lib.hid (Own.below HO2.out hb3 (Nat.le_refl _)); have Hs5 := Lib.hid (Own.below Hs3.out hb3 (Nat.le_refl _)); have hbel3 := below_then hbel2 hb3) | (at_builtin; refine wpList_push_at rfl _ _ 22 rfl w.heap.size 2 i0 (.int .i64 0) 1 8 Try.underlying22 hi hz0 hz1 hz2 rfl (by omega) icell_len (fun e u hu => by simp [icell] at hu; subst hu; rfl) _ _ (t) rfl (HO3.out) _ rfl _ rfl (by first | rfl | simp) (by rw [HL.out]; omega) (by omega) (hbel3.size) ?_; intro v4 w4 ho4 hg4 hat4; have hbel4 := own_grown hbel3 HO3.out (Nat.le_refl _) hbel3.size hg4; have Hs4 := Lib.hid (own_other Hs5.out HA3.out hg4); have HA4 := Lib.hid (apart_next Hs5.out HA3.out (Nat.le_succ _) hat4); have HO4 := Lib.hid ho4; clear ho4 hg4 hat4))
            go_roundw
            case rel => exact ⟨k + 1, t, by omega, by go_num, rfl, Lib.hid HN.out.symm, Lib.hid (by rw [stagesTo_succ, HN.out]; exact HO4.out), Hs4, Lib.hid (ap_sym HA4.out), hbel4⟩
            case measure => simp [intOf]; omega
      · rcases Nat.lt_or_ge k hd with hkd | hkd
        · have HN : Hid (nowA (sAt es ls) hd (k + 1) = s) := Lib.hid (by rw [nowA_succ, nxt, HS.out, ← Ht.out, if_pos hst])
          have hfn : ¬ (0 : Int) ≤ (k : Int) - (hd : Int) := by omega
          rcases Int.lt_or_le t s with hts | hts
          · go_wp2_with (first | (at_builtin; refine wpList_push_at rfl _ _ 22 rfl w.heap.size 2 i0 (.int .i64 0) 1 8 Try.underlying22 hi hz0 hz1 hz2 rfl (by omega) icell_len (fun e u hu => by simp [icell] at hu; subst hu; rfl) _ _ (s) rfl (HO2.out) _ rfl _ rfl (by first | rfl | simp) (by rw [HL.out]; omega) (by omega) (hbel2.size) ?_; intro v4 w4 ho4 hg4 hat4; have hbel4 := own_grown hbel2 HO2.out (Nat.le_refl _) hbel2.size hg4; have Hs4 := Lib.hid (own_other Hs3.out HA3.out hg4); have HA4 := Lib.hid (apart_next Hs3.out HA3.out (Nat.le_succ _) hat4); have HO4 := Lib.hid ho4; clear ho4 hg4 hat4))
            go_roundw
            case rel => exact ⟨k + 1, s, by omega, by go_num, rfl, Lib.hid HN.out.symm, Lib.hid (by rw [stagesTo_succ, HN.out]; exact HO4.out), Hs4, Lib.hid (ap_sym HA4.out), hbel4⟩
            case measure => simp [intOf]; omega
          · have hts' : t = s := by omega
            subst hts'
            go_wp2_with (first | (at_builtin; refine wpList_push_at rfl _ _ 22 rfl w.heap.size 2 i0 (.int .i64 0) 1 8 Try.underlying22 hi hz0 hz1 hz2 rfl (by omega) icell_len (fun e u hu => by simp [icell] at hu; subst hu; rfl) _ _ (t) rfl (HO2.out) _ rfl _ rfl (by first | rfl | simp) (by rw [HL.out]; omega) (by omega) (hbel2.size) ?_; intro v4 w4 ho4 hg4 hat4; have hbel4 := own_grown hbel2 HO2.out (Nat.le_refl _) hbel2.size hg4; have Hs4 := Lib.hid (own_other Hs3.out HA3.out hg4); have HA4 := Lib.hid (apart_next Hs3.out HA3.out (Nat.le_succ _) hat4); have HO4 := Lib.hid ho4; clear ho4 hg4 hat4))
            go_roundw
            case rel => exact ⟨k + 1, t, by omega, by go_num, rfl, Lib.hid HN.out.symm, Lib.hid (by rw [stagesTo_succ, HN.out]; exact HO4.out), Hs4, Lib.hid (ap_sym HA4.out), hbel4⟩
            case measure => simp [intOf]; omega
        · obtain ⟨q, hq⟩ : ∃ q : Nat, (k : Int) - (hd : Int) = (q : Int) := ⟨k - hd, by omega⟩
          obtain ⟨y, hy⟩ : ∃ y : Int, gmax ((sTo (sAt es ls) (k + 1)).drop (k - hd)) = y := ⟨_, rfl⟩
          have Hgm := Lib.hid hy
          have hqk' : q = k - hd := by omega
          have Hqk : Hid (q + hd = k ∧ q = k - hd) := Lib.hid ⟨by omega, hqk'⟩
          have hback : Sl w2 w2.heap.size 1 icell (some ⟨g, q, none⟩) (k + 1 - q) ((sTo (sAt es ls) (k + 1)).drop q) := by
            have := (own_sl Hs3.out icell_len).back q c2 (by omega) hkc2
            rw [if_neg (by omega)] at this; simpa [Addr.add_lit] using this
          have Hback := Lib.hid hback
          have hq0 : (0 : Int) ≤ (q : Int) := by omega
          have hqc : (q : Int) ≤ (c2 : Int) := by omega
          have hqk1 : (q : Int) ≤ (k : Int) + 1 := by omega
          have hqk2 : q ≤ k + 1 := by omega
          have hqne : ¬ c2 = q := by omega
          have hfp : (0 : Int) ≤ (k : Int) - (hd : Int) := by omega
          have hlen : k + 1 - q ≤ 1048576 := by omega
          have hpos : 0 < k + 1 - q := by omega
          have nxtq : nowA (sAt es ls) hd (k + 1) = nxt (sAt es ls) hd k (nowA (sAt es ls) hd k) := rfl
          have Hgq : Hid (gmax ((sTo (sAt es ls) (k + 1)).drop q) = y) := Lib.hid (by rw [hqk']; exact hy)
          clear hy hqk' hback
          have hsy : s ≤ y := by
            have hq' := Hqk.out
            have h1 := gmax_ge (xs := (sTo (sAt es ls) (k + 1)).drop q) (k := k - q) (x := s) (by rw [List.getElem?_drop, show q + (k - q) = k by omega, sTo_get (Nat.lt_succ_self k), HS.out])
            rw [hq'.2, Hgm.out] at h1; exact h1
          have HN : Hid (nowA (sAt es ls) hd (k + 1) = s) := Lib.hid (by rw [nowA_succ, nxt, HS.out, ← Ht.out, if_pos hst])
          rcases Int.lt_or_le t s with hts | hts
          · go_wp2_with (first | (go_at_call 30; refine (greatest_r _ _ _ ((sTo (sAt es ls) (k + 1)).drop q) y Hgq.out _ hlen hpos (by exact Hback.out)).mono ?_; rintro e w3 ⟨rfl, hb3⟩; have HO3 := Lib.hid (Own.below HO2.out hb3 (Nat.le_refl _)); have Hs5 := Lib.hid (Own.below Hs3.out hb3 (Nat.le_refl _)); have hbel3 := below_then hbel2 hb3) | (at_builtin; refine wpList_push_at rfl _ _ 22 rfl w.heap.size 2 i0 (.int .i64 0) 1 8 Try.underlying22 hi hz0 hz1 hz2 rfl (by omega) icell_len (fun e u hu => by simp [icell] at hu; subst hu; rfl) _ _ (s) rfl (HO3.out) _ rfl _ rfl (by first | rfl | simp) (by rw [HL.out]; omega) (by omega) (hbel3.size) ?_; intro v4 w4 ho4 hg4 hat4; have hbel4 := own_grown hbel3 HO3.out (Nat.le_refl _) hbel3.size hg4; have Hs4 := Lib.hid (own_other Hs5.out HA3.out hg4); have HA4 := Lib.hid (apart_next Hs5.out HA3.out (Nat.le_succ _) hat4); have HO4 := Lib.hid ho4; clear ho4 hg4 hat4))
            go_roundw
            case rel => exact ⟨k + 1, s, by omega, by go_num, rfl, Lib.hid HN.out.symm, Lib.hid (by rw [stagesTo_succ, HN.out]; exact HO4.out), Hs4, Lib.hid (ap_sym HA4.out), hbel4⟩
            case measure => simp [intOf]; omega
          · have hts' : t = s := by omega
            subst hts'
            go_wp2_with (first | (go_at_call 30; refine (greatest_r _ _ _ ((sTo (sAt es ls) (k + 1)).drop q) y Hgq.out _ hlen hpos (by exact Hback.out)).mono ?_; rintro e w3 ⟨rfl, hb3⟩; have HO3 := Lib.hid (Own.below HO2.out hb3 (Nat.le_refl _)); have Hs5 := Lib.hid (Own.below Hs3.out hb3 (Nat.le_refl _)); have hbel3 := below_then hbel2 hb3) | (at_builtin; refine wpList_push_at rfl _ _ 22 rfl w.heap.size 2 i0 (.int .i64 0) 1 8 Try.underlying22 hi hz0 hz1 hz2 rfl (by omega) icell_len (fun e u hu => by simp [icell] at hu; subst hu; rfl) _ _ (t) rfl (HO3.out) _ rfl _ rfl (by first | rfl | simp) (by rw [HL.out]; omega) (by omega) (hbel3.size) ?_; intro v4 w4 ho4 hg4 hat4; have hbel4 := own_grown hbel3 HO3.out (Nat.le_refl _) hbel3.size hg4; have Hs4 := Lib.hid (own_other Hs5.out HA3.out hg4); have HA4 := Lib.hid (apart_next Hs5.out HA3.out (Nat.le_succ _) hat4); have HO4 := Lib.hid ho4; clear ho4 hg4 hat4))
            go_roundw
            case rel => exact ⟨k + 1, t, by omega, by go_num, rfl, Lib.hid HN.out.symm, Lib.hid (by rw [stagesTo_succ, HN.out]; exact HO4.out), Hs4, Lib.hid (ap_sym HA4.out), hbel4⟩
            case measure => simp [intOf]; omega
    · go_wp2
      go_ret
      have hkm : k = m := by omega
      subst hkm
      exact ⟨_, rfl, Hown.out, hbel⟩

end Go.Proofs.Ytolnbbfbeieicaa

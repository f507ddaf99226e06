/- Walks over functions of this seat, by contract. Conditions: those that each theorem states. -/
import Derived.Test.YtgbblcbpmpokdaaV4
import Derived.Test.YtgbblcbpmpokdaaStp
namespace Go.Proofs.Ytgbblcbpmpokdaa
open Go.RowKit Go.Sort

theorem isum_app (xs : List Int) (x : Int) : isum (xs ++ [x]) = isum xs + x := by simp [isum, sumBy]
theorem rests_succ {T s : Int} {ws : List Int} {k : Nat} {x : Int} (hx : ws[k]? = some x) : rests T s (ws.take (k + 1)) = rests T s (ws.take k) ++ [T * x % s] := by
  obtain ⟨hk, he⟩ := List.getElem?_eq_some_iff.1 hx
  rw [List.take_succ_eq_append_getElem hk, rests, List.map_append, he]; rfl
theorem isum_split (xs : List Int) (k : Nat) : isum xs = isum (xs.take k) + isum (xs.drop k) := by
  have e : ∀ a b : List Int, isum (a ++ b) = isum a + isum b := fun a b => by simp [isum, sumBy]
  rw [← e, List.take_append_drop]
theorem left_at {T s : Int} {ws : List Int} (hT : 0 ≤ T ∧ T ≤ 1000000000) (hs : 0 < s) (hsum : isum ws = s) (hws : ∀ x ∈ ws, 0 ≤ x ∧ x ≤ 100000000) (k : Nat) : 0 ≤ T - isum (shares T s (ws.take k)) ∧ T - isum (shares T s (ws.take k)) ≤ 1000000000 := by
  have h0 := (left_bd hs hsum (T := T)).1
  have e1 : shares T s (ws.take k) = (shares T s ws).take k := by unfold shares; rw [List.map_take]
  have h1 := isum_split (shares T s ws) k
  have hb : ∀ x ∈ shares T s ws, 0 ≤ x := fun x hx => by
    obtain ⟨y, hy, rfl⟩ := List.mem_map.1 hx
    exact Int.ediv_nonneg (prod_bd hT (hws y hy)).1 (by omega)
  have h2 : 0 ≤ isum ((shares T s ws).drop k) := isum_nn fun x hx => hb x (List.mem_of_mem_drop hx)
  have h3 : 0 ≤ isum ((shares T s ws).take k) := isum_nn fun x hx => hb x (List.mem_of_mem_take hx)
  rw [e1]
  unfold leftOf at h0
  omega
structure TW (w W : World) (v7 v8 : Value) (L7 L8 : List Int) : Prop where
  p : Own W w.heap.size 2 1 icell v7 L7
  q : Own W w.heap.size 2 1 icell v8 L8
  pq : v7.ownBlock = none ∨ v7.ownBlock ≠ v8.ownBlock
  bel : Below w.heap.size w W
theorem TW.start (w : World) : TW w ((w.alloc (.cells #[] 2)).alloc (.cells #[] 2)) (.slice (some ⟨w.heap.size, 0, none⟩) 0 0) (.slice (some ⟨w.heap.size + 1, 0, none⟩) 0 0) [] [] := by
  have p1 := own_new_empty (α := Int) w w.heap.size 2 1 icell (Nat.le_refl _)
  have p2 := own_new_empty (α := Int) (w.alloc (.cells #[] 2)) w.heap.size 2 1 icell (by simp)
  rw [show (w.alloc (.cells #[] 2)).heap.size = w.heap.size + 1 from by simp] at p2
  exact ⟨own_alloc p1 _, p2, .inr (by simp [Value.ownBlock]), below_al (below_al (Below.refl _ _) _) _⟩
theorem TW.pushp {w W w' : World} {v7 v8 v7' : Value} {L7 L8 L7' : List Int} (h : TW w W v7 v8 L7 L8) (hbase : w.heap.size ≤ W.heap.size) (ho : Own w' w.heap.size 2 1 icell v7' L7') (hg : W.grownBy w' v7.ownBlock) (hat : v7'.ownBlock = v7.ownBlock ∨ v7'.ownBlock = some (W.heap.size + 1)) : TW w w' v7' v8 L7' L8 :=
  ⟨ho, own_other h.q (ap_sym2 h.pq) hg, ap_sym2 (apart_next h.q (ap_sym2 h.pq) (Nat.le_succ _) hat), own_grown h.bel h.p (Nat.le_refl _) hbase hg⟩
theorem TW.pushq {w W w' : World} {v7 v8 v8' : Value} {L7 L8 L8' : List Int} (h : TW w W v7 v8 L7 L8) (hbase : w.heap.size ≤ W.heap.size) (ho : Own w' w.heap.size 2 1 icell v8' L8') (hg : W.grownBy w' v8.ownBlock) (hat : v8'.ownBlock = v8.ownBlock ∨ v8'.ownBlock = some (W.heap.size + 1)) : TW w w' v7 v8' L7 L8' :=
  ⟨own_other h.p h.pq hg, ho, apart_next h.p h.pq (Nat.le_succ _) hat, own_grown h.bel h.q (Nat.le_refl _) hbase hg⟩
theorem TW.setp {w W : World} {g n c : Nat} {v8 : Value} {L7 L8 : List Int} (h : TW w W (.slice (some ⟨g, 0, none⟩) n c) v8 L7 L8) {k : Nat} (hk : k < L7.length) (y : Int) : TW w (W.setCell ⟨g, k, none⟩ (.int .i64 y)) (.slice (some ⟨g, 0, none⟩) n c) v8 (L7.set k y) L8 := by
  have h1 := World.ownsRow.lt h.p g rfl
  have h8 : v8.ownBlock ≠ some g := by
    rcases h.pq with e | e
    · cases e
    · exact fun e2 => e (by show some g = _; rw [e2])
  have := Own.store icell_len h.p (k := k) (j := 0) (e := L7[k]) (e' := y) (u := .int .i64 y) (List.getElem?_eq_getElem hk) (by omega) rfl
  exact ⟨by simpa using this, own_st h.q h8, h.pq, below_st h.bel _ h1.1 _⟩
theorem TW.setq {w W : World} {g n c : Nat} {v7 : Value} {L7 L8 : List Int} (h : TW w W v7 (.slice (some ⟨g, 0, none⟩) n c) L7 L8) {k : Nat} (hk : k < L8.length) (y : Int) : TW w (W.setCell ⟨g, k, none⟩ (.int .i64 y)) v7 (.slice (some ⟨g, 0, none⟩) n c) L7 (L8.set k y) := by
  have h1 := World.ownsRow.lt h.q g rfl
  have h7 : v7.ownBlock ≠ some g := by
    rcases h.pq with e | e
    · rw [e]; intro e2; cases e2
    · exact fun e2 => e (by rw [e2]; rfl)
  have := Own.store icell_len h.q (k := k) (j := 0) (e := L8[k]) (e' := y) (u := .int .i64 y) (List.getElem?_eq_getElem hk) (by omega) rfl
  exact ⟨own_st h.p h7, by simpa using this, h.pq, below_st h.bel _ h1.1 _⟩
theorem TW.drewN {w W : World} {v7 v8 : Value} {L7 L8 : List Int} (h : TW w W v7 v8 L7 L8) (q : Nat) : TW w (W.drewN q) v7 v8 L7 L8 :=
  have hb := below_drN (Below.refl W.heap.size W) q
  ⟨h.p.below hb (Nat.le_refl _), h.q.below hb (Nat.le_refl _), h.pq, below_drN h.bel q⟩
set_option maxHeartbeats 4000000 in
set_option maxRecDepth 100000 in
theorem spec_l02Share (A : Option Addr) (n c : Nat) (ws : List Int) (T s : Int) (w : World) (hmax : n ≤ 60) (hT : 0 ≤ T ∧ T ≤ 1000000000) (hs : 0 < s) (hsum : isum ws = s) (hws : ∀ x ∈ ws, 0 ≤ x ∧ x ≤ 100000000) (h : Sl w w.heap.size 1 icell A n ws) :
    Calls Try.prog 63 #[.int .i64 T, .slice A n c, .int .i64 s] w fun e w' => ∃ v, e = .returned v ∧ Own w' w.heap.size 2 1 icell v (dues T s ws) ∧ Below w.heap.size w w' := by
  obtain ⟨i0, hi, hz0, hz1, hz2⟩ := info_parts info_i64
  have Hn := Lib.hid h.len
  have hs6 : s ≤ 6000000000 := by
    have := isum_bd hws n
    rw [List.take_of_length_le (by rw [h.len]; exact Nat.le_refl _), h.len, hsum] at this
    omega
  have Hws := Lib.hid hws
  have Hsum := Lib.hid hsum
  have HT := Lib.hid hT
  have hs0 : (s == 0) = false := by simp; omega
  have hs1 : ¬ s = 0 := by omega
  clear hws hsum
  go_enter Try.func63, Try.ntmps63
  go_wp2_with fail
  go_loopw [7, 8, 9, 10] (fun v7 v8 l i wr => ∃ (k : Nat) (u : Int), k ≤ n ∧ i = .int .i64 k ∧ l = .int .i64 u ∧ Hid (T - isum (shares T s (ws.take k)) = u) ∧ Hid (TW w wr v7 v8 (shares T s (ws.take k)) (rests T s (ws.take k)))) (fun _ _ _ i _ => n - (intOf i).toNat)
  case atStart => exact ⟨0, T, by omega, rfl, rfl, Lib.hid (by simp [shares, isum, sumBy]), Lib.hid (TW.start w)⟩
  case round =>
    obtain ⟨k, u, hk, rfl, rfl, Hu, HT2⟩ := hrel
    obtain ⟨A7, n7, c7, rfl, _, _⟩ := own_shape HT2.out.p
    obtain ⟨A8, n8, c8, rfl, _, _⟩ := own_shape HT2.out.q
    by_cases hlt : k < n
    · obtain ⟨b, off, rfl, hb, H⟩ := h.at_ (by omega)
      obtain ⟨x, hx⟩ := h.get hlt
      have c0 := (H.below HT2.out.bel hb).i1 hx
      have hxb := Hws.out x (List.mem_of_getElem? hx)
      obtain ⟨y0, y1⟩ := prod_bd HT.out hxb
      have hwr : IntKind.i64.wrap (T * x) = T * x := IntWalk.i64_in _ (by omega)
      obtain ⟨q, hq⟩ : ∃ q, T * x / s = q := ⟨_, rfl⟩
      obtain ⟨r, hr⟩ : ∃ r, T * x % s = r := ⟨_, rfl⟩
      have hq0 : 0 ≤ q := by rw [← hq]; exact Int.ediv_nonneg y0 (by omega)
      have hq1 : q ≤ 100000000000000000 := by rw [← hq]; exact Int.le_trans (Int.ediv_le_self _ y0) y1
      have hr0 : 0 ≤ r := by rw [← hr]; exact Int.emod_nonneg _ hs1
      have hr1 : r < s := by rw [← hr]; exact Int.emod_lt_of_pos _ hs
      have htd : (T * x).tdiv s = q := by rw [Int.tdiv_eq_ediv_of_nonneg y0, hq]
      have htm : (T * x).tmod s = r := by rw [Int.tmod_eq_emod_of_nonneg y0, hr]
      have hwq : IntKind.i64.wrap q = q := IntWalk.i64_in _ (by omega)
      have hwr2 : IntKind.i64.wrap r = r := IntWalk.i64_in _ (by omega)
      have hub := left_at HT.out hs Hsum.out Hws.out k
      rw [Hu.out] at hub
      obtain ⟨u0, u1⟩ := hub
      have hqT : q ≤ 1000000000 := by
        have h2 := sum_ge (fun x hx => (Hws.out x hx).1) x (List.mem_of_getElem? hx)
        rw [Hsum.out] at h2
        have h3 := share_bd HT.out.1 hs hxb.1 h2
        have := HT.out
        omega
      have hwu : IntKind.i64.wrap (u - q) = u - q := IntWalk.i64_in _ (by omega)
      have Hq := Lib.hid hq
      have Hr := Lib.hid hr
      have Hx := Lib.hid hx
      have hbz := HT2.out.bel.size
      clear hx hq hr hxb H
      go_wp2_with (first
        | (at_builtin; refine wpList_push_at rfl _ _ 23 rfl w.heap.size 2 i0 (.int .i64 0) 1 8 Try.underlying23 hi hz0 hz1 hz2 rfl (by omega) icell_len icell_one (.slice A7 n7 c7) _ q rfl HT2.out.p _ rfl _ rfl (by first | rfl | simp) (by rw [shares_len, List.length_take]; omega) (by omega) hbz ?_; intro v3 w3 ho3 hg3 hat3; have HT3 := Lib.hid (HT2.out.pushp hbz ho3 hg3 hat3); have hbz3 := HT3.out.bel.size; clear ho3 hg3 hat3)
        | (at_builtin; refine wpList_push_at rfl _ _ 23 rfl w.heap.size 2 i0 (.int .i64 0) 1 8 Try.underlying23 hi hz0 hz1 hz2 rfl (by omega) icell_len icell_one (.slice A8 n8 c8) _ r rfl HT3.out.q _ rfl _ rfl (by first | rfl | simp) (by rw [rests_len, List.length_take]; omega) (by omega) hbz3 ?_; intro v4 w4 ho4 hg4 hat4; have HT4 := Lib.hid (HT3.out.pushq hbz3 ho4 hg4 hat4); clear ho4 hg4 hat4))
      go_roundw
      case rel => exact ⟨k + 1, u - q, by omega, by go_num, rfl, Lib.hid (by rw [shares_succ Hx.out, isum_app, Hq.out, ← Hu.out]; omega), Lib.hid (by rw [shares_succ Hx.out, rests_succ Hx.out, Hq.out, Hr.out]; exact HT4.out)⟩
      case measure => simp [intOf]; omega
    · have hkn : k = n := by omega
      have htk : ws.take k = ws := List.take_of_length_le (by rw [Hn.out]; omega)
      rw [htk] at HT2 Hu
      clear htk hkn
      obtain ⟨m0, m1⟩ := left_bd hs Hsum.out (T := T)
      rw [Hn.out] at m1
      obtain ⟨m, hm⟩ : ∃ m : Nat, leftOf T s ws = (m : Int) := ⟨(leftOf T s ws).toNat, by omega⟩
      have hum : u = (m : Int) := by rw [← Hu.out, ← hm]; rfl
      subst hum
      have hmn : m ≤ n := by omega
      have Hm := Lib.hid hm
      have hR0 : ∀ x ∈ rests T s ws, 0 ≤ x := fun x hx => by
        obtain ⟨y, hy, rfl⟩ := List.mem_map.1 hx
        exact Int.emod_nonneg _ hs1
      have HR0 := Lib.hid hR0
      have hshb : ∀ x ∈ shares T s ws, 0 ≤ x ∧ x ≤ 1000000000 := fun x hx => by
        obtain ⟨y, hy, rfl⟩ := List.mem_map.1 hx
        have h1 := Hws.out y hy
        have h2 := sum_ge (fun x hx => (Hws.out x hx).1) y hy
        rw [Hsum.out] at h2
        have h3 := share_bd HT.out.1 hs h1.1 h2
        have := HT.out
        omega
      have Hshb := Lib.hid hshb
      have hlo : (ordD (rests T s ws)).length = n := by rw [ordD_len, rests_len, Hn.out]
      have Hlo := Lib.hid hlo
      have hn0 : 0 < n := by
        rcases Nat.eq_zero_or_pos n with h0 | h0
        · have : ws = [] := List.eq_nil_of_length_eq_zero (by rw [Hn.out, h0])
          have h1 := Hsum.out
          rw [this] at h1
          simp [isum, sumBy] at h1
          omega
        · exact h0
      obtain ⟨g7, c7', e7, _, _, _⟩ := own_block_of HT2.out.p (by rw [shares_len, Hn.out]) hn0
      obtain ⟨g8, c8', e8, _, _, _⟩ := own_block_of HT2.out.q (by rw [rests_len, Hn.out]) hn0
      injection e7 with e71 e72 e73
      injection e8 with e81 e82 e83
      have e72 := e72.symm
      have e82 := e82.symm
      subst e71 e72 e73 e81 e82 e83
      clear hm m0 m1 hR0 hshb hlo
      go_wp2_with fail
      go_loopw [9] (fun l wz => ∃ j : Nat, j ≤ m ∧ l = .int .i64 ((m - j : Nat) : Int) ∧ Hid (TW w wz (.slice (some ⟨g7, 0, none⟩) n c7) (.slice (some ⟨g8, 0, none⟩) n c8) (incs (shares T s ws) ((ordD (rests T s ws)).take j)) (zaps (rests T s ws) ((ordD (rests T s ws)).take j)))) (fun l _ => (intOf l).toNat)
      case atStart => exact ⟨0, by omega, by go_num, HT2⟩
      case round =>
        clear HT2
        obtain ⟨j, hj, rfl, HK⟩ := hrel
        by_cases hlt : j < m
        · obtain ⟨U, hU⟩ : ∃ U, incs (shares T s ws) ((ordD (rests T s ws)).take j) = U := ⟨_, rfl⟩
          obtain ⟨Z, hZ⟩ : ∃ Z, zaps (rests T s ws) ((ordD (rests T s ws)).take j) = Z := ⟨_, rfl⟩
          rw [hU, hZ] at HK
          have hzl : Z.length = n := by rw [← hZ, zaps_len, rests_len, Hn.out]
          have hul : U.length = n := by rw [← hU, incs_len, shares_len, Hn.out]
          obtain ⟨y, hy⟩ : ∃ y, (ordD (rests T s ws))[j]? = some y := ⟨_, List.getElem?_eq_getElem (by rw [Hlo.out]; omega)⟩
          have hmax := ordD_max HR0.out hy
          rw [hZ, rests_len, Hn.out] at hmax
          obtain ⟨y0, y1⟩ := ordD_in _ y (List.mem_of_getElem? hy)
          rw [rests_len, Hn.out] at y1
          have hub := incs_bd ((ordD (rests T s ws)).take j) (shares T s ws) 1000000000 (by omega) Hshb.out
          rw [hU, List.length_take, Hlo.out] at hub
          have HU := Lib.hid hU
          have HZ := Lib.hid hZ
          have Hzl := Lib.hid hzl
          have Hul := Lib.hid hul
          have Hy := Lib.hid hy
          have Hub := Lib.hid hub
          have Hmax := Lib.hid hmax
          obtain ⟨l, hl⟩ : ∃ l, m - j = l + 1 := ⟨m - j - 1, by omega⟩
          rw [hl]
          have hz0 : ∃ z, Z[0]? = some z := ⟨_, List.getElem?_eq_getElem (by omega)⟩
          obtain ⟨z, hz0⟩ := hz0
          have Hz0 := Lib.hid hz0
          clear hU hZ hzl hul hy hub hmax hz0
          go_wp2_with fail
          go_loopw [12, 13] (fun bv iv wy => ∃ p q : Nat, 1 ≤ p ∧ p ≤ n ∧ iv = .int .i64 p ∧ bv = .int .i64 q ∧ Hid (firstMax Z p q) ∧ Hid (TW w wy (.slice (some ⟨g7, 0, none⟩) n c7) (.slice (some ⟨g8, 0, none⟩) n c8) U Z)) (fun _ iv _ => n - (intOf iv).toNat)
          case atStart => exact ⟨1, 0, by omega, by omega, by go_num, by go_num, Lib.hid (firstMax_one Hz0.out), HK⟩
          case round =>
            clear HK
            obtain ⟨p, q, hp1, hpn, rfl, rfl, HF, HK⟩ := hrel
            have hqp : q < p := HF.out.1
            obtain ⟨yq, hyq⟩ : ∃ yq, Z[q]? = some yq := ⟨_, List.getElem?_eq_getElem (by rw [Hzl.out]; omega)⟩
            have b0 := (own_has HK.out.q icell_len).i1 hyq
            rw [Nat.zero_add] at b0
            have Hyq := Lib.hid hyq
            clear hyq
            have hq0 : (0 : Int) ≤ (q : Int) := by omega
            have hqn : (q : Int) < (n : Int) := by omega
            by_cases hpt : p < n
            · obtain ⟨xp, hxp⟩ : ∃ xp, Z[p]? = some xp := ⟨_, List.getElem?_eq_getElem (by rw [Hzl.out]; omega)⟩
              have a0 := (own_has HK.out.q icell_len).i1 hxp
              rw [Nat.zero_add] at a0
              have Hxp := Lib.hid hxp
              clear hxp
              have hp0 : (0 : Int) ≤ (p : Int) := by omega
              have hpn' : (p : Int) < (n : Int) := by omega
              go_wp2_with fail
              go_quiet (fail)
              have HK2 := Lib.hid (HK.out.drewN nq)
              clear a0 b0
              by_cases hgt : yq < xp
              · go_wp2_with fail
                go_roundw
                case rel => exact ⟨p + 1, p, by omega, by omega, by go_num, rfl, Lib.hid (firstMax_up HF.out Hyq.out Hxp.out hgt), HK2⟩
                case measure => simp [intOf]; omega
              · go_wp2_with fail
                go_roundw
                case rel => exact ⟨p + 1, q, by omega, by omega, by go_num, rfl, Lib.hid (firstMax_no HF.out Hyq.out Hxp.out (by omega)), HK2⟩
                case measure => simp [intOf]; omega
            · have hpe : p = n := by omega
              have hqy : q = y.toNat := firstMax_only (k := n) (by rw [← hpe]; exact HF.out) Hmax.out
              have hq1 : q < n := by omega
              obtain ⟨u, hu⟩ : ∃ u, U[q]? = some u := ⟨_, List.getElem?_eq_getElem (by rw [Hul.out]; omega)⟩
              have p0 := (own_has HK.out.p icell_len).i1 hu
              rw [Nat.zero_add] at p0
              have hub := Hub.out u (List.mem_of_getElem? hu)
              have hu1 : 0 ≤ u := hub.1
              have hu2 : u ≤ 1000000060 := by omega
              have f7 := own_free HK.out.p q
              have f8 := own_free HK.out.q q
              have HK2 := Lib.hid (HK.out.setp (k := q) (by rw [Hul.out]; exact hq1) (u + 1))
              have HK3 := Lib.hid (HK2.out.setq (k := q) (by rw [Hzl.out]; exact hq1) (-1))
              have b1 := (own_has HK2.out.q icell_len).i1 Hyq.out
              rw [Nat.zero_add] at b1
              have f81 := own_free HK2.out.q q
              have Hu := Lib.hid hu
              have Hqy := Lib.hid hqy
              clear hub hu hqy b0
              go_wp2_with fail
              go_roundw
              case rel => exact ⟨j + 1, by omega, by go_num, Lib.hid (by
                rw [incs_next Hy.out, zaps_next Hy.out, HU.out, HZ.out, ← Hqy.out, Hu.out]; exact HK3.out)⟩
              case measure => (simp [intOf] <;> omega)
        · have hjm : j = m := by omega
          rw [hjm] at HK
          have hl0 : ((m - j : Nat) : Int) = 0 := by omega
          go_wp2_with fail
          go_ret
          refine ⟨_, rfl, ?_, HK.out.bel⟩
          rw [dues, Hm.out, Int.toNat_natCast]
          exact HK.out.p

end Go.Proofs.Ytgbblcbpmpokdaa

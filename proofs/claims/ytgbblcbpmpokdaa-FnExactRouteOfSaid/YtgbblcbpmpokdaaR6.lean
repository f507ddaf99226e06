/- Walks over functions of this seat, by contract. Conditions: those that each theorem states. -/
import Derived.Test.YtgbblcbpmpokdaaR5
namespace Go.Proofs.Ytgbblcbpmpokdaa
open Go.RowKit Go.Sort

set_option maxHeartbeats 4000000 in
set_option maxRecDepth 100000 in
theorem spec_l18Sort_true (A : Option Addr) (n c : Nat) (es : List Q4) (A2 : Option Addr) (m c2 : Nat) (xs : List Int) (w : World) (hmax : n ≤ 1048576) (hmax2 : m ≤ 1048576) (hin : inDef n xs) (h : Sl w w.heap.size 4 Q4.cells A n es) (h2 : Sl w w.heap.size 1 icell A2 m xs) :
    Calls Try.prog 40 #[.slice A n c, .slice A2 m c2, .bool true] w fun e w' => ∃ v, e = .returned v ∧ Own w' w.heap.size 2 1 icell v (sortI (mK es (-1)) xs) ∧ Below w.heap.size w w' := by
  obtain ⟨i0, hi, hz0, hz1, hz2⟩ := info_parts info_i64
  have Hm := Lib.hid h2.len
  have Hin := Lib.hid hin
  have HH := Lib.hid h
  have HH2 := Lib.hid h2
  clear hin h h2
  go_enter Try.func40, Try.ntmps40
  go_wp2_with fail
  go_loopw [7, 8] (fun v i wr => ∃ k : Nat, k ≤ m ∧ i = .int .i64 k ∧ Hid (Own wr w.heap.size 2 1 icell v ((xs.take k).foldl (insI (mK es (-1))) [])) ∧ Hid (Below w.heap.size w wr)) (fun _ i _ => m - (intOf i).toNat)
  case atStart => exact ⟨0, by omega, rfl, Lib.hid (own_new_empty _ _ _ _ _ (Nat.le_refl _)), Lib.hid (below_al (Below.refl _ _) _)⟩
  case round =>
    obtain ⟨k, hk, rfl, HO, HB⟩ := hrel
    obtain ⟨A7, n7, c7, rfl, hl7, hnc7⟩ := own_shape HO.out
    by_cases hlt : k < m
    · obtain ⟨L, hL⟩ : ∃ L, (xs.take k).foldl (insI (mK es (-1))) [] = L := ⟨_, rfl⟩
      have hln := sortI_len (K := mK es (-1)) (xs.take k) []
      rw [List.length_nil, List.length_take, hL] at hln
      have HLi : Hid (inDef n L) := Lib.hid (by rw [← hL]; exact fold_in Hin.out)
      rw [hL] at hl7
      have HO7 : Hid (Own wr w.heap.size 2 1 icell (.slice A7 n7 c7) L) := Lib.hid (by rw [← hL]; exact HO.out)
      have HL := Lib.hid hL
      have HS7 := Lib.hid (own_sl HO7.out icell_len)
      have hn7 : n7 ≤ k := by omega
      have Hl7 := Lib.hid hl7
      obtain ⟨b2, off2, rfl, hb22, H2⟩ := HH2.out.at_ (by omega)
      obtain ⟨x, hx⟩ := HH2.out.get hlt
      obtain ⟨j1, j2⟩ := Hin.out x (List.mem_of_getElem? hx)
      obtain ⟨j, rfl⟩ : ∃ j : Nat, x = (j : Int) := ⟨x.toNat, by omega⟩
      have hjn : j < n := by omega
      obtain ⟨b, off, rfl, hb, H⟩ := HH.out.at_ (by omega)
      obtain ⟨e, he⟩ := HH.out.get hjn
      obtain ⟨c0, _, _, _⟩ := (H.below HB.out hb).q4 he
      have y0 := (H2.below HB.out hb22).i1 hx
      have hbz := HB.out.size
      have hbx : b2 < wr.heap.size := by omega
      have Hx := Lib.hid hx
      have He := Lib.hid (metreOf_at he)
      have HH1 := Lib.hid H
      clear hx he j1 j2 hL hl7 hln H2 H HO
      go_wp2_with fail
      go_loopw [9] (fun qv wz => ∃ q : Nat, qv = .int .i64 q ∧ q ≤ n7 ∧ Hid (posI (mK es (-1)) L (j : Int) L.length = posI (mK es (-1)) L (j : Int) q) ∧ wr = wz) (fun qv _ => (intOf qv).toNat)
      case atStart => exact ⟨n7, rfl, Nat.le_refl _, Lib.hid (by rw [Hl7.out]), rfl⟩
      case round =>
        obtain ⟨q, rfl, hq, HP, hwz⟩ := hrel
        subst hwz
        by_cases hq0 : 0 < q
        · obtain ⟨b7, off7, hA7, hb7, H7⟩ := HS7.out.at_ (by omega)
          obtain ⟨z, hz⟩ := HS7.out.get (k := q - 1) (by omega)
          obtain ⟨j3, j4⟩ := HLi.out z (List.mem_of_getElem? hz)
          obtain ⟨jz, rfl⟩ : ∃ jz : Nat, z = (jz : Int) := ⟨z.toNat, by omega⟩
          have hjz : jz < n := by omega
          obtain ⟨e2, he2⟩ := HH.out.get hjz
          obtain ⟨d0, _, _, _⟩ := (HH1.out.below HB.out hb).q4 he2
          have z0 := H7.i1 hz
          have Hz := Lib.hid hz
          have He2 := Lib.hid (metreOf_at he2)
          have hcast : ((q - 1 : Nat) : Int) = (q : Int) - 1 := by omega
          have hq1 : (0 : Int) ≤ (q : Int) - 1 := by omega
          have hq2 : (q : Int) - 1 < (n7 : Int) := by omega
          have hqp : q = (q - 1) + 1 := by omega
          have Hqp := Lib.hid hqp
          subst hA7
          clear hz he2 j3 j4 hqp H7
          by_cases hle : e.a ≤ e2.a
          · have HPq : Hid (posI (mK es (-1)) L (j : Int) L.length = q) := Lib.hid (by
              rw [HP.out, Hqp.out]
              exact posI_stop Hz.out (by rw [mK_neg, mK_neg, He.out, He2.out]; omega))
            go_wp2_with fail
            clear z0 d0 c0
            have HQ : Hid (insI (mK es (-1)) L (j : Int) = L.take (q) ++ [(j : Int)] ++ L.drop (q)) := Lib.hid (insI_at (by rw [HPq.out]))
            have hqn : q ≤ n7 := by omega
            by_cases hck : c7 = q
            · have hback : ∀ W, Below wr.heap.size wr W → Sl W W.heap.size 1 icell (some ⟨b7, off7, none⟩) (n7 - (q)) (L.drop (q)) := fun W hW => by
                have := (HS7.out.on hW).back (q) c7 hqn hnc7
                rwa [if_pos hck] at this
              have hl0 : (0 : Int) ≤ ((q : Nat) : Int) := by omega
              have hl1 : ((q : Nat) : Int) ≤ (n7 : Int) := by omega
              have hl2 : ((q : Nat) : Int) ≤ (c7 : Int) := by omega
              go_region_held3 (fun w' => w'.cell? ⟨b2, off2 + k, none⟩ = some (.int .i64 (j : Int)))
                (go_keep)
                (first
                  | (go_at_call 41; refine (own_front _ (q) _ n7 L wr (by omega) HS7.out hqn _ (by first | exact below_dr (Below.refl _ _) | exact below_al (below_dr (Below.refl _ _)) _ | exact below_dr (below_al (Below.refl _ _) _))).mono ?_; rintro e' w2 ⟨A8, n8, c8, rfl, hO2, hb2, hbw2⟩; have z0 := cell_on y0 hbw2 hbx)
                  | (refine step_app (by rfl) _ _ 23 (by rfl) wr.heap.size 2 i0 _ 1 8 Try.underlying23 hi hz0 hz1 hz2 rfl (by omega) icell_len icell_one (.slice A8 n8 c8) (L.take (q)) [(j : Int)] (by rfl) (own_alloc hO2 _) (w2.heap.size + 1) (some ⟨w2.heap.size, 0, none⟩) 1 1 (by rfl) (sl_box1 w2 (j : Int) _) (by rw [List.length_take]; omega) (by omega) (by omega) (by have := hbw2.size; simp; omega) ?_; intro v3 w3 ho3 hg3; have hb3 := own_grown (below_al hbw2 _) (own_alloc hO2 _) (Nat.le_refl _) (by have := hbw2.size; simp; omega) hg3; have z0 := cell_on y0 hb3 hbx)
                  | (refine step_app (by rfl) _ _ 23 (by rfl) wr.heap.size 2 i0 _ 1 8 Try.underlying23 hi hz0 hz1 hz2 rfl (by omega) icell_len icell_one (.slice A8 n8 c8) (L.take (q)) [(j : Int)] (by rfl) hO2 w2.heap.size (some ⟨wr.heap.size, 0, none⟩) 1 1 (by rfl) (by first | exact (sl_box1h wr.drew (j : Int) _).on hb2 | exact ((sl_box1h wr (j : Int) _).on (below_dr (Below.refl _ _))).on hb2) (by rw [List.length_take]; omega) (by omega) (by omega) (by have := hbw2.size; omega) ?_; intro v3 w3 ho3 hg3; have hb3 := own_grown hbw2 hO2 (Nat.le_refl _) hbw2.size hg3; have z0 := cell_on y0 hb3 hbx))
              all_goals
                have HO3 := Lib.hid ho3
                have hb30 := hb3
                have hb3s := hb3.size
                clear ho3 hg3 z0 hO2
                go_wp2_with (at_builtin; refine wpList_app rfl _ _ 23 rfl wr.heap.size 2 i0 _ 1 8 Try.underlying23 hi hz0 hz1 hz2 rfl (by omega) icell_len icell_one v3 (L.take (q) ++ [(j : Int)]) (L.drop (q)) rfl HO3.out w3.heap.size _ _ _ rfl (by first | exact hback _ hb30 | exact HS7.out.on hb30) (by rw [List.length_append, List.length_take, List.length_cons, List.length_nil]; omega) (by omega) (by omega) hb3s ?_; intro v4 w4 ho4 hg4; have HO4 := Lib.hid ho4; have hb4 := own_grown hb30 HO3.out (Nat.le_refl _) hb3s hg4; clear ho4 hg4)
                go_roundw
                case rel => exact ⟨k + 1, by omega, by go_num, Lib.hid (by rw [fold_next Hx.out, HL.out, HQ.out]; exact HO4.out.base_le hbz), Lib.hid (below_then HB.out hb4)⟩
                case measure => simp [intOf]; omega
            · have hback : ∀ W, Below wr.heap.size wr W → Sl W W.heap.size 1 icell (some ⟨b7, off7 + q, none⟩) (n7 - (q)) (L.drop (q)) := fun W hW => by
                have := (HS7.out.on hW).back (q) c7 hqn hnc7
                rw [if_neg hck, Nat.mul_one] at this
                simpa [add_pl] using this
              have hl0 : (0 : Int) ≤ ((q : Nat) : Int) := by omega
              have hl1 : ((q : Nat) : Int) ≤ (n7 : Int) := by omega
              have hl2 : ((q : Nat) : Int) ≤ (c7 : Int) := by omega
              go_region_held3 (fun w' => w'.cell? ⟨b2, off2 + k, none⟩ = some (.int .i64 (j : Int)))
                (go_keep)
                (first
                  | (go_at_call 41; refine (own_front _ (q) _ n7 L wr (by omega) HS7.out hqn _ (by first | exact below_dr (Below.refl _ _) | exact below_al (below_dr (Below.refl _ _)) _ | exact below_dr (below_al (Below.refl _ _) _))).mono ?_; rintro e' w2 ⟨A8, n8, c8, rfl, hO2, hb2, hbw2⟩; have z0 := cell_on y0 hbw2 hbx)
                  | (refine step_app (by rfl) _ _ 23 (by rfl) wr.heap.size 2 i0 _ 1 8 Try.underlying23 hi hz0 hz1 hz2 rfl (by omega) icell_len icell_one (.slice A8 n8 c8) (L.take (q)) [(j : Int)] (by rfl) (own_alloc hO2 _) (w2.heap.size + 1) (some ⟨w2.heap.size, 0, none⟩) 1 1 (by rfl) (sl_box1 w2 (j : Int) _) (by rw [List.length_take]; omega) (by omega) (by omega) (by have := hbw2.size; simp; omega) ?_; intro v3 w3 ho3 hg3; have hb3 := own_grown (below_al hbw2 _) (own_alloc hO2 _) (Nat.le_refl _) (by have := hbw2.size; simp; omega) hg3; have z0 := cell_on y0 hb3 hbx)
                  | (refine step_app (by rfl) _ _ 23 (by rfl) wr.heap.size 2 i0 _ 1 8 Try.underlying23 hi hz0 hz1 hz2 rfl (by omega) icell_len icell_one (.slice A8 n8 c8) (L.take (q)) [(j : Int)] (by rfl) hO2 w2.heap.size (some ⟨wr.heap.size, 0, none⟩) 1 1 (by rfl) (by first | exact (sl_box1h wr.drew (j : Int) _).on hb2 | exact ((sl_box1h wr (j : Int) _).on (below_dr (Below.refl _ _))).on hb2) (by rw [List.length_take]; omega) (by omega) (by omega) (by have := hbw2.size; omega) ?_; intro v3 w3 ho3 hg3; have hb3 := own_grown hbw2 hO2 (Nat.le_refl _) hbw2.size hg3; have z0 := cell_on y0 hb3 hbx))
              all_goals
                have HO3 := Lib.hid ho3
                have hb30 := hb3
                have hb3s := hb3.size
                clear ho3 hg3 z0 hO2
                go_wp2_with (at_builtin; refine wpList_app rfl _ _ 23 rfl wr.heap.size 2 i0 _ 1 8 Try.underlying23 hi hz0 hz1 hz2 rfl (by omega) icell_len icell_one v3 (L.take (q) ++ [(j : Int)]) (L.drop (q)) rfl HO3.out w3.heap.size _ _ _ rfl (by first | exact hback _ hb30 | exact HS7.out.on hb30) (by rw [List.length_append, List.length_take, List.length_cons, List.length_nil]; omega) (by omega) (by omega) hb3s ?_; intro v4 w4 ho4 hg4; have HO4 := Lib.hid ho4; have hb4 := own_grown hb30 HO3.out (Nat.le_refl _) hb3s hg4; clear ho4 hg4)
                go_roundw
                case rel => exact ⟨k + 1, by omega, by go_num, Lib.hid (by rw [fold_next Hx.out, HL.out, HQ.out]; exact HO4.out.base_le hbz), Lib.hid (below_then HB.out hb4)⟩
                case measure => simp [intOf]; omega
          · have HPq : Hid (posI (mK es (-1)) L (j : Int) L.length = posI (mK es (-1)) L (j : Int) (q - 1)) := Lib.hid (by
              rw [HP.out]
              conv => lhs; rw [Hqp.out]
              exact posI_go Hz.out (by rw [mK_neg, mK_neg, He.out, He2.out]; omega))
            go_wp2_with fail
            go_roundw
            case rel => exact ⟨q - 1, by go_num, by omega, HPq, by first | exact trivial | exact rfl⟩
            case measure => simp [intOf]; omega
        · have hqe : q = 0 := by omega
          subst hqe
          have HPq : Hid (posI (mK es (-1)) L (j : Int) L.length = 0) := Lib.hid (by rw [HP.out]; rfl)
          go_wp2_with fail
          clear c0
          have HQ : Hid (insI (mK es (-1)) L (j : Int) = L.take (0) ++ [(j : Int)] ++ L.drop (0)) := Lib.hid (insI_at (by rw [HPq.out]))
          have hqn : 0 ≤ n7 := by omega
          by_cases hck : c7 = 0
          · have hback : ∀ W, Below wr.heap.size wr W → Sl W W.heap.size 1 icell A7 (n7 - (0)) (L.drop (0)) := fun W hW => by
              have := (HS7.out.on hW).back (0) c7 hqn hnc7
              rwa [if_pos hck] at this
            have hl0 : (0 : Int) ≤ ((0 : Nat) : Int) := by omega
            have hl1 : ((0 : Nat) : Int) ≤ (n7 : Int) := by omega
            have hl2 : ((0 : Nat) : Int) ≤ (c7 : Int) := by omega
            go_region_held3 (fun w' => w'.cell? ⟨b2, off2 + k, none⟩ = some (.int .i64 (j : Int)))
              (go_keep)
              (first
                | (go_at_call 41; refine (own_front _ (0) _ n7 L wr (by omega) HS7.out hqn _ (by first | exact below_dr (Below.refl _ _) | exact below_al (below_dr (Below.refl _ _)) _ | exact below_dr (below_al (Below.refl _ _) _))).mono ?_; rintro e' w2 ⟨A8, n8, c8, rfl, hO2, hb2, hbw2⟩; have z0 := cell_on y0 hbw2 hbx)
                | (refine step_app (by rfl) _ _ 23 (by rfl) wr.heap.size 2 i0 _ 1 8 Try.underlying23 hi hz0 hz1 hz2 rfl (by omega) icell_len icell_one (.slice A8 n8 c8) (L.take (0)) [(j : Int)] (by rfl) (own_alloc hO2 _) (w2.heap.size + 1) (some ⟨w2.heap.size, 0, none⟩) 1 1 (by rfl) (sl_box1 w2 (j : Int) _) (by rw [List.length_take]; omega) (by omega) (by omega) (by have := hbw2.size; simp; omega) ?_; intro v3 w3 ho3 hg3; have hb3 := own_grown (below_al hbw2 _) (own_alloc hO2 _) (Nat.le_refl _) (by have := hbw2.size; simp; omega) hg3; have z0 := cell_on y0 hb3 hbx)
                | (refine step_app (by rfl) _ _ 23 (by rfl) wr.heap.size 2 i0 _ 1 8 Try.underlying23 hi hz0 hz1 hz2 rfl (by omega) icell_len icell_one (.slice A8 n8 c8) (L.take (0)) [(j : Int)] (by rfl) hO2 w2.heap.size (some ⟨wr.heap.size, 0, none⟩) 1 1 (by rfl) (by first | exact (sl_box1h wr.drew (j : Int) _).on hb2 | exact ((sl_box1h wr (j : Int) _).on (below_dr (Below.refl _ _))).on hb2) (by rw [List.length_take]; omega) (by omega) (by omega) (by have := hbw2.size; omega) ?_; intro v3 w3 ho3 hg3; have hb3 := own_grown hbw2 hO2 (Nat.le_refl _) hbw2.size hg3; have z0 := cell_on y0 hb3 hbx))
            all_goals
              have HO3 := Lib.hid ho3
              have hb30 := hb3
              have hb3s := hb3.size
              clear ho3 hg3 z0 hO2
              go_wp2_with (at_builtin; refine wpList_app rfl _ _ 23 rfl wr.heap.size 2 i0 _ 1 8 Try.underlying23 hi hz0 hz1 hz2 rfl (by omega) icell_len icell_one v3 (L.take (0) ++ [(j : Int)]) (L.drop (0)) rfl HO3.out w3.heap.size _ _ _ rfl (by first | exact hback _ hb30 | exact HS7.out.on hb30) (by rw [List.length_append, List.length_take, List.length_cons, List.length_nil]; omega) (by omega) (by omega) hb3s ?_; intro v4 w4 ho4 hg4; have HO4 := Lib.hid ho4; have hb4 := own_grown hb30 HO3.out (Nat.le_refl _) hb3s hg4; clear ho4 hg4)
              go_roundw
              case rel => exact ⟨k + 1, by omega, by go_num, Lib.hid (by rw [fold_next Hx.out, HL.out, HQ.out]; exact HO4.out.base_le hbz), Lib.hid (below_then HB.out hb4)⟩
              case measure => simp [intOf]; omega
          · have hback : ∀ W, Below wr.heap.size wr W → Sl W W.heap.size 1 icell (A7.map (·.add (0))) (n7 - (0)) (L.drop (0)) := fun W hW => by
              have := (HS7.out.on hW).back (0) c7 hqn hnc7
              rw [if_neg hck, Nat.mul_one] at this
              exact this
            have hl0 : (0 : Int) ≤ ((0 : Nat) : Int) := by omega
            have hl1 : ((0 : Nat) : Int) ≤ (n7 : Int) := by omega
            have hl2 : ((0 : Nat) : Int) ≤ (c7 : Int) := by omega
            go_region_held3 (fun w' => w'.cell? ⟨b2, off2 + k, none⟩ = some (.int .i64 (j : Int)))
              (go_keep)
              (first
                | (go_at_call 41; refine (own_front _ (0) _ n7 L wr (by omega) HS7.out hqn _ (by first | exact below_dr (Below.refl _ _) | exact below_al (below_dr (Below.refl _ _)) _ | exact below_dr (below_al (Below.refl _ _) _))).mono ?_; rintro e' w2 ⟨A8, n8, c8, rfl, hO2, hb2, hbw2⟩; have z0 := cell_on y0 hbw2 hbx)
                | (refine step_app (by rfl) _ _ 23 (by rfl) wr.heap.size 2 i0 _ 1 8 Try.underlying23 hi hz0 hz1 hz2 rfl (by omega) icell_len icell_one (.slice A8 n8 c8) (L.take (0)) [(j : Int)] (by rfl) (own_alloc hO2 _) (w2.heap.size + 1) (some ⟨w2.heap.size, 0, none⟩) 1 1 (by rfl) (sl_box1 w2 (j : Int) _) (by rw [List.length_take]; omega) (by omega) (by omega) (by have := hbw2.size; simp; omega) ?_; intro v3 w3 ho3 hg3; have hb3 := own_grown (below_al hbw2 _) (own_alloc hO2 _) (Nat.le_refl _) (by have := hbw2.size; simp; omega) hg3; have z0 := cell_on y0 hb3 hbx)
                | (refine step_app (by rfl) _ _ 23 (by rfl) wr.heap.size 2 i0 _ 1 8 Try.underlying23 hi hz0 hz1 hz2 rfl (by omega) icell_len icell_one (.slice A8 n8 c8) (L.take (0)) [(j : Int)] (by rfl) hO2 w2.heap.size (some ⟨wr.heap.size, 0, none⟩) 1 1 (by rfl) (by first | exact (sl_box1h wr.drew (j : Int) _).on hb2 | exact ((sl_box1h wr (j : Int) _).on (below_dr (Below.refl _ _))).on hb2) (by rw [List.length_take]; omega) (by omega) (by omega) (by have := hbw2.size; omega) ?_; intro v3 w3 ho3 hg3; have hb3 := own_grown hbw2 hO2 (Nat.le_refl _) hbw2.size hg3; have z0 := cell_on y0 hb3 hbx))
            all_goals
              have HO3 := Lib.hid ho3
              have hb30 := hb3
              have hb3s := hb3.size
              clear ho3 hg3 z0 hO2
              go_wp2_with (at_builtin; refine wpList_app rfl _ _ 23 rfl wr.heap.size 2 i0 _ 1 8 Try.underlying23 hi hz0 hz1 hz2 rfl (by omega) icell_len icell_one v3 (L.take (0) ++ [(j : Int)]) (L.drop (0)) rfl HO3.out w3.heap.size _ _ _ rfl (by first | exact hback _ hb30 | exact HS7.out.on hb30) (by rw [List.length_append, List.length_take, List.length_cons, List.length_nil]; omega) (by omega) (by omega) hb3s ?_; intro v4 w4 ho4 hg4; have HO4 := Lib.hid ho4; have hb4 := own_grown hb30 HO3.out (Nat.le_refl _) hb3s hg4; clear ho4 hg4)
              go_roundw
              case rel => exact ⟨k + 1, by omega, by go_num, Lib.hid (by rw [fold_next Hx.out, HL.out, HQ.out]; exact HO4.out.base_le hbz), Lib.hid (below_then HB.out hb4)⟩
              case measure => simp [intOf]; omega
    · have hkm : k = m := by omega
      subst hkm
      go_wp2_with fail
      go_ret
      exact ⟨_, rfl, by (have := HO.out; rw [List.take_of_length_le (by rw [Hm.out]; exact Nat.le_refl _)] at this; exact this), HB.out⟩

end Go.Proofs.Ytgbblcbpmpokdaa

/- Walks over functions of this seat, by contract. Conditions: those that each theorem states. -/
import Derived.Test.YtgbblcbpmpokdaaC8
import Derived.Test.YtgbblcbpmpokdaaShelf
import Derived.Sort.OwnSorted
namespace Go.Proofs.Ytgbblcbpmpokdaa
open Go.RowKit Go.Sort

def mkB (l : List UInt8) : ByteArray := ⟨l.toArray⟩
theorem mkB_bsl (b : ByteArray) : mkB (bsl b) = b := by cases b; rfl
theorem map_mkB (L : List ByteArray) : (L.map bsl).map mkB = L := by
  rw [List.map_map]
  have : (mkB ∘ bsl) = id := by funext b; exact mkB_bsl b
  rw [this, List.map_id]
theorem flat_enc (L : List ByteArray) : L.flatMap scell = (L.map bsl).map encStr := by
  induction L with
  | nil => rfl
  | cons x L ih =>
    rw [List.flatMap_cons, ih]
    rfl
theorem flat_mkB (L : List (List UInt8)) : (L.map mkB).flatMap scell = L.map encStr := by
  induction L with
  | nil => rfl
  | cons x L ih => rw [List.map_cons, List.flatMap_cons, ih]; rfl
theorem sort_own (base g n c : Nat) (es : List ByteArray) (w : World) (ho : Own w base 9 1 scell (.slice (some ⟨g, 0, none⟩) n c) es) (hmax : n ≤ 1048576) (hbase : base ≤ w.heap.size) :
    Calls Try.prog 58 #[.slice (some ⟨g, 0, none⟩) n c] w fun e w' => e = .returned (.tuple #[]) ∧ Own w' base 9 1 scell (.slice (some ⟨g, 0, none⟩) n c) ((sortedB es).map mkB) ∧ Below base w w' := by
  have Hg := Lib.hid ho
  unfold Own at ho
  rw [flat_enc] at ho
  rcases ho.2 with ⟨h0, _⟩ | ⟨g', cap, cur, hv, hbg, hb, h1, h2, h3, h4⟩
  · cases h0
  · injection hv with e1 e2 e3
    injection e1 with e1
    injection e1 with e1 _ _
    subst e1; subst e2; subst e3
    have hl : (es.map bsl).length = es.length := by simp
    have hgl : g < w.heap.size := (Array.getElem?_eq_some_iff.1 hb).1
    have hH : Sort.Holds encStr w g 0 (es.map bsl).toArray := holds_of_block hb (by rw [hl]; simpa using h4)
    have hc := Try.sort_Strings g 0 c (es.map bsl) w hH hgl (by rw [hl]; omega)
    rw [hl] at hc
    refine hc.mono ?_
    rintro e w' ⟨rfl, nn, os, rfl⟩
    refine ⟨rfl, ?_, ?_⟩
    · unfold Own
      rw [flat_mkB, List.length_map, sortedB_len]
      have := ownsRow_sorted (w := w) (base := base) (e := 9) (g := g) (cap := c) (n := nn) (os := os) (cur := cur) (ss := es.map bsl) (ts := sortedB es) (by rw [sortedB_len, hl]) hbg hb (by rw [hl]; exact h1) h2 h3
      rw [hl] at this
      exact this
    · exact own_grown (Below.refl _ _) Hg.out (Nat.le_refl _) hbase (grownBy_sorted _)
theorem sort_put (base g n c : Nat) (F : List ByteArray) (w : World) (ho : Own w base 9 1 scell (.slice (some ⟨g, 0, none⟩) n c) (F.foldl addN [])) (hmax : n ≤ 1048576) (hbase : base ≤ w.heap.size) :
    Calls Try.prog 58 #[.slice (some ⟨g, 0, none⟩) n c] w fun e w' => e = .returned (.tuple #[]) ∧ Own w' base 9 1 scell (.slice (some ⟨g, 0, none⟩) n c) (F.foldl putN []) ∧ Below base w w' := by
  refine (sort_own base g n c _ w ho hmax hbase).mono ?_
  rintro e w' ⟨rfl, h1, h2⟩
  rw [sorted_put, map_mkB] at h1
  exact ⟨rfl, h1, h2⟩
theorem addN_has {L : List ByteArray} {s : ByteArray} (h : hasS L s = true) : addN L s = L := by
  unfold addN; exact if_pos h
theorem addN_new {L : List ByteArray} {s : ByteArray} (h : hasS L s = false) : addN L s = L ++ [s] := by
  unfold addN; exact if_neg (by
    have h' : L.any (fun x => x.toList == s.toList) = false := h
    rw [h']; simp)
set_option maxHeartbeats 1000000 in
set_option maxRecDepth 100000 in
theorem impl_CalledAt (A : Option Addr) (n c : Nat) (st : Int) (rs : List R3) (L : List (List ByteArray)) (w : World) (hmax : n ≤ 1048576) (hnc : n ≤ c) (hr : ∀ r ∈ rs, r.n ≤ 1048576) (hz : ∀ l ∈ L, ∀ e ∈ l, e.size ≤ 1048576) (h : SS w w.heap.size A n rs L) :
    Calls Try.prog 25 #[.slice A n c, .int .i64 st] w fun e w' => ∃ v, e = .returned (.tuple #[v, .int .i64 (callCode L st)]) ∧ Own w' w.heap.size 9 1 scell v (callOut L st) ∧ Below w.heap.size w w' := by
  obtain ⟨i0, hi, hz0, hz1, hz2⟩ := info_parts info_str
  have HR := Lib.hid hr
  have HL := Lib.hid h.lenL
  clear hr
  cases g1 : lsOk L with
  | false =>
    rw [(call_bad g1).1, (call_bad g1).2]
    go_enter Try.func25, Try.ntmps25
    go_wp2_with (go_at_call 55; refine (impl_areLists A n c rs L _ hmax HR.out hz h).mono ?_; rintro e w1 ⟨rfl, hb1⟩; rw [g1])
    go_ret2
    exact ⟨_, rfl, own_new_empty _ _ _ _ _ hb1.size, below_al hb1 _⟩
  | true =>
    cases g2 : inR st 0 L.length with
    | false =>
      rw [(call_range g1 g2).1, (call_range g1 g2).2]
      rw [HL.out] at g2
      go_enter Try.func25, Try.ntmps25
      go_wp2_with (first
        | (go_at_call 55; refine (impl_areLists A n c rs L _ hmax HR.out hz h).mono ?_; rintro e w1 ⟨rfl, hb1⟩; rw [g1])
        | (go_at_call 56; refine (impl_in st 0 n _).mono ?_; rintro e w2 ⟨rfl, rfl⟩; rw [g2]))
      go_ret2
      exact ⟨_, rfl, own_new_empty _ _ _ _ _ hb1.size, below_al hb1 _⟩
    | true =>
      rw [(call_ok g1 g2).1, (call_ok g1 g2).2]
      rw [HL.out] at g2
      obtain ⟨h0, h1⟩ := inR_iff.1 g2
      obtain ⟨m, rfl⟩ : ∃ m : Nat, st = (m : Int) := ⟨st.toNat, by omega⟩
      have hmn : m ≤ n := by omega
      have hmc : (m : Int) ≤ (c : Int) := by omega
      have Hsm := Lib.hid (lsOk_small g1)
      rw [show ((m : Int)).toNat = m from by omega]
      go_enter Try.func25, Try.ntmps25
      go_wp2_with (first
        | (go_at_call 55; refine (impl_areLists A n c rs L _ hmax HR.out hz h).mono ?_; rintro e w1 ⟨rfl, hb1⟩; rw [g1])
        | (go_at_call 56; refine (impl_in _ 0 n _).mono ?_; rintro e w2 ⟨rfl, rfl⟩; rw [g2]))
      clear g1 g2 h0 h1 hz
      go_loopw [6, 28] (fun v i wr => ∃ (k g n1 c1 : Nat), k ≤ m ∧ i = .int .i64 k ∧ v = .slice (some ⟨g, 0, none⟩) n1 c1 ∧ Hid (Own wr w.heap.size 9 1 scell (.slice (some ⟨g, 0, none⟩) n1 c1) ((L.take k).flatten.foldl addN [])) ∧ Hid (Below w.heap.size w wr)) (fun _ i _ => m - (intOf i).toNat)
      case atStart => exact ⟨0, w1.heap.size, 0, 0, by omega, rfl, rfl, Lib.hid (by simpa using own_new_empty w1 w.heap.size 9 1 scell hb1.size), Lib.hid (below_al hb1 _)⟩
      case round =>
        obtain ⟨k, g, n1, c1, hk, rfl, rfl, HO, HB⟩ := hrel
        by_cases hlt : k < m
        · obtain ⟨x, l, hx, hl, hS⟩ := h.get (show k < n by omega)
          obtain ⟨b, off, rfl, hb, H⟩ := h.top.at_ (by omega)
          have hxn := HR.out x (List.mem_of_getElem? hx)
          have Hl := Lib.hid hl
          have HS := Lib.hid hS
          have Hll := Lib.hid hS.len
          have Hmem := Lib.hid (List.mem_of_getElem? hl)
          have c0 := (H.below HB.out hb).r1 hx
          clear hx hl hS
          obtain ⟨wo, hwo⟩ : ∃ wo : World, wo = wr := ⟨_, rfl⟩
          subst hwo
          go_wp2_with fail
          go_loopw [6, 34] (fun v i wz => ∃ (q g n1 c1 : Nat), q ≤ x.n ∧ i = .int .i64 q ∧ v = .slice (some ⟨g, 0, none⟩) n1 c1 ∧ Hid (Own wz w.heap.size 9 1 scell (.slice (some ⟨g, 0, none⟩) n1 c1) ((upto L k l q).foldl addN [])) ∧ Hid (Below w.heap.size w wz)) (fun _ i _ => x.n - (intOf i).toNat)
          case atStart => exact ⟨0, g, n1, c1, by omega, rfl, rfl, Lib.hid (by rw [upto_zero]; exact HO.out), HB⟩
          case round =>
            clear c0 HO
            obtain ⟨q, g, n1, c1, hq, rfl, rfl, HO2, HB2⟩ := hrel
            by_cases hqt : q < x.n
            · obtain ⟨s, hs⟩ := HS.out.get hqt
              obtain ⟨b2, off2, hA2, hb2, H2⟩ := HS.out.at_ (by omega)
              rw [hA2]
              have d0 := (H2.below HB2.out hb2).s1 hs
              have Hs := Lib.hid hs
              clear hs hA2
              have hn2 : n1 ≤ 72 := by
                have := fold_add_len (upto_len (k := k) (q := q) Hsm.out Hmem.out)
                obtain ⟨_, _, _, e, h2, _⟩ := own_shape HO2.out
                injection e with _ e2 _; omega
              have Hn2 := Lib.hid hn2
              cases g3 : hasS ((upto L k l q).foldl addN []) s with
              | true =>
                go_wp2_with (go_at_call 57; refine (impl_hasName _ _ _ ((upto L k l q).foldl addN []) _ _ (by omega) (own_sl HO2.out scell_len)).mono ?_; rintro e w2 ⟨rfl, hb2⟩; rw [g3])
                go_roundw
                case rel => exact ⟨q + 1, g, n1, c1, by omega, by go_num, rfl, Lib.hid (by rw [upto_succ Hs.out, List.foldl_append]; show Own _ _ _ _ _ _ (addN _ s); rw [addN_has g3]; exact Own.below HO2.out hb2 (Nat.le_refl _)), Lib.hid (below_then HB2.out hb2)⟩
                case measure => simp [intOf]; omega
              | false =>
                go_wp2_with (first
                  | (go_at_call 57; refine (impl_hasName _ _ _ ((upto L k l q).foldl addN []) _ _ (by omega) (own_sl HO2.out scell_len)).mono ?_; rintro e w2 ⟨rfl, hb2⟩; rw [g3]; have HB3 := Lib.hid (below_then HB2.out hb2); have HO3 := Lib.hid (Own.below HO2.out hb2 (Nat.le_refl _)))
                  | (at_builtin; refine wpList_push rfl _ _ 45 rfl w.heap.size 9 i0 _ 1 16 Try.underlying45 hi hz0 hz1 hz2 rfl (by omega) scell_len scell_one _ _ s rfl HO3.out _ rfl _ rfl (by first | rfl | simp) (by have := Hn2.out; obtain ⟨_, _, _, e, h2, _⟩ := own_shape HO3.out; injection e with _ e2 _; omega) (by omega) HB3.out.size ?_; intro v4 w4 ho4 hg4; have HB4 := Lib.hid (own_grown HB3.out HO3.out (Nat.le_refl _) HB3.out.size hg4); obtain ⟨g4, c4, rfl, _⟩ := own_block_of ho4 rfl (by simp); have HO4 := Lib.hid ho4))
                go_roundw
                case rel => exact ⟨q + 1, g4, _, c4, by omega, by go_num, rfl, Lib.hid (by rw [upto_succ Hs.out, List.foldl_append]; show Own _ _ _ _ _ _ (addN _ s); rw [addN_new g3]; simpa using HO4.out), HB4⟩
                case measure => simp [intOf]; omega
            · have hqe : q = x.n := by omega
              go_wp2_with fail
              go_roundw
              case rel => exact ⟨k + 1, g, n1, c1, by omega, by go_num, rfl, Lib.hid (by
                have := HO2.out
                rw [hqe, ← Hll.out, upto_full Hl.out] at this
                exact this), HB2⟩
              case measure => simp [intOf]; omega
        · have hkm : k = m := by omega
          have hn2 : n1 ≤ 1048576 := by
            have h3 := flat_small (L := L.take k) (fun l hl => Hsm.out.2 l (List.mem_of_mem_take hl))
            have h4 := fold_add_len (Nat.le_refl (L.take k).flatten.length)
            have h5 := Hsm.out.1
            rw [List.length_take] at h3
            obtain ⟨_, _, _, e, h2, _⟩ := own_shape HO.out
            injection e with _ e2 _; omega
          go_wp2_with (go_at_call 58; refine (sort_put w.heap.size g n1 c1 _ _ HO.out hn2 HB.out.size).mono ?_; rintro e w5 ⟨rfl, ho5, hb5⟩)
          go_ret2
          exact ⟨_, rfl, by rw [← hkm]; exact ho5, HB.out.trans hb5⟩

end Go.Proofs.Ytgbblcbpmpokdaa

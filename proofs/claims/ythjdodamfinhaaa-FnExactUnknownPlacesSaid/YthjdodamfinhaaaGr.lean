/- Walks over functions of this seat, by contract. Conditions: those that each theorem states. -/
import Derived.Test.YthjdodamfinhaaaGq
namespace Go.Proofs.Ythjdodamfinhaaa
open Go.RowKit Go.Sort

def uOut (es : List G3) (len : Int) : List (Int × Int) := ugo es len len.toNat 0 []
def uRes (es : List G3) (len : Int) : List (Int × Int) := if lenCode es len = 0 then uOut es len else []
theorem uRes_pos {es : List G3} {len : Int} (h : lenCode es len = 0) : uRes es len = uOut es len := if_pos h
theorem uRes_neg {es : List G3} {len : Int} (h : lenCode es len ≠ 0) : uRes es len = [] := if_neg h
theorem lenCode_zero {es : List G3} {len : Int} (h : lenCode es len = 0) : guardsOk es = true ∧ 1 ≤ len ∧ len ≤ 300000 := by
  unfold lenCode at h
  split at h
  · omega
  · rename_i h1
    split at h
    · omega
    · rename_i h2
      have := inR_iff.1 (by simpa using h2 : inR len 1 300000 = true)
      exact ⟨by simpa using h1, this⟩
theorem ugo_len (es : List G3) (len : Int) : ∀ (N f : Nat) (m : Int) (out : List (Int × Int)), f ≤ N → (ugo es len f m out).length ≤ out.length + f := by
  intro N
  induction N with
  | zero => intro f m out hf; have : f = 0 := by omega
            subst this; unfold ugo; omega
  | succ N ih =>
    intro f m out hf
    cases f with
    | zero => unfold ugo; omega
    | succ f =>
      rw [ugo]
      split
      · split
        · have := ih f (m + 1) out (by omega); omega
        · have := ih (f - (nxN es m len es.length - m - 1).toNat) (nxN es m len es.length) (out ++ [(m, nxN es m len es.length)]) (by omega)
          rw [List.length_append, List.length_singleton] at this; omega
      · omega
theorem uRes_len (es : List G3) (len : Int) : (uRes es len).length ≤ 300000 := by
  by_cases h : lenCode es len = 0
  · rw [uRes_pos h, uOut]
    have h1 := ugo_len es len len.toNat len.toNat 0 [] (Nat.le_refl _)
    have h2 := (lenCode_zero h).2
    have h3 : ([] : List (Int × Int)).length = 0 := rfl
    omega
  · rw [uRes_neg h]; simp
theorem info_ints : (Try.prog.info? 39).map (fun i => (i.zero, i.size, i.bytes)) = some (some (.slice none 0 0), 1, 24) := by kernel_rfl
theorem ugo_known {es : List G3} {len m : Int} {fu : Nat} {out : List (Int × Int)} {j : Nat} {e : G3} (he : es[j]? = some e) (hk : knowP es m j = true) (hf : len ≤ m + fu) :
    m < e.b ∧ ugo es len fu m out = ugo es len (fu - (e.b - m).toNat) e.b out ∧ len ≤ e.b + ((fu - (e.b - m).toNat : Nat) : Int) := by
  rw [knowP_at he, knowsB, inR_iff] at hk
  refine ⟨by omega, ?_, by omega⟩
  have := ugo_skip (es := es) (len := len) (e.b - m).toNat (f := fu) (m := m) (out := out) (fun x h1 h2 => cov_of he (by omega) (by omega)) hf
  rw [this]; congr 1; omega
theorem know_none {es : List G3} {m : Int} (h : knowIdx es m = []) : covB es m = false := by
  refine cov_none fun k hk => ?_
  cases hp : knowP es m k with
  | false => rfl
  | true =>
    exfalso
    have h1 : (idxs (knowP es m) es.length) = [] := h
    have h2 : k ∈ (List.range es.length).filter (knowP es m) := List.mem_filter.2 ⟨List.mem_range.2 hk, hp⟩
    unfold idxs at h1
    rw [List.map_eq_nil_iff] at h1
    rw [h1] at h2; simp at h2
theorem reach_none {es : List G3} {m : Int} (h : reach es m < 0) : covB es m = false := by
  refine know_none ?_
  cases hk : knowIdx es m with
  | nil => rfl
  | cons x xs =>
    exfalso
    have hr : ∀ n, reachN es m n < 0 → idxs (knowP es m) n = [] := by
      intro n
      induction n with
      | zero => intro _; rfl
      | succ n ih =>
        intro hn
        unfold reachN at hn
        split at hn
        · exfalso
          rename_i hp
          unfold rNext at hn
          split at hn
          · omega
          · rename_i h2
            have h3 : ¬ reachN es m n < 0 := fun h4 => h2 (.inl h4)
            exact h3 hn
        · rename_i hp
          rw [idxs_no (by simpa using hp)]; exact ih hn
    have := hr es.length h
    rw [knowIdx, this] at hk; cases hk
set_option maxHeartbeats 2000000 in
set_option maxRecDepth 100000 in
theorem impl_UnknownPlaces (A : Option Addr) (n c : Nat) (es : List G3) (len : Int) (w : World) (hmax : n ≤ 1048576) (hnm : ∀ e ∈ es, e.s.size ≤ 1048576) (h : Sl w w.heap.size 3 G3.cells A n es) :
    Calls Try.prog 44 #[.slice A n c, .int .i64 len] w fun e w' => ∃ v, e = .returned (.tuple #[v, .int .i64 (lenCode es len)]) ∧ (∃ ts, ts.map (·.2) = uRes es len ∧ OSS w' w.heap.size v ts) ∧ Below w.heap.size w w' := by
  obtain ⟨i0, hi, hz0, hz1, hz2⟩ := info_parts info_ints
  have Hn := Lib.hid h.len
  by_cases g1 : lenCode es len = 0
  · obtain ⟨k1, k2, k3⟩ := lenCode_zero g1
    rw [g1, uRes_pos g1]
    have Hok := Lib.hid k1
    clear k1
    go_enter Try.func44, Try.ntmps44
    go_wp2_with (go_at_call 69; refine (impl_lengthCode _ _ _ es _ _ hmax hnm h).mono ?_; rintro e w1 ⟨rfl, hb1⟩; rw [g1])
    clear g1
    go_loopw [7, 8] (fun v p wr => ∃ (fu : Nat) (m : Int) (ts : List (Nat × Int × Int)), p = .int .i64 m ∧ 0 ≤ m ∧ len ≤ m + fu ∧ ts.length + fu ≤ 300000 ∧ Hid (ugo es len fu m (ts.map (·.2)) = uOut es len) ∧ Hid (OSS wr w.heap.size v ts) ∧ Below w.heap.size w wr) (fun _ p _ => (len - intOf p).toNat)
    case atStart => exact ⟨len.toNat, 0, [], rfl, by omega, by omega, by simp; omega, Lib.hid rfl, Lib.hid (oss_empty _ _ hb1.size), below_al hb1 _⟩
    case round =>
      obtain ⟨fu, m, ts, rfl, hm0, hfu, htl, Hu, HO, hbel⟩ := hrel
      by_cases hlt : m < len
      · cases hK : knowIdx es m with
        | cons x xs =>
          obtain ⟨j, rfl, hj1, hj2⟩ := idxs_mem (n := es.length) (x := x) (p := knowP es m) (by show x ∈ knowIdx es m; rw [hK]; simp)
          have hjn : j < n := by rw [← Hn.out]; exact hj1
          obtain ⟨b, off, rfl, hb, H⟩ := h.at_ (by omega)
          obtain ⟨e, he⟩ := h.get hjn
          obtain ⟨hme, hug, hfu2⟩ := ugo_known (out := ts.map (·.2)) he hj2 hfu
          have Hug := Lib.hid hug
          have HK := Lib.hid hK
          have He := Lib.hid he
          clear hK hug he hj2
          go_wp2_with (go_at_call 66; refine (impl_guardsAt _ _ _ es _ _ hmax Hok.out (h.on hbel)).mono ?_; rintro e' w2 ⟨v2, rfl, ho2, hb2⟩; refine Hid.out ?_)
          refine Lib.hid ?_
          rw [HK.out] at ho2
          obtain ⟨A2, n2, c2, rfl, hl2, _⟩ := own_shape ho2
          have hn2 : 0 < n2 := by rw [← hl2]; simp
          obtain ⟨b2, off2, rfl, _, H2⟩ := (own_sl ho2 icell_len).at_ hn2
          have d0 := H2.i1 (k := 0) (x := (j : Int)) rfl
          simp only [Nat.add_zero] at d0
          have hbel2 := below_then hbel hb2
          have HO2 := Lib.hid (HO.out.on hb2)
          obtain ⟨c0, c1, c2'⟩ := (H.below hbel2 hb).g3 He.out
          have hn2i : (0 : Int) < (n2 : Int) := by omega
          have hji : (j : Int) < (n : Int) := by omega
          have hj0 : (0 : Int) ≤ (j : Int) := by omega
          clear ho2 H2 hl2 hb2
          go_wp2_with fail
          go_roundw
          case rel => exact ⟨fu - (e.b - m).toNat, e.b, ts, rfl, by omega, hfu2, by omega, Lib.hid (by rw [← Hug.out]; exact Hu.out), HO2, hbel2⟩
          case measure => simp [intOf]; omega
        | nil =>
          have Hcov := Lib.hid (know_none hK)
          have HK := Lib.hid hK
          clear hK
          go_wp2_with (go_at_call 66; refine (impl_guardsAt _ _ _ es _ _ hmax Hok.out (h.on hbel)).mono ?_; rintro e' w2 ⟨v2, rfl, ho2, hb2⟩; rw [HK.out] at ho2; obtain ⟨A2, n2, c2, rfl, hl2, _⟩ := own_shape ho2; have hn2 : n2 = 0 := (by rw [← hl2]; rfl); subst hn2; have hbel2 := below_then hbel hb2; have HO2 := Lib.hid (HO.out.on hb2); clear ho2 hl2)
          obtain ⟨wo, hwo⟩ : ∃ wo : World, wo = w2 := ⟨_, rfl⟩
          subst hwo
          go_loopw [10, 40] (fun t i wz => ∃ (k : Nat) (y : Int), k ≤ n ∧ i = .int .i64 k ∧ t = .int .i64 y ∧ Hid (nxN es m len k = y) ∧ Hid (OSS wz w.heap.size u7 ts) ∧ Below w.heap.size w wz) (fun _ i _ => n - (intOf i).toNat)
          case atStart => exact ⟨0, len, by omega, rfl, rfl, Lib.hid rfl, HO2, hbel2⟩
          case round =>
            obtain ⟨k, y, hk, rfl, rfl, Hy, HOz, hbz⟩ := hrel
            by_cases hlt2 : k < n
            · obtain ⟨b, off, rfl, hb, H⟩ := h.at_ (by omega)
              obtain ⟨e, he⟩ := h.get hlt2
              obtain ⟨c0, c1, c2'⟩ := (H.below hbz hb).g3 he
              have Hs := Lib.hid (nxN_succ (m := m) (len := len) he)
              have HOa := Lib.hid (HOz.out.on (below_al (Below.refl _ _) (.cells #[.string e.s, .int .i64 e.a, .int .i64 e.b] 35)))
              clear he
              by_cases hme : m < e.a
              · rcases Int.lt_or_le e.a y with hy | hy
                · go_wp2_with fail
                  go_roundw
                  case rel => exact ⟨k + 1, e.a, by omega, by go_num, rfl, Lib.hid (by rw [Hs.out, if_pos hme, Hy.out]; omega), HOa, below_al hbz _⟩
                  case measure => simp [intOf]; omega
                · go_wp2_with fail
                  go_roundw
                  case rel => exact ⟨k + 1, y, by omega, by go_num, rfl, Lib.hid (by rw [Hs.out, if_pos hme, Hy.out]; omega), HOa, below_al hbz _⟩
                  case measure => simp [intOf]; omega
              · go_wp2_with fail
                go_roundw
                case rel => exact ⟨k + 1, y, by omega, by go_num, rfl, Lib.hid (by rw [Hs.out, if_neg hme, Hy.out]), HOa, below_al hbz _⟩
                case measure => simp [intOf]; omega
            · have hkn : k = n := by omega
              subst hkn
              have HL := Lib.hid (show ts.length ≤ 300000 by omega)
              have hp := ugo_part (e := y) (out := ts.map (·.2)) hlt hfu Hcov.out (by rw [Hn.out]; exact Hy.out)
              have hbd := nxN_bd es m len hlt k
              rw [Hy.out] at hbd
              have Hp := Lib.hid hp.1
              have hp2 := hp.2
              clear hp
              go_wp2_with (at_builtin; refine wpList_push_at rfl _ _ 57 rfl w.heap.size 39 i0 (.slice none 0 0) 1 24 Try.underlying57 hi hz0 hz1 hz2 rfl (by omega) pcell_len pcell_one _ _ ((wr.heap.size, m, y) : Nat × Int × Int) rfl (own_alloc HOz.out.own _) _ rfl _ rfl (by first | rfl | simp) (by have hz := HL.out; omega) (by omega) (below_al hbz _).size ?_; intro v4 w4 ho4 hg4 hat4; have hbel4 := own_grown (below_al hbz _) (own_alloc HOz.out.own _) (Nat.le_refl _) (below_al hbz _).size hg4; have HO4 := Lib.hid (oss_push HOz.out hbz.size ho4 hg4 hat4); clear ho4 hg4 hat4)
              go_roundw
              case rel => exact ⟨fu - (y - m).toNat, y, _, rfl, by omega, hp2, by simp; omega, Lib.hid (by rw [List.map_append]; rw [← Hu.out, Hp.out]; rfl), HO4, hbel4⟩
              case measure => simp [intOf]; omega
      · go_wp2_with fail
        go_ret2
        have := Hu.out
        rw [ugo_end (by omega)] at this
        exact ⟨_, rfl, ⟨ts, this, HO.out⟩, hbel⟩
  · rw [uRes_neg g1]
    have hne : (lenCode es len != 0) = true := by simpa using g1
    clear g1
    go_enter Try.func44, Try.ntmps44
    go_wp2_with (go_at_call 69; refine (impl_lengthCode _ _ _ es _ _ hmax hnm h).mono ?_; rintro e w1 ⟨rfl, hb1⟩)
    go_ret2
    exact ⟨_, rfl, ⟨[], rfl, oss_empty _ _ hb1.size⟩, below_al hb1 _⟩
set_option maxHeartbeats 2000000 in
set_option maxRecDepth 100000 in
theorem spec_UnknownPlaces (A : Option Addr) (n c : Nat) (es : List G3) (len : Int) (w : World) (hmax : n ≤ 1048576) (hnm : ∀ e ∈ es, e.s.size ≤ 1048576) (h : Sl w w.heap.size 3 G3.cells A n es) :
    Calls Try.prog 43 #[.slice A n c, .int .i64 len] w fun e w' => ∃ v, e = .returned (.tuple #[v, .int .i64 (lenCode es len)]) ∧ (∃ ts, ts.map (·.2) = uRes es len ∧ OSS w' w.heap.size v ts) ∧ Below w.heap.size w w' := by
  obtain ⟨i0, hi, hz0, hz1, hz2⟩ := info_parts info_ints
  have Hn := Lib.hid h.len
  by_cases g1 : lenCode es len = 0
  · obtain ⟨k1, k2, k3⟩ := lenCode_zero g1
    rw [g1, uRes_pos g1]
    have Hok := Lib.hid k1
    clear k1
    go_enter Try.func43, Try.ntmps43
    go_wp2_with (go_at_call 67; refine (spec_l17Code _ _ _ es _ _ hmax hnm h).mono ?_; rintro e w1 ⟨rfl, hb1⟩; rw [g1])
    clear g1
    go_loopw [7, 8] (fun v p wr => ∃ (fu : Nat) (m : Int) (ts : List (Nat × Int × Int)), p = .int .i64 m ∧ 0 ≤ m ∧ len ≤ m + fu ∧ ts.length + fu ≤ 300000 ∧ Hid (ugo es len fu m (ts.map (·.2)) = uOut es len) ∧ Hid (OSS wr w.heap.size v ts) ∧ Below w.heap.size w wr) (fun _ p _ => (len - intOf p).toNat)
    case atStart => exact ⟨len.toNat, 0, [], rfl, by omega, by omega, by simp; omega, Lib.hid rfl, Lib.hid (oss_empty _ _ hb1.size), below_al hb1 _⟩
    case round =>
      obtain ⟨fu, m, ts, rfl, hm0, hfu, htl, Hu, HO, hbel⟩ := hrel
      by_cases hlt : m < len
      · obtain ⟨r, hr⟩ : ∃ r, reach es m = r := ⟨_, rfl⟩
        have Hr := Lib.hid hr
        by_cases hr0 : r < 0
        · have Hcov := Lib.hid (reach_none (by rw [hr]; exact hr0))
          clear hr
          have hrn : ¬ 0 ≤ r := by omega
          go_wp2_with (go_at_call 68; refine (spec_l17Reach _ _ _ es _ _ hmax Hok.out (h.on hbel)).mono ?_; rintro e' w2 ⟨rfl, hb2⟩; rw [Hr.out]; have hbel2 := below_then hbel hb2; have HO2 := Lib.hid (HO.out.on hb2))
          obtain ⟨wo, hwo⟩ : ∃ wo : World, wo = w2 := ⟨_, rfl⟩
          subst hwo
          go_loop [10, 11] (fun t i => ∃ (k : Nat) (y : Int), k ≤ n ∧ i = .int .i64 k ∧ t = .int .i64 y ∧ Hid (nxN es m len k = y)) (fun _ i => n - (intOf i).toNat)
          case atStart => exact ⟨0, len, by omega, rfl, rfl, Lib.hid rfl⟩
          case round =>
            obtain ⟨k, y, hk, rfl, rfl, Hy⟩ := hrel
            by_cases hlt2 : k < n
            · obtain ⟨b, off, rfl, hb, H⟩ := h.at_ (by omega)
              obtain ⟨e, he⟩ := h.get hlt2
              obtain ⟨c0, c1, c2'⟩ := (H.below hbel2 hb).g3 he
              have Hs := Lib.hid (nxN_succ (m := m) (len := len) he)
              clear he
              by_cases hme : m < e.a
              · go_wp2_with (go_at_call 77; refine (spec_l00Min _ _ _).mono ?_; rintro e' w' ⟨rfl, rfl⟩)
                go_round
                case rel => exact ⟨k + 1, min y e.a, by omega, by go_num, rfl, Lib.hid (by rw [Hs.out, if_pos hme, Hy.out])⟩
                case measure => simp [intOf]; omega
              · go_wp2_with fail
                go_round
                case rel => exact ⟨k + 1, y, by omega, by go_num, rfl, Lib.hid (by rw [Hs.out, if_neg hme, Hy.out])⟩
                case measure => simp [intOf]; omega
            · have hkn : k = n := by omega
              subst hkn
              have HL := Lib.hid (show ts.length ≤ 300000 by omega)
              have hp := ugo_part (e := y) (out := ts.map (·.2)) hlt hfu Hcov.out (by rw [Hn.out]; exact Hy.out)
              have hbd := nxN_bd es m len hlt k
              rw [Hy.out] at hbd
              have Hp := Lib.hid hp.1
              have hp2 := hp.2
              clear hp
              go_wp2_with (at_builtin; refine wpList_push_at rfl _ _ 57 rfl w.heap.size 39 i0 (.slice none 0 0) 1 24 Try.underlying57 hi hz0 hz1 hz2 rfl (by omega) pcell_len pcell_one _ _ ((wo.heap.size, m, y) : Nat × Int × Int) rfl (own_alloc HO2.out.own _) _ rfl _ rfl (by first | rfl | simp) (by have hz := HL.out; omega) (by omega) (below_al hbel2 _).size ?_; intro v4 w4 ho4 hg4 hat4; have hbel4 := own_grown (below_al hbel2 _) (own_alloc HO2.out.own _) (Nat.le_refl _) (below_al hbel2 _).size hg4; have HO4 := Lib.hid (oss_push HO2.out hbel2.size ho4 hg4 hat4); clear ho4 hg4 hat4)
              go_roundw
              case rel => exact ⟨fu - (y - m).toNat, y, _, rfl, by omega, hp2, by simp; omega, Lib.hid (by rw [List.map_append]; rw [← Hu.out, Hp.out]; rfl), HO4, hbel4⟩
              case measure => simp [intOf]; omega
        · obtain ⟨j, hj, hjl, hjp⟩ : ∃ j : Nat, r = (j : Int) ∧ j < es.length ∧ knowP es m j = true := by
            rcases reachN_bd es m es.length with h1 | ⟨j, h1, h2, h3⟩
            · exfalso; rw [← hr, reach] at hr0; omega
            · exact ⟨j, by rw [← hr, reach, h1], h2, h3⟩
          subst hj
          clear hr hr0
          have hjn : j < n := by rw [← Hn.out]; exact hjl
          obtain ⟨b, off, rfl, hb, H⟩ := h.at_ (by omega)
          obtain ⟨e, he⟩ := h.get hjn
          obtain ⟨hme, hug, hfu2⟩ := ugo_known (out := ts.map (·.2)) he hjp hfu
          have Hug := Lib.hid hug
          have He := Lib.hid he
          clear hug he hjp
          have hji : (j : Int) < (n : Int) := by omega
          have hj0 : (0 : Int) ≤ (j : Int) := by omega
          go_wp2_with (go_at_call 68; refine (spec_l17Reach _ _ _ es _ _ hmax Hok.out (h.on hbel)).mono ?_; rintro e' w2 ⟨rfl, hb2⟩; rw [Hr.out]; have hbel2 := below_then hbel hb2; have HO2 := Lib.hid (HO.out.on hb2); obtain ⟨c0, c1, c2'⟩ := (H.below hbel2 hb).g3 He.out)
          go_roundw
          case rel => exact ⟨fu - (e.b - m).toNat, e.b, ts, rfl, by omega, hfu2, by omega, Lib.hid (by rw [← Hug.out]; exact Hu.out), HO2, hbel2⟩
          case measure => simp [intOf]; omega
      · go_wp2_with fail
        go_ret2
        have := Hu.out
        rw [ugo_end (by omega)] at this
        exact ⟨_, rfl, ⟨ts, this, HO.out⟩, hbel⟩
  · rw [uRes_neg g1]
    have hne : (lenCode es len != 0) = true := by simpa using g1
    clear g1
    go_enter Try.func43, Try.ntmps43
    go_wp2_with (go_at_call 67; refine (spec_l17Code _ _ _ es _ _ hmax hnm h).mono ?_; rintro e w1 ⟨rfl, hb1⟩)
    go_ret2
    exact ⟨_, rfl, ⟨[], rfl, oss_nil _ _⟩, hb1⟩

end Go.Proofs.Ythjdodamfinhaaa

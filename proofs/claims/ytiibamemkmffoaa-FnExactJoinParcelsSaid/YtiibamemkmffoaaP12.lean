/- Walks over functions of this seat, by contract. Conditions: those that each theorem states. -/
import Derived.Test.YtiibamemkmffoaaP11
namespace Go.Proofs.Ytiibamemkmffoaa
open Go.RowKit Go.Sort

def addCode (es : List Q4) (p : Q4) : Int := if parcelsOk es = false then 1 else if parcelOk p = false then 2 else if fnd es p.a < es.length then 4 else if es.length < 60 then 0 else 5
def addOut (es : List Q4) (p : Q4) : List Q4 := if addCode es p = 0 then putAt es (pat es p.a) p else []
theorem addOut_neg {es : List Q4} {p : Q4} (h : addCode es p ≠ 0) : addOut es p = [] := if_neg h
theorem addOut_pos {es : List Q4} {p : Q4} (h : addCode es p = 0) : addOut es p = putAt es (pat es p.a) p := if_pos h
theorem putAt_len (es : List Q4) (k : Nat) (p : Q4) (hk : k ≤ es.length) : (putAt es k p).length = es.length + 1 := by
  simp only [putAt, List.length_append, List.length_take, List.length_drop, List.length_cons, List.length_nil]; omega
theorem put_pos {es : List Q4} {a : Int} {k : Nat} (h : rising es) (hf : ¬ fnd es a < es.length) (h1 : k ≤ es.length) (h2 : ∀ (j : Nat) x, k ≤ j → es[j]? = some x → a < x.a) (h3 : 0 < k → ∃ x, es[k - 1]? = some x ∧ x.a ≤ a) : pat es a = k := by
  have hn : ∀ (j : Nat) x, es[j]? = some x → ¬ x.a = a := fun j x hx e => by
    have := fi_lt (p := idIs a) (es := es) (j := j) (x := x) (by
      have := (List.getElem?_eq_some_iff.1 hx).1
      have e1 : es.findIdx (idIs a) = fnd es a := rfl
      omega) hx
    simp [idIs, e] at this
  have hlow : ∀ (j : Nat) x, j < k → es[j]? = some x → idGe a x = false := fun j x hj hx => by
    obtain ⟨y, hy, hya⟩ := h3 (by omega)
    have := hn _ _ hx
    have := hn _ _ hy
    rcases Nat.lt_or_ge j (k - 1) with h4 | h4
    · have := h j _ x y h4 hx hy
      simp [idGe]; omega
    · have : j = k - 1 := by omega
      subst this; rw [hx] at hy; injection hy with hy; subst hy
      simp [idGe]; omega
  rcases Nat.lt_or_ge k es.length with h4 | h4
  · refine fi_at hlow (List.getElem?_eq_getElem h4) ?_
    have := h2 k _ (Nat.le_refl _) (List.getElem?_eq_getElem h4)
    simp [idGe]; omega
  · have : k = es.length := by omega
    subst this
    exact fi_none fun j x hx => hlow j x (List.getElem?_eq_some_iff.1 hx).1 hx
theorem addOut_len (es : List Q4) (p : Q4) : (addOut es p).length ≤ 60 := by
  by_cases h : addCode es p = 0
  · rw [addOut_pos h, putAt_len _ _ _ (pat_le _ _)]
    have : es.length < 60 := by
      rcases Nat.lt_or_ge es.length 60 with h1 | h1
      · exact h1
      · exfalso
        revert h
        unfold addCode
        repeat' split
        all_goals omega
    omega
  · rw [addOut_neg h]; simp
set_option maxHeartbeats 1000000 in
theorem impl_AddParcel (A : Option Addr) (n c : Nat) (es : List Q4) (p : Q4) (w : World) (hmax : n ≤ 1048576) (hnc : n ≤ c) (h : Sl w w.heap.size 4 Q4.cells A n es) :
    Calls Try.prog 40 #[.slice A n c, .agg #[.int .i64 p.a, .int .i64 p.b, .int .i64 p.c, .int .i64 p.d]] w fun e w' => ∃ v, e = .returned (.tuple #[v, .int .i64 (addCode es p)]) ∧ Own w' w.heap.size 46 4 Q4.cells v (addOut es p) ∧ Below w.heap.size w w' := by
  have hal := below_al (Below.refl w.heap.size w) (.cells #[.int .i64 p.a, .int .i64 p.b, .int .i64 p.c, .int .i64 p.d] 46)
  by_cases hok : parcelsOk es = true
  · have hk0 : idsCode es [] = 0 := by rw [idsCode_nil]; simp [areasCode, hok]
    have hr := parcels_rise hok
    have hl60 := (parcels_all hok).1
    by_cases hpo : parcelOk p = true
    · by_cases k2 : fnd es p.a < es.length
      · have ht : thr es p.a = true := by rw [thr_fnd hr]; simp [k2]
        obtain ⟨kk, hkk⟩ : ∃ kk, fnd es p.a = kk := ⟨_, rfl⟩
        have hf : fndR es p.a = (kk : Int) := by rw [fndR, if_pos k2, hkk]
        have hc : addCode es p = 4 := by unfold addCode; rw [if_neg (by simp [hok]), if_neg (by simp [hpo]), if_pos k2]
        rw [hc, addOut_neg (by omega)]
        clear hc k2 hr hl60
        go_enter Try.func40, Try.ntmps40
        go_wp2_with (first
          | (go_at_call 51; refine (impl_parcelsCode _ _ _ es _ _ _ [] _ hmax (by omega) (h.on hal) (Sl.nil_ _ _ _ _ _)).mono ?_; rintro e' w1 ⟨rfl, hb1⟩; rw [hk0]; have hbb := below_then hal hb1; obtain ⟨x0, x1, x2, x3⟩ := box4k hb1)
          | (go_at_call 55; refine (impl_parcelAt _ _ _ es _ _ hmax (h.on hbb)).mono ?_; rintro e' w2 ⟨rfl, hb2⟩; rw [ht]; have hb12 := below_then hb1 hb2; have hbb := below_then hal hb12; obtain ⟨x0, x1, x2, x3⟩ := box4k hb12)
          | (go_at_call 49; refine (impl_isParcel p _).mono ?_; rintro e' w3 ⟨rfl, hb3⟩; rw [hpo]; have hb13 := below_then hb12 hb3; have hbb := below_then hal hb13; obtain ⟨x0, x1, x2, x3⟩ := box4k hb13))
        go_ret2
        exact ⟨_, rfl, own_new_empty _ _ _ _ _ hbb.size, below_al hbb _⟩
      · have ht : thr es p.a = false := by rw [thr_fnd hr]; simp [k2]
        have hf : fndR es p.a = -1 := by rw [fndR, if_neg k2]
        by_cases k4 : es.length < 60
        · have hc : addCode es p = 0 := by unfold addCode; rw [if_neg (by simp [hok]), if_neg (by simp [hpo]), if_neg k2, if_pos k4]
          have hn60 : ((n : Int) == 60) = false := by rw [h.len] at k4; simp; omega
          have hn60' : (n : Int) < 60 := by rw [h.len] at k4; omega
          have Hlen := Lib.hid h.len
          rw [hc, addOut_pos hc]
          have K2 := Lib.hid k2
          have Hr := Lib.hid hr
          clear hc k2 hr hl60 k4
          go_enter Try.func40, Try.ntmps40
          go_wp2_with (first
            | (go_at_call 51; refine (impl_parcelsCode _ _ _ es _ _ _ [] _ hmax (by omega) (h.on hal) (Sl.nil_ _ _ _ _ _)).mono ?_; rintro e' w1 ⟨rfl, hb1⟩; rw [hk0]; have hbb := below_then hal hb1; obtain ⟨x0, x1, x2, x3⟩ := box4k hb1)
            | (go_at_call 55; refine (impl_parcelAt _ _ _ es _ _ hmax (h.on hbb)).mono ?_; rintro e' w2 ⟨rfl, hb2⟩; rw [ht]; have hb12 := below_then hb1 hb2; have hbb := below_then hal hb12; obtain ⟨x0, x1, x2, x3⟩ := box4k hb12)
            | (go_at_call 49; refine (impl_isParcel p _).mono ?_; rintro e' w3 ⟨rfl, hb3⟩; rw [hpo]; have hb13 := below_then hb12 hb3; have hbb := below_then hal hb13; obtain ⟨x0, x1, x2, x3⟩ := box4k hb13)
            | (go_at_call 65; refine (impl_withParcel _ _ _ es p _ hmax hnc (h.on hbb)).mono ?_; rintro e' w4 ⟨v4, rfl, ho4, hb4⟩))
          go_ret2
          exact ⟨_, rfl, ho4.base_le hbb.size, below_then hbb hb4⟩
        · have hc : addCode es p = 5 := by unfold addCode; rw [if_neg (by simp [hok]), if_neg (by simp [hpo]), if_neg k2, if_neg k4]
          have hn60 : ((n : Int) == 60) = true := by rw [h.len] at k4 hl60; simp; omega
          have hn60' : (60 : Int) ≤ (n : Int) := by rw [h.len] at k4; omega
          rw [hc, addOut_neg (by omega)]
          clear hc k2 hr hl60 k4
          go_enter Try.func40, Try.ntmps40
          go_wp2_with (first
            | (go_at_call 51; refine (impl_parcelsCode _ _ _ es _ _ _ [] _ hmax (by omega) (h.on hal) (Sl.nil_ _ _ _ _ _)).mono ?_; rintro e' w1 ⟨rfl, hb1⟩; rw [hk0]; have hbb := below_then hal hb1; obtain ⟨x0, x1, x2, x3⟩ := box4k hb1)
            | (go_at_call 55; refine (impl_parcelAt _ _ _ es _ _ hmax (h.on hbb)).mono ?_; rintro e' w2 ⟨rfl, hb2⟩; rw [ht]; have hb12 := below_then hb1 hb2; have hbb := below_then hal hb12; obtain ⟨x0, x1, x2, x3⟩ := box4k hb12)
            | (go_at_call 49; refine (impl_isParcel p _).mono ?_; rintro e' w3 ⟨rfl, hb3⟩; rw [hpo]; have hb13 := below_then hb12 hb3; have hbb := below_then hal hb13; obtain ⟨x0, x1, x2, x3⟩ := box4k hb13))
          go_ret2
          exact ⟨_, rfl, own_new_empty _ _ _ _ _ hbb.size, below_al hbb _⟩
    · have hpo : parcelOk p = false := by simpa using hpo
      have hc : addCode es p = 2 := by unfold addCode; rw [if_neg (by simp [hok]), if_pos hpo]
      obtain ⟨tt, ht⟩ : ∃ tt, thr es p.a = tt := ⟨_, rfl⟩
      obtain ⟨kk, hf⟩ : ∃ kk, fndR es p.a = kk := ⟨_, rfl⟩
      rw [hc, addOut_neg (by omega)]
      clear hc hr hl60
      go_enter Try.func40, Try.ntmps40
      go_wp2_with (first
        | (go_at_call 51; refine (impl_parcelsCode _ _ _ es _ _ _ [] _ hmax (by omega) (h.on hal) (Sl.nil_ _ _ _ _ _)).mono ?_; rintro e' w1 ⟨rfl, hb1⟩; rw [hk0]; have hbb := below_then hal hb1; obtain ⟨x0, x1, x2, x3⟩ := box4k hb1)
        | (go_at_call 55; refine (impl_parcelAt _ _ _ es _ _ hmax (h.on hbb)).mono ?_; rintro e' w2 ⟨rfl, hb2⟩; rw [ht]; have hb12 := below_then hb1 hb2; have hbb := below_then hal hb12; obtain ⟨x0, x1, x2, x3⟩ := box4k hb12)
        | (go_at_call 49; refine (impl_isParcel p _).mono ?_; rintro e' w3 ⟨rfl, hb3⟩; rw [hpo]; have hb13 := below_then hb12 hb3; have hbb := below_then hal hb13; obtain ⟨x0, x1, x2, x3⟩ := box4k hb13))
      go_ret2
      exact ⟨_, rfl, own_new_empty _ _ _ _ _ hbb.size, below_al hbb _⟩
  · have hok : parcelsOk es = false := by simpa using hok
    have hk0 : idsCode es [] = 1 := by rw [idsCode_nil]; simp [areasCode, hok]
    have hc : addCode es p = 1 := by unfold addCode; rw [if_pos hok]
    rw [hc, addOut_neg (by omega)]
    clear hc
    go_enter Try.func40, Try.ntmps40
    go_wp2_with (first
      | (go_at_call 51; refine (impl_parcelsCode _ _ _ es _ _ _ [] _ hmax (by omega) (h.on hal) (Sl.nil_ _ _ _ _ _)).mono ?_; rintro e' w1 ⟨rfl, hb1⟩; rw [hk0]; have hbb := below_then hal hb1; obtain ⟨x0, x1, x2, x3⟩ := box4k hb1))
    go_ret2
    exact ⟨_, rfl, own_new_empty _ _ _ _ _ hbb.size, below_al hbb _⟩
set_option maxHeartbeats 1000000 in
theorem spec_AddParcel (A : Option Addr) (n c : Nat) (es : List Q4) (p : Q4) (w : World) (hmax : n ≤ 1048576) (hnc : n ≤ c) (h : Sl w w.heap.size 4 Q4.cells A n es) :
    Calls Try.prog 38 #[.slice A n c, .agg #[.int .i64 p.a, .int .i64 p.b, .int .i64 p.c, .int .i64 p.d]] w fun e w' => ∃ v, e = .returned (.tuple #[v, .int .i64 (addCode es p)]) ∧ Own w' w.heap.size 46 4 Q4.cells v (addOut es p) ∧ Below w.heap.size w w' := by
  have hal := below_al (Below.refl w.heap.size w) (.cells #[.int .i64 p.a, .int .i64 p.b, .int .i64 p.c, .int .i64 p.d] 46)
  by_cases hok : parcelsOk es = true
  · have hk0 : idsCode es [] = 0 := by rw [idsCode_nil]; simp [areasCode, hok]
    have hr := parcels_rise hok
    have hl60 := (parcels_all hok).1
    by_cases hpo : parcelOk p = true
    · by_cases k2 : fnd es p.a < es.length
      · have ht : thr es p.a = true := by rw [thr_fnd hr]; simp [k2]
        obtain ⟨kk, hkk⟩ : ∃ kk, fnd es p.a = kk := ⟨_, rfl⟩
        have hf : fndR es p.a = (kk : Int) := by rw [fndR, if_pos k2, hkk]
        have hc : addCode es p = 4 := by unfold addCode; rw [if_neg (by simp [hok]), if_neg (by simp [hpo]), if_pos k2]
        rw [hc, addOut_neg (by omega)]
        clear hc k2 hr hl60
        go_enter Try.func38, Try.ntmps38
        go_wp2_with (first
          | (go_at_call 47; refine (spec_l19Ok _ _ _ es _ hmax (h.on hal)).mono ?_; rintro e' w1 ⟨rfl, hb1⟩; rw [hok]; have hbb := below_then hal hb1; obtain ⟨x0, x1, x2, x3⟩ := box4k hb1)
          | (go_at_call 63; refine (spec_l19One _ _ p _ x0 x1 x2 x3).mono ?_; rintro e' w' ⟨rfl, rfl⟩; rw [hpo])
          | (go_at_call 61; refine (spec_l19Find _ _ _ es _ _ hmax (h.on hbb)).mono ?_; rintro e' w2 ⟨rfl, hb2⟩; rw [hf]; have hb12 := below_then hb1 hb2; have hbb := below_then hal hb12; obtain ⟨x0, x1, x2, x3⟩ := box4k hb12))
        go_ret2
        exact ⟨_, rfl, own_nil _ _ _ _ _, hbb⟩
      · have ht : thr es p.a = false := by rw [thr_fnd hr]; simp [k2]
        have hf : fndR es p.a = -1 := by rw [fndR, if_neg k2]
        by_cases k4 : es.length < 60
        · have hc : addCode es p = 0 := by unfold addCode; rw [if_neg (by simp [hok]), if_neg (by simp [hpo]), if_neg k2, if_pos k4]
          have hn60 : ((n : Int) == 60) = false := by rw [h.len] at k4; simp; omega
          have hn60' : (n : Int) < 60 := by rw [h.len] at k4; omega
          have Hlen := Lib.hid h.len
          rw [hc, addOut_pos hc]
          have K2 := Lib.hid k2
          have Hr := Lib.hid hr
          clear hc k2 hr hl60 k4
          go_enter Try.func38, Try.ntmps38
          go_wp2_with (first
            | (go_at_call 47; refine (spec_l19Ok _ _ _ es _ hmax (h.on hal)).mono ?_; rintro e' w1 ⟨rfl, hb1⟩; rw [hok]; have hbb := below_then hal hb1; obtain ⟨x0, x1, x2, x3⟩ := box4k hb1)
            | (go_at_call 63; refine (spec_l19One _ _ p _ x0 x1 x2 x3).mono ?_; rintro e' w' ⟨rfl, rfl⟩; rw [hpo])
            | (go_at_call 61; refine (spec_l19Find _ _ _ es _ _ hmax (h.on hbb)).mono ?_; rintro e' w2 ⟨rfl, hb2⟩; rw [hf]; have hb12 := below_then hb1 hb2; have hbb := below_then hal hb12; obtain ⟨x0, x1, x2, x3⟩ := box4k hb12)
            | (go_at_call 64; refine (spec_l19Put _ _ _ es p _ hmax hnc (h.on hbb)).mono ?_; rintro e' w4 ⟨v4, k4, rfl, ho4, q1, q2, q3, hb4⟩))
          go_ret2
          have hpp : pat es p.a = k4 := put_pos Hr.out K2.out (by rw [Hlen.out]; exact q1) q2 q3
          exact ⟨_, rfl, by rw [hpp]; exact ho4.base_le hbb.size, below_then hbb hb4⟩
        · have hc : addCode es p = 5 := by unfold addCode; rw [if_neg (by simp [hok]), if_neg (by simp [hpo]), if_neg k2, if_neg k4]
          have hn60 : ((n : Int) == 60) = true := by rw [h.len] at k4 hl60; simp; omega
          have hn60' : (60 : Int) ≤ (n : Int) := by rw [h.len] at k4; omega
          rw [hc, addOut_neg (by omega)]
          clear hc k2 hr hl60 k4
          go_enter Try.func38, Try.ntmps38
          go_wp2_with (first
            | (go_at_call 47; refine (spec_l19Ok _ _ _ es _ hmax (h.on hal)).mono ?_; rintro e' w1 ⟨rfl, hb1⟩; rw [hok]; have hbb := below_then hal hb1; obtain ⟨x0, x1, x2, x3⟩ := box4k hb1)
            | (go_at_call 63; refine (spec_l19One _ _ p _ x0 x1 x2 x3).mono ?_; rintro e' w' ⟨rfl, rfl⟩; rw [hpo])
            | (go_at_call 61; refine (spec_l19Find _ _ _ es _ _ hmax (h.on hbb)).mono ?_; rintro e' w2 ⟨rfl, hb2⟩; rw [hf]; have hb12 := below_then hb1 hb2; have hbb := below_then hal hb12; obtain ⟨x0, x1, x2, x3⟩ := box4k hb12))
          go_ret2
          exact ⟨_, rfl, own_nil _ _ _ _ _, hbb⟩
    · have hpo : parcelOk p = false := by simpa using hpo
      have hc : addCode es p = 2 := by unfold addCode; rw [if_neg (by simp [hok]), if_pos hpo]
      obtain ⟨tt, ht⟩ : ∃ tt, thr es p.a = tt := ⟨_, rfl⟩
      obtain ⟨kk, hf⟩ : ∃ kk, fndR es p.a = kk := ⟨_, rfl⟩
      rw [hc, addOut_neg (by omega)]
      clear hc hr hl60
      go_enter Try.func38, Try.ntmps38
      go_wp2_with (first
        | (go_at_call 47; refine (spec_l19Ok _ _ _ es _ hmax (h.on hal)).mono ?_; rintro e' w1 ⟨rfl, hb1⟩; rw [hok]; have hbb := below_then hal hb1; obtain ⟨x0, x1, x2, x3⟩ := box4k hb1)
        | (go_at_call 63; refine (spec_l19One _ _ p _ x0 x1 x2 x3).mono ?_; rintro e' w' ⟨rfl, rfl⟩; rw [hpo])
        | (go_at_call 61; refine (spec_l19Find _ _ _ es _ _ hmax (h.on hbb)).mono ?_; rintro e' w2 ⟨rfl, hb2⟩; rw [hf]; have hb12 := below_then hb1 hb2; have hbb := below_then hal hb12; obtain ⟨x0, x1, x2, x3⟩ := box4k hb12))
      go_ret2
      exact ⟨_, rfl, own_nil _ _ _ _ _, hbb⟩
  · have hok : parcelsOk es = false := by simpa using hok
    have hk0 : idsCode es [] = 1 := by rw [idsCode_nil]; simp [areasCode, hok]
    have hc : addCode es p = 1 := by unfold addCode; rw [if_pos hok]
    rw [hc, addOut_neg (by omega)]
    clear hc
    go_enter Try.func38, Try.ntmps38
    go_wp2_with (first
      | (go_at_call 47; refine (spec_l19Ok _ _ _ es _ hmax (h.on hal)).mono ?_; rintro e' w1 ⟨rfl, hb1⟩; rw [hok]; have hbb := below_then hal hb1; obtain ⟨x0, x1, x2, x3⟩ := box4k hb1))
    go_ret2
    exact ⟨_, rfl, own_nil _ _ _ _ _, hbb⟩

end Go.Proofs.Ytiibamemkmffoaa

/- Walks over functions of this seat, by contract. Conditions: those that each theorem states. -/
import Derived.Test.YthjdodamfinhaaaGb
namespace Go.Proofs.Ythjdodamfinhaaa
open Go.RowKit Go.Sort

set_option maxHeartbeats 400000 in
set_option maxRecDepth 100000 in
theorem impl_all_Shift (g : Nat) (caps : Array Value) (p : Q3 → Bool) (A : Option Addr) (n c : Nat) (es : List Q3) (w : World) (hmax : n ≤ 1048576) (hcall : ∀ args W, (callFunc g args).run Try.prog W = .ok (.enter g args) W)
    (hso : ∀ (x : Q3) (W : World), x ∈ es → Below w.heap.size w W → Calls Try.prog g (#[.agg #[.int .i64 x.a, .int .i64 x.b, .int .i64 x.c]] ++ caps) W fun e w' => e = .returned (.bool (p x)) ∧ Below W.heap.size W w') (h : Sl w w.heap.size 3 Q3.cells A n es) :
    Calls Try.prog 88 #[.slice A n c, .func (.func g) #[] caps] w fun e w' => e = .returned (.bool (es.all p)) ∧ Below w.heap.size w w' := by
  have Hn := Lib.hid h.len
  have HSO := Lib.hid hso
  clear hso
  go_enter Try.func88, Try.ntmps88
  go_wp2
  go_loopw [9] (fun i wr => ∃ k : Nat, k ≤ n ∧ i = .int .i64 k ∧ Hid (∀ j e, j < k → es[j]? = some e → p e = true) ∧ Below w.heap.size w wr) (fun i _ => n - (intOf i).toNat)
  case atStart => exact ⟨0, by omega, rfl, Lib.hid (fun j e hj => by omega), Below.refl _ _⟩
  case round =>
    obtain ⟨k, hk, rfl, Hgood, hbel⟩ := hrel
    by_cases hlt : k < n
    · obtain ⟨b, off, rfl, hb, H⟩ := h.at_ (by omega)
      obtain ⟨e, he⟩ := h.get hlt
      obtain ⟨c0, c1, c2⟩ := (H.below hbel hb).q3 he
      have Hmem := Lib.hid (List.mem_of_getElem? he)
      have He := Lib.hid he
      clear he
      obtain ⟨r, hr⟩ : ∃ r, p e = r := ⟨_, rfl⟩
      have Hr := Lib.hid hr
      go_wp2_with (refine (HSO.out e _ Hmem.out (below_al hbel _)).mono ?_; rintro e' w' ⟨rfl, hb1⟩; have hb2 := below_then (below_al hbel _) hb1; rw [hr])
      · have hne : (!r) = true := by assumption
        go_ret
        exact ⟨ret_bool (by rw [all_no He.out (by rw [Hr.out]; simpa using hne)]), hb2⟩
      · have heq : (!r) = false := by assumption
        go_roundw
        case rel => exact ⟨k + 1, by omega, by go_num, Lib.hid (fun j x hj hx => if h1 : j < k then Hgood.out j x h1 hx else by
          have : j = k := by omega
          subst this; rw [He.out] at hx; injection hx with hx; subst hx; rw [Hr.out]; simpa using heq), hb2⟩
        case measure => simp [intOf]; omega
    · go_wp2
      go_ret
      have hkn : k = n := by omega
      subst hkn
      exact ⟨ret_bool (by symm; rw [all_iff_get]; exact fun j x hx => Hgood.out j x (by rw [← Hn.out]; exact (List.getElem?_eq_some_iff.1 hx).1) hx), hbel⟩
theorem impl_shiftsCode_1 (q : Q3) (w : World) : Calls Try.prog 89 #[.agg #[.int .i64 q.a, .int .i64 q.b, .int .i64 q.c]] w fun e w' => e = .returned (.bool (hourOk q)) ∧ Below w.heap.size w w' := by
  go_enter Try.func89, Try.ntmps89
  go_wp2_with (go_at_call 78; refine (impl_ValidDay _ _).mono ?_; rintro e w' ⟨rfl, rfl⟩)
  all_goals (go_ret; exact ⟨ret_bool (by simp_all [hourOk]), below_al (Below.refl _ _) _⟩)
set_option maxHeartbeats 400000 in
theorem impl_shiftsCode (A : Option Addr) (n c : Nat) (es : List G3) (A2 : Option Addr) (m c2 : Nat) (ss : List Q3) (w : World) (hmax : n ≤ 1048576) (hmax2 : m ≤ 1048576) (hnm : ∀ e ∈ es, e.s.size ≤ 1048576) (h : Sl w w.heap.size 3 G3.cells A n es) (h2 : Sl w w.heap.size 3 Q3.cells A2 m ss) :
    Calls Try.prog 73 #[.slice A n c, .slice A2 m c2] w fun e w' => e = .returned (.int .i64 (shCode es ss)) ∧ Below w.heap.size w w' := by
  rcases Bool.eq_false_or_eq_true (guardsOk es) with g1 | g1
  · by_cases g3 : 40 < m
    · have hc : shCode es ss = 2 := by unfold shCode; rw [if_neg (by simp [g1]), if_pos (by rw [Bool.and_eq_false_iff]; right; rw [h2.len]; simpa using g3)]
      have g3' : (40 : Int) < (m : Int) := by omega
      rw [hc]
      go_enter Try.func73, Try.ntmps73
      go_wp2_with (go_at_call 20; refine (impl_ValidGuards _ _ _ es _ hmax hnm h).mono ?_; rintro e w1 ⟨rfl, hb1⟩; rw [g1])
      go_ret
      exact ⟨rfl, hb1⟩
    · have g3' : (m : Int) ≤ 40 := by omega
      have hcall : ∀ args W, (callFunc 89 args).run Try.prog W = .ok (.enter 89 args) W := fun _ _ => by kernel_rfl
      rcases Bool.eq_false_or_eq_true (ss.all hourOk) with g2 | g2
      · have hc : shCode es ss = 0 := shCode_zero.2 ⟨g1, g2, by rw [h2.len]; omega⟩
        rw [hc]
        clear hc g3
        go_enter Try.func73, Try.ntmps73
        go_wp2_with (first
          | (go_at_call 20; refine (impl_ValidGuards _ _ _ es _ hmax hnm h).mono ?_; rintro e w1 ⟨rfl, hb1⟩; rw [g1])
          | (go_at_call 88; refine (impl_all_Shift 89 #[] hourOk _ _ _ ss _ hmax2 hcall (fun x W _ _ => impl_shiftsCode_1 x W) (h2.on hb1)).mono ?_; rintro e w2 ⟨rfl, hb2⟩; rw [g2]))
        go_ret
        exact ⟨rfl, below_then hb1 hb2⟩
      · have hc : shCode es ss = 2 := by unfold shCode; rw [if_neg (by simp [g1]), if_pos (by rw [g2]; rfl)]
        rw [hc]
        clear hc g3
        go_enter Try.func73, Try.ntmps73
        go_wp2_with (first
          | (go_at_call 20; refine (impl_ValidGuards _ _ _ es _ hmax hnm h).mono ?_; rintro e w1 ⟨rfl, hb1⟩; rw [g1])
          | (go_at_call 88; refine (impl_all_Shift 89 #[] hourOk _ _ _ ss _ hmax2 hcall (fun x W _ _ => impl_shiftsCode_1 x W) (h2.on hb1)).mono ?_; rintro e w2 ⟨rfl, hb2⟩; rw [g2]))
        go_ret
        exact ⟨rfl, below_then hb1 hb2⟩
  · have hc : shCode es ss = 1 := by unfold shCode; rw [if_pos g1]
    rw [hc]
    go_enter Try.func73, Try.ntmps73
    go_wp2_with (go_at_call 20; refine (impl_ValidGuards _ _ _ es _ hmax hnm h).mono ?_; rintro e w1 ⟨rfl, hb1⟩; rw [g1])
    go_ret
    exact ⟨rfl, hb1⟩
theorem spec_l17Hour (n : Int) (w : World) : Calls Try.prog 76 #[.int .i64 n] w fun e w' => e = .returned (.bool (inR n 0 100000)) ∧ w = w' := by
  go_enter Try.func76, Try.ntmps76
  go_wp2_with (go_at_call 64; refine (spec_l00In _ _ _ _).mono ?_; rintro e w' ⟨rfl, rfl⟩)
  all_goals (go_ret; exact ⟨rfl, rfl⟩)
set_option maxHeartbeats 400000 in
theorem spec_l17Shifts (A : Option Addr) (n c : Nat) (es : List G3) (A2 : Option Addr) (m c2 : Nat) (ss : List Q3) (w : World) (hmax : n ≤ 1048576) (hmax2 : m ≤ 1048576) (hnm : ∀ e ∈ es, e.s.size ≤ 1048576) (h : Sl w w.heap.size 3 G3.cells A n es) (h2 : Sl w w.heap.size 3 Q3.cells A2 m ss) :
    Calls Try.prog 70 #[.slice A n c, .slice A2 m c2] w fun e w' => e = .returned (.int .i64 (shCode es ss)) ∧ Below w.heap.size w w' := by
  rcases Bool.eq_false_or_eq_true (guardsOk es) with g1 | g1
  · have Hm := Lib.hid h2.len
    have Hg1 := Lib.hid g1
    go_enter Try.func70, Try.ntmps70
    go_wp2_with (go_at_call 56; refine (spec_l17Ok _ _ _ es _ hmax hnm h).mono ?_; rintro e w1 ⟨rfl, hb1⟩; rw [g1])
    clear g1
    go_loopw [5] (fun i wr => ∃ k : Nat, k ≤ m ∧ i = .int .i64 k ∧ Hid (∀ j e, j < k → ss[j]? = some e → hourOk e = true) ∧ Below w.heap.size w wr) (fun i _ => m - (intOf i).toNat)
    case atStart => exact ⟨0, by omega, rfl, Lib.hid (fun j e hj => by omega), hb1⟩
    case round =>
      obtain ⟨k, hk, rfl, Hgood, hbel⟩ := hrel
      by_cases hlt : k < m
      · obtain ⟨b, off, rfl, hb, H⟩ := h2.at_ (by omega)
        obtain ⟨e, he⟩ := h2.get hlt
        obtain ⟨c0, c1, c2'⟩ := (H.below hbel hb).q3 he
        have He := Lib.hid he
        clear he
        rcases Bool.eq_false_or_eq_true (inR e.b 0 100000) with q1 | q1
        · rcases Bool.eq_false_or_eq_true (inR e.c 0 100000) with q2 | q2
          · go_wp2_with (go_at_call 76; refine (spec_l17Hour _ _).mono ?_; rintro e w' ⟨rfl, rfl⟩; (first | rw [q1] | rw [q2]))
            go_roundw
            case rel => exact ⟨k + 1, by omega, by go_num, Lib.hid (fun j x hj hx => if h1 : j < k then Hgood.out j x h1 hx else by
              have : j = k := by omega
              subst this; rw [He.out] at hx; injection hx with hx; subst hx; rw [hourOk, q1, q2]; rfl), hbel⟩
            case measure => simp [intOf]; omega
          · have Hc : Hid (shCode es ss = 2) := by show shCode es ss = 2; unfold shCode; rw [if_neg (by simp [Hg1.out]), if_pos (by rw [all_no He.out (by rw [hourOk, q1, q2]; rfl)]; rfl)]
            go_wp2_with (go_at_call 76; refine (spec_l17Hour _ _).mono ?_; rintro e w' ⟨rfl, rfl⟩; (first | rw [q1] | rw [q2]))
            go_ret
            exact ⟨ret_int Hc.out.symm, hbel⟩
        · have Hc : Hid (shCode es ss = 2) := by show shCode es ss = 2; unfold shCode; rw [if_neg (by simp [Hg1.out]), if_pos (by rw [all_no He.out (by rw [hourOk, q1]; rfl)]; rfl)]
          go_wp2_with (go_at_call 76; refine (spec_l17Hour _ _).mono ?_; rintro e w' ⟨rfl, rfl⟩; rw [q1])
          go_ret
          exact ⟨ret_int Hc.out.symm, hbel⟩
      · have hall : ss.all hourOk = true := by rw [all_iff_get]; exact fun j x hx => Hgood.out j x (by have := (List.getElem?_eq_some_iff.1 hx).1; have := Hm.out; omega) hx
        by_cases g3 : 40 < m
        · have Hc : Hid (shCode es ss = 2) := by show shCode es ss = 2; unfold shCode; rw [if_neg (by simp [Hg1.out]), if_pos (by rw [Bool.and_eq_false_iff]; right; rw [Hm.out]; simpa using g3)]
          have g3' : (40 : Int) < (m : Int) := by omega
          clear hall
          go_wp2
          go_ret
          exact ⟨ret_int Hc.out.symm, hbel⟩
        · have Hc : Hid (shCode es ss = 0) := shCode_zero.2 ⟨Hg1.out, hall, by rw [Hm.out]; omega⟩
          have g3' : (m : Int) ≤ 40 := by omega
          clear hall
          go_wp2
          go_ret
          exact ⟨ret_int Hc.out.symm, hbel⟩
  · have hc : shCode es ss = 1 := by unfold shCode; rw [if_pos g1]
    rw [hc]
    go_enter Try.func70, Try.ntmps70
    go_wp2_with (go_at_call 56; refine (spec_l17Ok _ _ _ es _ hmax hnm h).mono ?_; rintro e w1 ⟨rfl, hb1⟩; rw [g1])
    go_ret
    exact ⟨rfl, hb1⟩

end Go.Proofs.Ythjdodamfinhaaa

/- Walks over functions of this seat, by contract. Conditions: those that each theorem states. -/
import Derived.Test.YthjdodamfinhaaaGh
namespace Go.Proofs.Ythjdodamfinhaaa
open Go.RowKit Go.Sort

def uwOk (f t l : Int) : Bool := inR f 0 100000 && (inR t 0 100000 && (inR (t - f) 0 200 && inR l 1 30))
def uwCode (es : List G3) (ss : List Q3) (f t l : Int) : Int := if shCode es ss ≠ 0 then shCode es ss else if uwOk f t l = false then 2 else goodCode es ss
def uwN (n : Nat) (ss : List Q3) (f l : Int) : Nat → List Int
  | 0 => []
  | k + 1 => if ((watchers n ss (f + (k : Int))).length : Int) < l then uwN n ss f l k ++ [f + (k : Int)] else uwN n ss f l k
theorem uwN_len (n : Nat) (ss : List Q3) (f l : Int) (k : Nat) : (uwN n ss f l k).length ≤ k := by
  induction k with
  | zero => simp [uwN]
  | succ k ih =>
    unfold uwN; split
    · simp; omega
    · omega
def uwRes (es : List G3) (ss : List Q3) (f t l : Int) : List Int := if uwCode es ss f t l = 0 then uwN es.length ss f l (t - f).toNat else []
theorem uwRes_neg {es : List G3} {ss : List Q3} {f t l : Int} (h : uwCode es ss f t l ≠ 0) : uwRes es ss f t l = [] := if_neg h
theorem uwCode_bad {es : List G3} {ss : List Q3} {f t l : Int} (s0 : shCode es ss = 0) (h : uwOk f t l = false) : uwCode es ss f t l = 2 := by unfold uwCode; rw [if_neg (by simp [s0]), if_pos h]
theorem uwCode_ok {es : List G3} {ss : List Q3} {f t l : Int} (s0 : shCode es ss = 0) (h : uwOk f t l = true) : uwCode es ss f t l = goodCode es ss := by unfold uwCode; rw [if_neg (by simp [s0]), if_neg (by simp [h])]
theorem uwRes_len (es : List G3) (ss : List Q3) (f t l : Int) : (uwRes es ss f t l).length ≤ 200 := by
  unfold uwRes
  split
  · rename_i h
    have h1 : uwOk f t l = true := by
      cases hx : uwOk f t l with
      | true => rfl
      | false =>
        by_cases s0 : shCode es ss = 0
        · rw [uwCode_bad s0 hx] at h; omega
        · unfold uwCode at h; rw [if_pos s0] at h; exact absurd h s0
    simp only [uwOk, Bool.and_eq_true, inR_iff] at h1
    have := uwN_len es.length ss f l (t - f).toNat
    omega
  · simp
set_option maxHeartbeats 2000000 in
set_option maxRecDepth 100000 in
theorem impl_UnwatchedHours (A : Option Addr) (n c : Nat) (es : List G3) (A2 : Option Addr) (m c2 : Nat) (ss : List Q3) (f t l : Int) (w : World) (hmax : n ≤ 1048576) (hmax2 : m ≤ 1048576) (hc2 : m ≤ c2) (hnm : ∀ e ∈ es, e.s.size ≤ 1048576) (h : Sl w w.heap.size 3 G3.cells A n es) (h2 : Sl w w.heap.size 3 Q3.cells A2 m ss) :
    Calls Try.prog 53 #[.slice A n c, .slice A2 m c2, .int .i64 f, .int .i64 t, .int .i64 l] w fun e w' => ∃ v, e = .returned (.tuple #[v, .int .i64 (uwCode es ss f t l)]) ∧ Own w' w.heap.size 2 1 icell v (uwRes es ss f t l) ∧ Below w.heap.size w w' := by
  obtain ⟨i0, hi, hz0, hz1, hz2⟩ := info_parts info_i64
  by_cases s0 : shCode es ss = 0
  · obtain ⟨_, g3, _⟩ := shCode_zero.1 s0
    have Hok := Lib.hid g3
    clear g3
    obtain ⟨r0, hr0⟩ : ∃ r, inR f 0 100000 = r := ⟨_, rfl⟩
    cases r0 with
    | false =>
      have g1 := hr0
      clear hr0
      have hc := uwCode_bad (es := es) (ss := ss) (f := f) (t := t) (l := l) s0 (by rw [uwOk, g1]; rfl)
      rw [uwRes_neg (by rw [hc]; omega), hc]
      clear hc
      go_enter Try.func53, Try.ntmps53
      go_wp2_with (first
          | (go_at_call 73; refine (impl_shiftsCode _ _ _ es _ _ _ ss _ hmax hmax2 hnm h h2).mono ?_; rintro e w1 ⟨rfl, hb1⟩; rw [s0])
          | (go_at_call 78; refine (impl_ValidDay _ _).mono ?_; rintro e w' ⟨rfl, rfl⟩; (first | rw [g1])))
      go_ret2
      exact ⟨_, rfl, own_new_empty _ _ _ _ _ hb1.size, below_al hb1 _⟩
    | true =>
      have g1 := hr0
      clear hr0
      obtain ⟨r1, hr1⟩ : ∃ r, inR t 0 100000 = r := ⟨_, rfl⟩
      cases r1 with
      | false =>
        have g2 := hr1
        clear hr1
        have hc := uwCode_bad (es := es) (ss := ss) (f := f) (t := t) (l := l) s0 (by rw [uwOk, g1, g2]; rfl)
        rw [uwRes_neg (by rw [hc]; omega), hc]
        clear hc
        go_enter Try.func53, Try.ntmps53
        go_wp2_with (first
          | (go_at_call 73; refine (impl_shiftsCode _ _ _ es _ _ _ ss _ hmax hmax2 hnm h h2).mono ?_; rintro e w1 ⟨rfl, hb1⟩; rw [s0])
          | (go_at_call 78; refine (impl_ValidDay _ _).mono ?_; rintro e w' ⟨rfl, rfl⟩; (first | rw [g1] | rw [g2])))
        go_ret2
        exact ⟨_, rfl, own_new_empty _ _ _ _ _ hb1.size, below_al hb1 _⟩
      | true =>
        have g2 := hr1
        clear hr1
        obtain ⟨f0, f1⟩ := inR_iff.1 g1
        obtain ⟨t0, t1⟩ := inR_iff.1 g2
        have hws : IntKind.i64.wrap (t - f) = t - f := IntWalk.i64_in _ (by omega)
        obtain ⟨r2, hr2⟩ : ∃ r, inR (t - f) 0 200 = r := ⟨_, rfl⟩
        cases r2 with
        | false =>
          have g4 := hr2
          clear hr2
          have hc := uwCode_bad (es := es) (ss := ss) (f := f) (t := t) (l := l) s0 (by rw [uwOk, g1, g2, g4]; rfl)
          rw [uwRes_neg (by rw [hc]; omega), hc]
          clear hc
          go_enter Try.func53, Try.ntmps53
          go_wp2_with (first
          | (go_at_call 73; refine (impl_shiftsCode _ _ _ es _ _ _ ss _ hmax hmax2 hnm h h2).mono ?_; rintro e w1 ⟨rfl, hb1⟩; rw [s0])
          | (go_at_call 78; refine (impl_ValidDay _ _).mono ?_; rintro e w' ⟨rfl, rfl⟩; (first | rw [g1] | rw [g2]))
          | (go_at_call 65; refine (impl_in _ _ _ _).mono ?_; rintro e w' ⟨rfl, rfl⟩; (first | rw [g4])))
          go_ret2
          exact ⟨_, rfl, own_new_empty _ _ _ _ _ hb1.size, below_al hb1 _⟩
        | true =>
          have g4 := hr2
          clear hr2
          obtain ⟨r3, hr3⟩ : ∃ r, inR l 1 30 = r := ⟨_, rfl⟩
          cases r3 with
          | false =>
            have g5 := hr3
            clear hr3
            have hc := uwCode_bad (es := es) (ss := ss) (f := f) (t := t) (l := l) s0 (by rw [uwOk, g1, g2, g4, g5]; rfl)
            rw [uwRes_neg (by rw [hc]; omega), hc]
            clear hc
            go_enter Try.func53, Try.ntmps53
            go_wp2_with (first
          | (go_at_call 73; refine (impl_shiftsCode _ _ _ es _ _ _ ss _ hmax hmax2 hnm h h2).mono ?_; rintro e w1 ⟨rfl, hb1⟩; rw [s0])
          | (go_at_call 78; refine (impl_ValidDay _ _).mono ?_; rintro e w' ⟨rfl, rfl⟩; (first | rw [g1] | rw [g2]))
          | (go_at_call 65; refine (impl_in _ _ _ _).mono ?_; rintro e w' ⟨rfl, rfl⟩; (first | rw [g4] | rw [g5])))
            go_ret2
            exact ⟨_, rfl, own_new_empty _ _ _ _ _ hb1.size, below_al hb1 _⟩
          | true =>
            have g5 := hr3
            clear hr3
            obtain ⟨d0, d1⟩ := inR_iff.1 g4
            have hc := uwCode_ok (es := es) (ss := ss) (f := f) (t := t) (l := l) s0 (by rw [uwOk, g1, g2, g4, g5]; rfl)
            by_cases f9 : faultOf n ss 0 < 0
            · have k0 : goodCode es ss = 0 := goodCode_zero.2 ⟨s0, by rw [h.len]; exact f9⟩
              have f9' : decide (0 ≤ faultOf n ss 0) = false := by simpa using f9
              have hr : uwRes es ss f t l = uwN n ss f l (t - f).toNat := by rw [uwRes, if_pos (by rw [hc]; exact k0), h.len]
              have Hf := Lib.hid f9
              rw [hr, hc, k0]
              clear hc hr f9
              go_enter Try.func53, Try.ntmps53
              go_wp2_with (first
          | (go_at_call 73; refine (impl_shiftsCode _ _ _ es _ _ _ ss _ hmax hmax2 hnm h h2).mono ?_; rintro e w1 ⟨rfl, hb1⟩; rw [s0])
          | (go_at_call 78; refine (impl_ValidDay _ _).mono ?_; rintro e w' ⟨rfl, rfl⟩; (first | rw [g1] | rw [g2]))
          | (go_at_call 65; refine (impl_in _ _ _ _).mono ?_; rintro e w' ⟨rfl, rfl⟩; (first | rw [g4] | rw [g5]))
          | (go_at_call 74; refine (impl_shiftFault _ _ _ _ _ _ ss _ _ hmax hmax2 hc2 (by omega) (by omega) Hok.out (h2.on hb1)).mono ?_; rintro e w2 ⟨rfl, hb2⟩))
              have hb4 := below_then hb1 hb2
              clear g1 g2 g4 g5 s0 k0 hws f9'
              go_loopw [13, 14] (fun v p wr => ∃ (k : Nat) (x : Int), p = .int .i64 x ∧ x = f + (k : Int) ∧ x ≤ t ∧ Hid (Own wr w.heap.size 2 1 icell v (uwN n ss f l k)) ∧ Below w.heap.size w wr) (fun _ p _ => (t - intOf p).toNat)
              case atStart => exact ⟨0, f, rfl, by omega, by omega, Lib.hid (own_new_empty _ _ _ _ _ hb4.size), below_al hb4 _⟩
              case round =>
                obtain ⟨k, x, rfl, hx, hxt, Hown, hbel⟩ := hrel
                have Hx := Lib.hid hx
                have hx0 : 0 ≤ x := by omega
                have hkl : k ≤ 200 := by omega
                clear hx
                by_cases hlt : x < t
                · obtain ⟨L, hL⟩ : ∃ L, (watchers n ss x).length = L := ⟨_, rfl⟩
                  have hLn : L ≤ n := by rw [← hL]; exact idxs_len _ _
                  have HL : Hid ((watchers n ss (f + (k : Int))).length = L) := by show (watchers n ss (f + (k : Int))).length = L; rw [← Hx.out, ← hL]
                  by_cases hfew : (L : Int) < l
                  · have Hs : Hid (uwN n ss f l (k + 1) = uwN n ss f l k ++ [x]) := by show uwN n ss f l (k + 1) = _; rw [uwN, HL.out, if_pos hfew]; rw [Hx.out]
                    go_wp2_with (first
          | (at_builtin; refine wpList_push rfl _ _ 39 rfl w.heap.size 2 i0 (.int .i64 0) 1 8 Try.underlying39 hi hz0 hz1 hz2 rfl (by omega) icell_len (fun e u hu => by simp [icell] at hu; subst hu; rfl) _ _ x rfl Ho3.out _ rfl _ rfl (by first | rfl | simp) (by have := uwN_len n ss f l k; omega) (by omega) hbel3.size ?_; intro v4 w4 ho4 hg4; have hbel4 := own_grown hbel3 Ho3.out (Nat.le_refl _) hbel3.size hg4; have Ho4 := Lib.hid ho4; clear ho4)
          | (go_at_call 81; refine (impl_watchersAt _ _ _ _ _ _ ss _ _ hmax hmax2 Hok.out (h2.on hbel)).mono ?_; rintro ev w3 ⟨v3, rfl, ho3, hb3⟩; obtain ⟨A3, n3, c3, rfl, hl3, _⟩ := own_shape ho3; obtain rfl : n3 = L := hl3.symm.trans hL; clear ho3; have hbel3 := below_then hbel hb3; have Ho3 := Lib.hid (Own.below Hown.out hb3 (Nat.le_refl _)))
          | (go_at_call 82; refine (impl_size_int64 _ _ _ _ (by omega)).mono ?_; rintro ev w' ⟨rfl, rfl⟩))
                    go_roundw
                    case rel => exact ⟨k + 1, x + 1, rfl, by have := Hx.out; omega, by omega, Lib.hid (by rw [Hs.out]; exact Ho4.out), hbel4⟩
                    case measure => simp [intOf]; omega
                  · have Hs : Hid (uwN n ss f l (k + 1) = uwN n ss f l k) := by show uwN n ss f l (k + 1) = _; rw [uwN, HL.out, if_neg hfew]
                    go_wp2_with (first
          | (go_at_call 81; refine (impl_watchersAt _ _ _ _ _ _ ss _ _ hmax hmax2 Hok.out (h2.on hbel)).mono ?_; rintro ev w3 ⟨v3, rfl, ho3, hb3⟩; obtain ⟨A3, n3, c3, rfl, hl3, _⟩ := own_shape ho3; obtain rfl : n3 = L := hl3.symm.trans hL; clear ho3; have hbel3 := below_then hbel hb3; have Ho3 := Lib.hid (Own.below Hown.out hb3 (Nat.le_refl _)))
          | (go_at_call 82; refine (impl_size_int64 _ _ _ _ (by omega)).mono ?_; rintro ev w' ⟨rfl, rfl⟩))
                    go_roundw
                    case rel => exact ⟨k + 1, x + 1, rfl, by have := Hx.out; omega, by omega, Lib.hid (by rw [Hs.out]; exact Ho3.out), hbel3⟩
                    case measure => simp [intOf]; omega
                · have Hk : Hid ((t - f).toNat = k) := by show (t - f).toNat = k; have := Hx.out; omega
                  go_wp2
                  go_ret2
                  exact ⟨_, rfl, by rw [Hk.out]; exact Hown.out, hbel⟩
            · have k6 : goodCode es ss = 6 := by unfold goodCode; rw [if_neg (by simp [s0]), if_pos (by rw [h.len]; omega)]
              have f9' : decide (0 ≤ faultOf n ss 0) = true := by simpa using f9
              rw [uwRes_neg (by rw [hc, k6]; omega), hc, k6]
              clear hc f9
              go_enter Try.func53, Try.ntmps53
              go_wp2_with (first
          | (go_at_call 73; refine (impl_shiftsCode _ _ _ es _ _ _ ss _ hmax hmax2 hnm h h2).mono ?_; rintro e w1 ⟨rfl, hb1⟩; rw [s0])
          | (go_at_call 78; refine (impl_ValidDay _ _).mono ?_; rintro e w' ⟨rfl, rfl⟩; (first | rw [g1] | rw [g2]))
          | (go_at_call 65; refine (impl_in _ _ _ _).mono ?_; rintro e w' ⟨rfl, rfl⟩; (first | rw [g4] | rw [g5]))
          | (go_at_call 74; refine (impl_shiftFault _ _ _ _ _ _ ss _ _ hmax hmax2 hc2 (by omega) (by omega) Hok.out (h2.on hb1)).mono ?_; rintro e w2 ⟨rfl, hb2⟩))
              have hb4 := below_then hb1 hb2
              go_ret2
              exact ⟨_, rfl, own_new_empty _ _ _ _ _ hb4.size, below_al hb4 _⟩
  · have hc : uwCode es ss f t l = shCode es ss := by unfold uwCode; rw [if_pos s0]
    have hne : (shCode es ss != 0) = true := by simpa using s0
    rw [uwRes_neg (by rw [hc]; exact s0), hc]
    clear hc
    go_enter Try.func53, Try.ntmps53
    go_wp2_with (go_at_call 73; refine (impl_shiftsCode _ _ _ es _ _ _ ss _ hmax hmax2 hnm h h2).mono ?_; rintro e w1 ⟨rfl, hb1⟩)
    go_ret2
    exact ⟨_, rfl, own_new_empty _ _ _ _ _ hb1.size, below_al hb1 _⟩
set_option maxHeartbeats 2000000 in
set_option maxRecDepth 100000 in
theorem spec_UnwatchedHours (A : Option Addr) (n c : Nat) (es : List G3) (A2 : Option Addr) (m c2 : Nat) (ss : List Q3) (f t l : Int) (w : World) (hmax : n ≤ 1048576) (hmax2 : m ≤ 1048576) (hnm : ∀ e ∈ es, e.s.size ≤ 1048576) (h : Sl w w.heap.size 3 G3.cells A n es) (h2 : Sl w w.heap.size 3 Q3.cells A2 m ss) :
    Calls Try.prog 52 #[.slice A n c, .slice A2 m c2, .int .i64 f, .int .i64 t, .int .i64 l] w fun e w' => ∃ v, e = .returned (.tuple #[v, .int .i64 (uwCode es ss f t l)]) ∧ Own w' w.heap.size 2 1 icell v (uwRes es ss f t l) ∧ Below w.heap.size w w' := by
  obtain ⟨i0, hi, hz0, hz1, hz2⟩ := info_parts info_i64
  by_cases s0 : shCode es ss = 0
  · obtain ⟨_, g3, _⟩ := shCode_zero.1 s0
    have Hok := Lib.hid g3
    clear g3
    obtain ⟨r0, hr0⟩ : ∃ r, inR f 0 100000 = r := ⟨_, rfl⟩
    cases r0 with
    | false =>
      have g1 := hr0
      clear hr0
      have hc := uwCode_bad (es := es) (ss := ss) (f := f) (t := t) (l := l) s0 (by rw [uwOk, g1]; rfl)
      rw [uwRes_neg (by rw [hc]; omega), hc]
      clear hc
      go_enter Try.func52, Try.ntmps52
      go_wp2_with (first
          | (go_at_call 70; refine (spec_l17Shifts _ _ _ es _ _ _ ss _ hmax hmax2 hnm h h2).mono ?_; rintro e w1 ⟨rfl, hb1⟩; rw [s0])
          | (go_at_call 76; refine (spec_l17Hour _ _).mono ?_; rintro e w' ⟨rfl, rfl⟩; (first | rw [g1])))
      go_ret2
      exact ⟨_, rfl, own_nil _ _ _ _ _, hb1⟩
    | true =>
      have g1 := hr0
      clear hr0
      obtain ⟨r1, hr1⟩ : ∃ r, inR t 0 100000 = r := ⟨_, rfl⟩
      cases r1 with
      | false =>
        have g2 := hr1
        clear hr1
        have hc := uwCode_bad (es := es) (ss := ss) (f := f) (t := t) (l := l) s0 (by rw [uwOk, g1, g2]; rfl)
        rw [uwRes_neg (by rw [hc]; omega), hc]
        clear hc
        go_enter Try.func52, Try.ntmps52
        go_wp2_with (first
          | (go_at_call 70; refine (spec_l17Shifts _ _ _ es _ _ _ ss _ hmax hmax2 hnm h h2).mono ?_; rintro e w1 ⟨rfl, hb1⟩; rw [s0])
          | (go_at_call 76; refine (spec_l17Hour _ _).mono ?_; rintro e w' ⟨rfl, rfl⟩; (first | rw [g1] | rw [g2])))
        go_ret2
        exact ⟨_, rfl, own_nil _ _ _ _ _, hb1⟩
      | true =>
        have g2 := hr1
        clear hr1
        obtain ⟨f0, f1⟩ := inR_iff.1 g1
        obtain ⟨t0, t1⟩ := inR_iff.1 g2
        have hws : IntKind.i64.wrap (t - f) = t - f := IntWalk.i64_in _ (by omega)
        obtain ⟨r2, hr2⟩ : ∃ r, inR (t - f) 0 200 = r := ⟨_, rfl⟩
        cases r2 with
        | false =>
          have g4 := hr2
          clear hr2
          have hc := uwCode_bad (es := es) (ss := ss) (f := f) (t := t) (l := l) s0 (by rw [uwOk, g1, g2, g4]; rfl)
          rw [uwRes_neg (by rw [hc]; omega), hc]
          clear hc
          go_enter Try.func52, Try.ntmps52
          go_wp2_with (first
          | (go_at_call 70; refine (spec_l17Shifts _ _ _ es _ _ _ ss _ hmax hmax2 hnm h h2).mono ?_; rintro e w1 ⟨rfl, hb1⟩; rw [s0])
          | (go_at_call 76; refine (spec_l17Hour _ _).mono ?_; rintro e w' ⟨rfl, rfl⟩; (first | rw [g1] | rw [g2]))
          | (go_at_call 64; refine (spec_l00In _ _ _ _).mono ?_; rintro e w' ⟨rfl, rfl⟩; (first | rw [g4])))
          go_ret2
          exact ⟨_, rfl, own_nil _ _ _ _ _, hb1⟩
        | true =>
          have g4 := hr2
          clear hr2
          obtain ⟨r3, hr3⟩ : ∃ r, inR l 1 30 = r := ⟨_, rfl⟩
          cases r3 with
          | false =>
            have g5 := hr3
            clear hr3
            have hc := uwCode_bad (es := es) (ss := ss) (f := f) (t := t) (l := l) s0 (by rw [uwOk, g1, g2, g4, g5]; rfl)
            rw [uwRes_neg (by rw [hc]; omega), hc]
            clear hc
            go_enter Try.func52, Try.ntmps52
            go_wp2_with (first
          | (go_at_call 70; refine (spec_l17Shifts _ _ _ es _ _ _ ss _ hmax hmax2 hnm h h2).mono ?_; rintro e w1 ⟨rfl, hb1⟩; rw [s0])
          | (go_at_call 76; refine (spec_l17Hour _ _).mono ?_; rintro e w' ⟨rfl, rfl⟩; (first | rw [g1] | rw [g2]))
          | (go_at_call 64; refine (spec_l00In _ _ _ _).mono ?_; rintro e w' ⟨rfl, rfl⟩; (first | rw [g4] | rw [g5])))
            go_ret2
            exact ⟨_, rfl, own_nil _ _ _ _ _, hb1⟩
          | true =>
            have g5 := hr3
            clear hr3
            obtain ⟨d0, d1⟩ := inR_iff.1 g4
            have hc := uwCode_ok (es := es) (ss := ss) (f := f) (t := t) (l := l) s0 (by rw [uwOk, g1, g2, g4, g5]; rfl)
            by_cases k0 : goodCode es ss = 0
            · have f9 : faultOf n ss 0 < 0 := by have := (goodCode_zero.1 k0).2; rw [h.len] at this; exact this
              have hr : uwRes es ss f t l = uwN n ss f l (t - f).toNat := by rw [uwRes, if_pos (by rw [hc]; exact k0), h.len]
              have Hf := Lib.hid f9
              rw [hr, hc, k0]
              clear hc hr f9
              go_enter Try.func52, Try.ntmps52
              go_wp2_with (first
          | (go_at_call 70; refine (spec_l17Shifts _ _ _ es _ _ _ ss _ hmax hmax2 hnm h h2).mono ?_; rintro e w1 ⟨rfl, hb1⟩; rw [s0])
          | (go_at_call 76; refine (spec_l17Hour _ _).mono ?_; rintro e w' ⟨rfl, rfl⟩; (first | rw [g1] | rw [g2]))
          | (go_at_call 64; refine (spec_l00In _ _ _ _).mono ?_; rintro e w' ⟨rfl, rfl⟩; (first | rw [g4] | rw [g5]))
          | (go_at_call 79; refine (spec_l17Good _ _ _ es _ _ _ ss _ hmax hmax2 hnm (h.on hb1) (h2.on hb1)).mono ?_; rintro e w2 ⟨rfl, hb2⟩; rw [k0]))
              have hb4 := below_then hb1 hb2
              clear g1 g2 g4 g5 s0 k0 hws
              go_loopw [13, 14] (fun v p wr => ∃ (k : Nat) (x : Int), p = .int .i64 x ∧ x = f + (k : Int) ∧ x ≤ t ∧ Hid (Own wr w.heap.size 2 1 icell v (uwN n ss f l k)) ∧ Below w.heap.size w wr) (fun _ p _ => (t - intOf p).toNat)
              case atStart => exact ⟨0, f, rfl, by omega, by omega, Lib.hid (own_new_empty _ _ _ _ _ hb4.size), below_al hb4 _⟩
              case round =>
                obtain ⟨k, x, rfl, hx, hxt, Hown, hbel⟩ := hrel
                have Hx := Lib.hid hx
                have hx0 : 0 ≤ x := by omega
                have hkl : k ≤ 200 := by omega
                clear hx
                by_cases hlt : x < t
                · obtain ⟨L, hL⟩ : ∃ L, (duties x ss).length = L := ⟨_, rfl⟩
                  have hLn : L ≤ n := by rw [← hL, watch_eq Hf.out]; exact idxs_len _ _
                  have HL : Hid ((watchers n ss (f + (k : Int))).length = L) := by show (watchers n ss (f + (k : Int))).length = L; rw [← Hx.out, ← hL, watch_eq Hf.out]
                  by_cases hfew : (L : Int) < l
                  · have Hs : Hid (uwN n ss f l (k + 1) = uwN n ss f l k ++ [x]) := by show uwN n ss f l (k + 1) = _; rw [uwN, HL.out, if_pos hfew]; rw [Hx.out]
                    go_wp2_with (first
          | (at_builtin; refine wpList_push rfl _ _ 39 rfl w.heap.size 2 i0 (.int .i64 0) 1 8 Try.underlying39 hi hz0 hz1 hz2 rfl (by omega) icell_len (fun e u hu => by simp [icell] at hu; subst hu; rfl) _ _ x rfl Ho3.out _ rfl _ rfl (by first | rfl | simp) (by have := uwN_len n ss f l k; omega) (by omega) hbel3.size ?_; intro v4 w4 ho4 hg4; have hbel4 := own_grown hbel3 Ho3.out (Nat.le_refl _) hbel3.size hg4; have Ho4 := Lib.hid ho4; clear ho4)
          | (go_at_call 80; refine (spec_l17At _ _ _ ss _ _ hmax2 Hok.out (h2.on hbel)).mono ?_; rintro ev w3 ⟨v3, rfl, ho3, hb3⟩; obtain ⟨A3, n3, c3, rfl, hl3, _⟩ := own_shape ho3; obtain rfl : n3 = L := hl3.symm.trans hL; clear ho3; have hbel3 := below_then hbel hb3; have Ho3 := Lib.hid (Own.below Hown.out hb3 (Nat.le_refl _))))
                    go_roundw
                    case rel => exact ⟨k + 1, x + 1, rfl, by have := Hx.out; omega, by omega, Lib.hid (by rw [Hs.out]; exact Ho4.out), hbel4⟩
                    case measure => simp [intOf]; omega
                  · have Hs : Hid (uwN n ss f l (k + 1) = uwN n ss f l k) := by show uwN n ss f l (k + 1) = _; rw [uwN, HL.out, if_neg hfew]
                    go_wp2_with (first
          | (go_at_call 80; refine (spec_l17At _ _ _ ss _ _ hmax2 Hok.out (h2.on hbel)).mono ?_; rintro ev w3 ⟨v3, rfl, ho3, hb3⟩; obtain ⟨A3, n3, c3, rfl, hl3, _⟩ := own_shape ho3; obtain rfl : n3 = L := hl3.symm.trans hL; clear ho3; have hbel3 := below_then hbel hb3; have Ho3 := Lib.hid (Own.below Hown.out hb3 (Nat.le_refl _))))
                    go_roundw
                    case rel => exact ⟨k + 1, x + 1, rfl, by have := Hx.out; omega, by omega, Lib.hid (by rw [Hs.out]; exact Ho3.out), hbel3⟩
                    case measure => simp [intOf]; omega
                · have Hk : Hid ((t - f).toNat = k) := by show (t - f).toNat = k; have := Hx.out; omega
                  go_wp2
                  go_ret2
                  exact ⟨_, rfl, by rw [Hk.out]; exact Hown.out, hbel⟩
            · have hne : (goodCode es ss != 0) = true := by simpa using k0
              rw [uwRes_neg (by rw [hc]; exact k0), hc]
              clear hc
              go_enter Try.func52, Try.ntmps52
              go_wp2_with (first
          | (go_at_call 70; refine (spec_l17Shifts _ _ _ es _ _ _ ss _ hmax hmax2 hnm h h2).mono ?_; rintro e w1 ⟨rfl, hb1⟩; rw [s0])
          | (go_at_call 76; refine (spec_l17Hour _ _).mono ?_; rintro e w' ⟨rfl, rfl⟩; (first | rw [g1] | rw [g2]))
          | (go_at_call 64; refine (spec_l00In _ _ _ _).mono ?_; rintro e w' ⟨rfl, rfl⟩; (first | rw [g4] | rw [g5]))
          | (go_at_call 79; refine (spec_l17Good _ _ _ es _ _ _ ss _ hmax hmax2 hnm (h.on hb1) (h2.on hb1)).mono ?_; rintro e w2 ⟨rfl, hb2⟩))
              have hb4 := below_then hb1 hb2
              go_ret2
              exact ⟨_, rfl, own_nil _ _ _ _ _, hb4⟩
  · have hc : uwCode es ss f t l = shCode es ss := by unfold uwCode; rw [if_pos s0]
    have hne : (shCode es ss == 0) = false := by simpa using s0
    rw [uwRes_neg (by rw [hc]; exact s0), hc]
    clear hc
    go_enter Try.func52, Try.ntmps52
    go_wp2_with (go_at_call 70; refine (spec_l17Shifts _ _ _ es _ _ _ ss _ hmax hmax2 hnm h h2).mono ?_; rintro e w1 ⟨rfl, hb1⟩)
    go_ret2
    exact ⟨_, rfl, own_nil _ _ _ _ _, hb1⟩

end Go.Proofs.Ythjdodamfinhaaa

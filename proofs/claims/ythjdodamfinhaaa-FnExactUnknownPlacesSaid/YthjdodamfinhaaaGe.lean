/- Walks over functions of this seat, by contract. Conditions: those that each theorem states. -/
import Derived.Test.YthjdodamfinhaaaGd
namespace Go.Proofs.Ythjdodamfinhaaa
open Go.RowKit Go.Sort

theorem badAt_yes1 {n : Nat} {ss : List Q3} {rest : Int} {i : Nat} {s : Q3} (h : ss[i]? = some s) (hb : badOf n s = true) : badAt n ss rest i = true := by rw [badAt_at h, hb]; rfl
theorem badAt_yes2 {n : Nat} {ss : List Q3} {rest : Int} {i k : Nat} {s x : Q3} (h : ss[i]? = some s) (hk : k < i) (hx : ss[k]? = some x) (hc : clash rest x s = true) : badAt n ss rest i = true := by
  rw [badAt_at h, any_yes hk (by rw [clashP_at hx]; exact hc), Bool.or_true]
theorem badAt_no {n : Nat} {ss : List Q3} {rest : Int} {i : Nat} {s : Q3} (h : ss[i]? = some s) (hb : badOf n s = false) (hc : ∀ k, k < i → clashP ss rest s k = false) : badAt n ss rest i = false := by
  rw [badAt_at h, hb, any_no hc]; rfl
theorem calls_bool_to {P : Program} {f : FuncId} {args : Array Value} {W : World} {a r : Bool} {n : Nat} (ha : a = r) (h : Calls P f args W fun e w' => e = .returned (.bool a) ∧ Below n W w') : Calls P f args W fun e w' => e = .returned (.bool r) ∧ Below n W w' := by
  subst ha; exact h
set_option maxHeartbeats 1000000 in
set_option maxRecDepth 100000 in
theorem spec_l17Wrong (A : Option Addr) (n c : Nat) (A2 : Option Addr) (m c2 : Nat) (ss : List Q3) (i : Nat) (rest : Int) (w : World) (hn : n ≤ 1048576) (hm : m ≤ 1048576) (hi : i < m) (hr0 : 0 ≤ rest) (hr1 : rest ≤ 100) (hok : ss.all hourOk = true) (h : Sl w w.heap.size 3 Q3.cells A2 m ss) :
    Calls Try.prog 71 #[.slice A n c, .slice A2 m c2, .int .i64 i, .int .i64 rest] w fun e w' => e = .returned (.bool (badAt n ss rest i)) ∧ Below w.heap.size w w' := by
  have Hok := Lib.hid hok
  clear hok
  obtain ⟨b, off, rfl, hb, H⟩ := h.at_ (by omega)
  obtain ⟨s, hs⟩ := h.get hi
  obtain ⟨c0, c1, c2'⟩ := H.q3c hb hs
  have Hs := Lib.hid hs
  have hwr : IntKind.i64.wrap ((n : Int) - 1) = (n : Int) - 1 := IntWalk.i64_in _ (by omega)
  have hi0 : (0 : Int) ≤ (i : Int) := by omega
  have him : (i : Int) < (m : Int) := by omega
  obtain ⟨⟨b0, b1⟩, b2, b3⟩ := hour_all Hok.out hs
  clear hs
  go_enter Try.func71, Try.ntmps71
  obtain ⟨r, hr⟩ : ∃ r, inR s.a 0 ((n : Int) - 1) = r := ⟨_, rfl⟩
  have Hr := Lib.hid hr
  clear hr
  cases r with
  | false =>
    have hbad := badAt_yes1 (n := n) (rest := rest) Hs.out (by rw [badOf, Hr.out]; rfl)
    have Hbad := Lib.hid hbad
    clear hbad
    go_wp2_with fail
    refine wp_region_quiet_below (by kernel_rfl) (by kernel_rfl) ?_
    repeat (go_big_quiet_step (exact Calls.regrown_of (calls_below (l00In_r _ _ _ _ Hr.out _))))
    refine wpQuiet_nil ?_
    intro wq hwq
    have hbq := below_of_class hwq
    clear hwq c0 c1 c2' hwr
    go_wp2_with fail
    go_ret
    exact ⟨ret_bool Hbad.out.symm, hbq⟩
  | true =>
    go_wp2_with fail
    refine wp_region_quiet_below (by kernel_rfl) (by kernel_rfl) ?_
    repeat (go_big_quiet_step (exact Calls.regrown_of (calls_below (l00In_r _ _ _ _ Hr.out _))))
    refine wpQuiet_nil ?_
    intro wq hwq
    have hbq := below_of_class hwq
    clear hwq c0 c1 c2' hwr
    by_cases hle : s.c ≤ s.b
    · have hbad := badAt_yes1 (n := n) (rest := rest) Hs.out (by rw [badOf, Hr.out]; simpa using hle)
      have Hbad := Lib.hid hbad
      clear hbad
      go_wp2_with fail
      go_ret
      exact ⟨ret_bool Hbad.out.symm, hbq⟩
    · have Hbo : Hid (badOf n s = false) := by show badOf n s = false; rw [badOf, Hr.out]; simpa using hle
      go_wp2_with fail
      go_loopw [10] (fun q wr => ∃ k : Nat, k ≤ i ∧ q = .int .i64 k ∧ Hid (∀ j, j < k → clashP ss rest s j = false) ∧ Below w.heap.size w wr) (fun q _ => i - (intOf q).toNat)
      case atStart => exact ⟨0, by omega, rfl, Lib.hid (fun j hj => by omega), hbq⟩
      case round =>
        obtain ⟨k, hk, rfl, Hg, hbel⟩ := hrel
        by_cases hlt : k < i
        · obtain ⟨y, hy⟩ := h.get (k := k) (by omega)
          obtain ⟨c0, c1, c2'⟩ := (H.below hbel hb).q3c (Nat.lt_of_lt_of_le hb hbel.size) Hs.out
          obtain ⟨d0, d1, d2'⟩ := (H.below hbel hb).q3c (Nat.lt_of_lt_of_le hb hbel.size) hy
          obtain ⟨⟨y0, y1⟩, y2, y3⟩ := hour_all Hok.out hy
          have Hy := Lib.hid hy
          have hw1 : IntKind.i64.wrap (y.c + rest) = y.c + rest := IntWalk.i64_in _ (by omega)
          have hw2 : IntKind.i64.wrap (s.c + rest) = s.c + rest := IntWalk.i64_in _ (by omega)
          have hk0 : (0 : Int) ≤ (k : Int) := by omega
          have hkm : (k : Int) < (m : Int) := by omega
          have Hst : Hid (clash rest y s = false → ∀ j, j < k + 1 → clashP ss rest s j = false) := fun hc j hj => by
            rcases Nat.lt_or_ge j k with h1 | h1
            · exact Hg.out j h1
            · have : j = k := by omega
              subst this; rw [clashP_at Hy.out]; exact hc
          clear hy
          rcases Bool.eq_false_or_eq_true (y.a == s.a) with q1 | q1
          · rcases Bool.eq_false_or_eq_true (decide (s.b < y.c + rest)) with q2 | q2
            · go_wp2_with fail
              refine wp_region_quiet_below (by kernel_rfl) (by kernel_rfl) ?_
              repeat (go_big_quiet_step (fail))
              refine wpQuiet_nil ?_
              intro wq2 hwq2
              have hbq2 := below_then hbel (below_of_class hwq2)
              clear hwq2 c0 c1 c2' d0 d1 d2'
              by_cases hlt2 : y.b < s.c + rest
              · have hbad := badAt_yes2 (n := n) Hs.out hlt Hy.out (by rw [clash, q1, q2]; simpa using hlt2)
                have Hbad := Lib.hid hbad
                clear hbad hw1 hw2 q1 q2
                go_wp2_with fail
                go_ret
                exact ⟨ret_bool Hbad.out.symm, hbq2⟩
              · have Hcl : Hid (clash rest y s = false) := by show clash rest y s = false; rw [clash, q1, q2]; simpa using hlt2
                clear hw1 hw2 q1 q2
                go_wp2_with fail
                go_roundw
                case rel => exact ⟨k + 1, by omega, by go_num, Lib.hid (Hst.out Hcl.out), hbq2⟩
                case measure => simp [intOf]; omega
            · have Hcl : Hid (clash rest y s = false) := by show clash rest y s = false; rw [clash, q2]; simp
              go_wp2_with fail
              refine wp_region_quiet_below (by kernel_rfl) (by kernel_rfl) ?_
              repeat (go_big_quiet_step (fail))
              refine wpQuiet_nil ?_
              intro wq2 hwq2
              have hbq2 := below_then hbel (below_of_class hwq2)
              clear hwq2 c0 c1 c2' d0 d1 d2' hw1 hw2 q1 q2
              go_wp2_with fail
              go_roundw
              case rel => exact ⟨k + 1, by omega, by go_num, Lib.hid (Hst.out Hcl.out), hbq2⟩
              case measure => simp [intOf]; omega
          · have Hcl : Hid (clash rest y s = false) := by show clash rest y s = false; rw [clash, q1]; rfl
            go_wp2_with fail
            refine wp_region_quiet_below (by kernel_rfl) (by kernel_rfl) ?_
            repeat (go_big_quiet_step (fail))
            refine wpQuiet_nil ?_
            intro wq2 hwq2
            have hbq2 := below_then hbel (below_of_class hwq2)
            clear hwq2 c0 c1 c2' d0 d1 d2' hw1 hw2 q1
            go_wp2_with fail
            go_roundw
            case rel => exact ⟨k + 1, by omega, by go_num, Lib.hid (Hst.out Hcl.out), hbq2⟩
            case measure => simp [intOf]; omega
        · have hki : k = i := by omega
          subst hki
          have hbad := badAt_no (n := n) Hs.out Hbo.out Hg.out
          have Hbad := Lib.hid hbad
          clear hbad
          go_wp2_with fail
          go_ret
          exact ⟨ret_bool Hbad.out.symm, hbel⟩
set_option maxHeartbeats 1000000 in
set_option maxRecDepth 100000 in
theorem spec_ShiftFault (A : Option Addr) (n c : Nat) (es : List G3) (A2 : Option Addr) (m c2 : Nat) (ss : List Q3) (rest : Int) (w : World) (hmax : n ≤ 1048576) (hmax2 : m ≤ 1048576) (hnm : ∀ e ∈ es, e.s.size ≤ 1048576) (h : Sl w w.heap.size 3 G3.cells A n es) (h2 : Sl w w.heap.size 3 Q3.cells A2 m ss) :
    Calls Try.prog 35 #[.slice A n c, .slice A2 m c2, .int .i64 rest] w fun e w' => e = .returned (.tuple #[.int .i64 (sfRes es ss rest), .int .i64 (sfCode es ss rest)]) ∧ Below w.heap.size w w' := by
  by_cases k0 : shCode es ss = 0
  · rcases Bool.eq_false_or_eq_true (inR rest 0 100) with g2 | g2
    · obtain ⟨_, g3, _⟩ := shCode_zero.1 k0
      have Hok := Lib.hid g3
      have Hm := Lib.hid h2.len
      have Hn := Lib.hid h.len
      obtain ⟨r0, r1⟩ := inR_iff.1 g2
      have hc : sfCode es ss rest = 0 := by unfold sfCode; rw [if_neg (by simp [k0]), if_neg (by simp [g2])]
      have Hres : Hid (sfRes es ss rest = faultOf n ss rest) := by show sfRes es ss rest = _; rw [sfRes, if_pos hc, Hn.out]
      rw [hc]
      clear hc g3
      go_enter Try.func35, Try.ntmps35
      go_wp2_with (first
        | (go_at_call 70; refine (spec_l17Shifts _ _ _ es _ _ _ ss _ hmax hmax2 hnm h h2).mono ?_; rintro e w1 ⟨rfl, hb1⟩; rw [k0])
        | (go_at_call 64; refine (spec_l00In _ _ _ _).mono ?_; rintro e w' ⟨rfl, rfl⟩; rw [g2]))
      clear k0 g2
      go_loopw [9] (fun i wr => ∃ k : Nat, k ≤ m ∧ i = .int .i64 k ∧ Hid (∀ j, j < k → badAt n ss rest j = false) ∧ Below w.heap.size w wr) (fun i _ => m - (intOf i).toNat)
      case atStart => exact ⟨0, by omega, rfl, Lib.hid (fun j hj => by omega), hb1⟩
      case round =>
        obtain ⟨k, hk, rfl, Hg, hbel⟩ := hrel
        by_cases hlt : k < m
        · rcases Bool.eq_false_or_eq_true (badAt n ss rest k) with q | q
          · have hf : faultOf n ss rest = (k : Int) := fstI_at (by rw [Hm.out]; exact hlt) q Hg.out
            have Hf := Lib.hid hf
            clear hf
            go_wp2_with (go_at_call 71; refine (spec_l17Wrong _ _ _ _ _ _ ss k rest _ hmax hmax2 hlt r0 r1 Hok.out (h2.on hbel)).mono ?_; rintro e w2 ⟨rfl, hb2⟩; rw [q])
            go_ret2
            exact ⟨by rw [Hres.out, Hf.out]; rfl, below_then hbel hb2⟩
          · have Hq := Lib.hid q
            go_wp2_with (go_at_call 71; refine (spec_l17Wrong _ _ _ _ _ _ ss k rest _ hmax hmax2 hlt r0 r1 Hok.out (h2.on hbel)).mono ?_; rintro e w2 ⟨rfl, hb2⟩; rw [q])
            go_roundw
            case rel => exact ⟨k + 1, by omega, by go_num, Lib.hid (fun j hj => by
              rcases Nat.lt_or_ge j k with h1 | h1
              · exact Hg.out j h1
              · have : j = k := by omega
                subst this; exact Hq.out), below_then hbel hb2⟩
            case measure => simp [intOf]; omega
        · have hf : faultOf n ss rest = -1 := fstI_none (fun j hj => Hg.out j (by rw [Hm.out] at hj; omega))
          have Hf := Lib.hid hf
          clear hf
          go_wp2
          go_ret2
          exact ⟨by rw [Hres.out, Hf.out]; rfl, hbel⟩
    · have hc : sfCode es ss rest = 2 := by unfold sfCode; rw [if_neg (by simp [k0]), if_pos g2]
      rw [sfRes_neg (by rw [hc]; omega), hc]
      clear hc
      go_enter Try.func35, Try.ntmps35
      go_wp2_with (first
        | (go_at_call 70; refine (spec_l17Shifts _ _ _ es _ _ _ ss _ hmax hmax2 hnm h h2).mono ?_; rintro e w1 ⟨rfl, hb1⟩; rw [k0])
        | (go_at_call 64; refine (spec_l00In _ _ _ _).mono ?_; rintro e w' ⟨rfl, rfl⟩; rw [g2]))
      go_ret2
      exact ⟨rfl, hb1⟩
  · have hc : sfCode es ss rest = shCode es ss := by unfold sfCode; rw [if_pos k0]
    have hne : (shCode es ss == 0) = false := by simpa using k0
    rw [sfRes_neg (by rw [hc]; exact k0), hc]
    clear hc
    go_enter Try.func35, Try.ntmps35
    go_wp2_with (go_at_call 70; refine (spec_l17Shifts _ _ _ es _ _ _ ss _ hmax hmax2 hnm h h2).mono ?_; rintro e w1 ⟨rfl, hb1⟩)
    go_ret2
    exact ⟨rfl, hb1⟩
theorem impl_size_r (A : Option Addr) (n c : Nat) (w : World) (hn : n ≤ 9223372036854775807) : Calls Try.prog 86 #[.slice A n c] w fun e w' => e = .returned (.int .i64 n) ∧ Below w.heap.size w w' := calls_below (impl_size_impl.Guard A n c w hn)
theorem impl_in_r (n lo hi : Int) (r : Bool) (hr : inR n lo hi = r) (w : World) : Calls Try.prog 65 #[.int .i64 n, .int .i64 lo, .int .i64 hi] w fun e w' => e = .returned (.bool r) ∧ w = w' := by
  subst hr; exact impl_in _ _ _ _
set_option maxHeartbeats 1000000 in
set_option maxRecDepth 100000 in
theorem impl_shiftFault (A : Option Addr) (n c : Nat) (A2 : Option Addr) (m c2 : Nat) (ss : List Q3) (rest : Int) (w : World) (hn : n ≤ 1048576) (hm : m ≤ 1048576) (hc2 : m ≤ c2) (hr0 : 0 ≤ rest) (hr1 : rest ≤ 100) (hok : ss.all hourOk = true) (h : Sl w w.heap.size 3 Q3.cells A2 m ss) :
    Calls Try.prog 74 #[.slice A n c, .slice A2 m c2, .int .i64 rest] w fun e w' => e = .returned (.int .i64 (faultOf n ss rest)) ∧ Below w.heap.size w w' := by
  have Hok := Lib.hid hok
  have Hm := Lib.hid h.len
  clear hok
  have hwr : IntKind.i64.wrap ((n : Int) - 1) = (n : Int) - 1 := IntWalk.i64_in _ (by omega)
  have Hwr := Lib.hid hwr
  clear hwr
  go_enter Try.func74, Try.ntmps74
  go_wp2
  go_loopw [13] (fun q wr => ∃ i : Nat, i ≤ m ∧ q = .int .i64 i ∧ Hid (∀ j, j < i → badAt n ss rest j = false) ∧ Below w.heap.size w wr) (fun q _ => m - (intOf q).toNat)
  case atStart => exact ⟨0, by omega, rfl, Lib.hid (fun j hj => by omega), Below.refl _ _⟩
  case round =>
    obtain ⟨i, hi, rfl, Hg, hbel⟩ := hrel
    by_cases hlt : i < m
    · obtain ⟨b, off, rfl, hb, H⟩ := h.at_ (by omega)
      obtain ⟨s, hs⟩ := h.get hlt
      obtain ⟨c0, c1, c2'⟩ := (H.below hbel hb).q3 hs
      obtain ⟨⟨b0, b1⟩, b2, b3⟩ := hour_all Hok.out hs
      have Hs := Lib.hid hs
      clear hs
      have bx := box3c wr (.int .i64 s.a) (.int .i64 s.b) (.int .i64 s.c) 82
      have x0 := fun d os => (bx d os).1
      have x1 := fun d os => (bx d os).2.1
      have x2 := fun d os => (bx d os).2.2
      clear bx
      have hwr := Hwr.out
      obtain ⟨r, hr⟩ : ∃ r, inR s.a 0 ((n : Int) - 1) = r := ⟨_, rfl⟩
      have Hr := Lib.hid hr
      clear hr
      have hfst : badAt n ss rest i = true → faultOf n ss rest = (i : Int) := fun hq => fstI_at (by rw [Hm.out]; exact hlt) hq Hg.out
      have Hfst := Lib.hid hfst
      clear hfst
      cases r with
      | false =>
        have hf := Hfst.out (badAt_yes1 (n := n) (rest := rest) Hs.out (by rw [badOf, Hr.out]; rfl))
        have Hf := Lib.hid hf
        clear hf
        go_wp2_with fail
        refine wp_region_quiet_below (by kernel_rfl) (by kernel_rfl) ?_
        repeat (go_big_quiet_step (first | exact Calls.regrown_of (impl_size_r _ _ _ _ (by omega)) | exact Calls.regrown_of (calls_below (impl_in_r _ _ _ _ Hr.out _))))
        refine wpQuiet_nil ?_
        intro wq hwq
        have hbq := below_then (below_al hbel _) (below_of_class hwq)
        clear hwq c0 c1 c2' hwr x0 x1 x2
        go_wp2_with fail
        go_ret
        exact ⟨ret_int Hf.out.symm, hbq⟩
      | true =>
        go_wp2_with fail
        refine wp_region_quiet_below (by kernel_rfl) (by kernel_rfl) ?_
        repeat (go_big_quiet_step (first | exact Calls.regrown_of (impl_size_r _ _ _ _ (by omega)) | exact Calls.regrown_of (calls_below (impl_in_r _ _ _ _ Hr.out _))))
        refine wpQuiet_nil ?_
        intro wq hwq
        have hbx := below_of_class hwq
        have Hbx := Lib.hid hbx
        have hbq := below_then (below_al hbel _) hbx
        clear hwq c0 c1 c2' hwr x0 x1 x2 hbx
        by_cases hle : s.c ≤ s.b
        · have hf := Hfst.out (badAt_yes1 (n := n) (rest := rest) Hs.out (by rw [badOf, Hr.out]; simpa using hle))
          have Hf := Lib.hid hf
          clear hf
          go_wp2_with fail
          go_ret
          exact ⟨ret_int Hf.out.symm, hbq⟩
        · have Hbo : Hid (badOf n s = false) := by show badOf n s = false; rw [badOf, Hr.out]; simpa using hle
          have hic : i ≤ c2 := by omega
          go_wp2_with fail
          obtain ⟨wo, hwo⟩ : ∃ wo : World, wo = wq := ⟨_, rfl⟩
          subst hwo
          obtain ⟨wp, hwp⟩ : ∃ wp : World, wp = wr := ⟨_, rfl⟩
          subst hwp
          go_loopw [37] (fun q wz => ∃ k : Nat, k ≤ i ∧ q = .int .i64 k ∧ Hid (∀ j, j < k → clashP ss rest s j = false) ∧ Below wo.heap.size wo wz) (fun q _ => i - (intOf q).toNat)
          case atStart => exact ⟨0, by omega, rfl, Lib.hid (fun j hj => by omega), Below.refl _ _⟩
          case round =>
            obtain ⟨k, hk, rfl, Hk, hbz⟩ := hrel
            have hbw := below_then hbq hbz
            by_cases hlk : k < i
            · obtain ⟨y, hy⟩ := h.get (k := k) (by omega)
              obtain ⟨d0, d1, d2'⟩ := (H.below hbw hb).q3 hy
              have hbxz := below_then Hbx.out hbz
              obtain ⟨x0, x1, x2⟩ := box3k hbxz
              have hsz : wp.heap.size < wr.heap.size := by have := hbxz.size; simp at this; omega
              obtain ⟨⟨y0, y1⟩, y2, y3⟩ := hour_all Hok.out hy
              have Hy := Lib.hid hy
              have hw1 : IntKind.i64.wrap (y.c + rest) = y.c + rest := IntWalk.i64_in _ (by omega)
              have hw2 : IntKind.i64.wrap (s.c + rest) = s.c + rest := IntWalk.i64_in _ (by omega)
              have Hst : Hid (clash rest y s = false → ∀ j, j < k + 1 → clashP ss rest s j = false) := fun hc j hj => by
                rcases Nat.lt_or_ge j k with h1 | h1
                · exact Hk.out j h1
                · have : j = k := by omega
                  subst this; rw [clashP_at Hy.out]; exact hc
              have Hyes : Hid (clash rest y s = true → faultOf n ss rest = (i : Int)) := fun hc => Hfst.out (badAt_yes2 (n := n) Hs.out hlk Hy.out hc)
              clear hy hbxz
              obtain ⟨p1, hp1⟩ : ∃ p, (y.a == s.a) = p := ⟨_, rfl⟩
              have Hp1 := Lib.hid hp1
              cases p1 with
              | false =>
                have Hcl : Hid (clash rest y s = false) := by show clash rest y s = false; rw [clash, Hp1.out]; rfl
                go_wp2_with fail
                go_roundw
                case rel => exact ⟨k + 1, by omega, by go_num, Lib.hid (Hst.out Hcl.out), below_al hbz _⟩
                case measure => simp [intOf]; omega
              | true =>
                by_cases q2 : y.b < s.c + rest
                · by_cases q3 : s.b < y.c + rest
                  · have Hcl := Lib.hid (Hyes.out (by rw [clash, Hp1.out]; simp [q2, q3]))
                    go_wp2_with fail
                    go_ret
                    exact ⟨ret_int Hcl.out.symm, below_al hbw _⟩
                  · have Hcl : Hid (clash rest y s = false) := by show clash rest y s = false; rw [clash, Hp1.out]; simp [q3]
                    go_wp2_with fail
                    go_roundw
                    case rel => exact ⟨k + 1, by omega, by go_num, Lib.hid (Hst.out Hcl.out), below_al hbz _⟩
                    case measure => simp [intOf]; omega
                · have Hcl : Hid (clash rest y s = false) := by show clash rest y s = false; rw [clash, Hp1.out]; simp [q2]
                  go_wp2_with fail
                  go_roundw
                  case rel => exact ⟨k + 1, by omega, by go_num, Lib.hid (Hst.out Hcl.out), below_al hbz _⟩
                  case measure => simp [intOf]; omega
            · have hki : k = i := by omega
              subst hki
              have hno := badAt_no (n := n) Hs.out Hbo.out Hk.out
              have Hno := Lib.hid hno
              clear hno
              go_wp2_with fail
              go_roundw
              case rel => exact ⟨k + 1, by omega, by go_num, Lib.hid (fun j hj => by
                rcases Nat.lt_or_ge j k with h1 | h1
                · exact Hg.out j h1
                · have : j = k := by omega
                  subst this; exact Hno.out), hbw⟩
              case measure => simp [intOf]; omega
    · have hf : faultOf n ss rest = -1 := fstI_none (fun j hj => Hg.out j (by rw [Hm.out] at hj; omega))
      have Hf := Lib.hid hf
      clear hf
      go_wp2_with fail
      go_ret
      exact ⟨ret_int Hf.out.symm, hbel⟩
set_option maxHeartbeats 1000000 in
set_option maxRecDepth 100000 in
theorem impl_ShiftFault (A : Option Addr) (n c : Nat) (es : List G3) (A2 : Option Addr) (m c2 : Nat) (ss : List Q3) (rest : Int) (w : World) (hmax : n ≤ 1048576) (hmax2 : m ≤ 1048576) (hc2 : m ≤ c2) (hnm : ∀ e ∈ es, e.s.size ≤ 1048576) (h : Sl w w.heap.size 3 G3.cells A n es) (h2 : Sl w w.heap.size 3 Q3.cells A2 m ss) :
    Calls Try.prog 37 #[.slice A n c, .slice A2 m c2, .int .i64 rest] w fun e w' => e = .returned (.tuple #[.int .i64 (sfRes es ss rest), .int .i64 (sfCode es ss rest)]) ∧ Below w.heap.size w w' := by
  by_cases k0 : shCode es ss = 0
  · rcases Bool.eq_false_or_eq_true (inR rest 0 100) with g2 | g2
    · obtain ⟨_, g3, _⟩ := shCode_zero.1 k0
      have Hok := Lib.hid g3
      obtain ⟨r0, r1⟩ := inR_iff.1 g2
      have hc : sfCode es ss rest = 0 := by unfold sfCode; rw [if_neg (by simp [k0]), if_neg (by simp [g2])]
      have hres : sfRes es ss rest = faultOf n ss rest := by rw [sfRes, if_pos hc, h.len]
      rw [hc, hres]
      clear hc g3 hres
      go_enter Try.func37, Try.ntmps37
      go_wp2_with (first
        | (go_at_call 73; refine (impl_shiftsCode _ _ _ es _ _ _ ss _ hmax hmax2 hnm h h2).mono ?_; rintro e w1 ⟨rfl, hb1⟩; rw [k0])
        | (go_at_call 65; refine (impl_in _ _ _ _).mono ?_; rintro e w' ⟨rfl, rfl⟩; rw [g2])
        | (go_at_call 74; refine (impl_shiftFault _ _ _ _ _ _ ss _ _ hmax hmax2 hc2 r0 r1 Hok.out (h2.on hb1)).mono ?_; rintro e w2 ⟨rfl, hb2⟩))
      go_ret2
      exact ⟨rfl, below_then hb1 hb2⟩
    · have hc : sfCode es ss rest = 2 := by unfold sfCode; rw [if_neg (by simp [k0]), if_pos g2]
      rw [sfRes_neg (by rw [hc]; omega), hc]
      clear hc
      go_enter Try.func37, Try.ntmps37
      go_wp2_with (first
        | (go_at_call 73; refine (impl_shiftsCode _ _ _ es _ _ _ ss _ hmax hmax2 hnm h h2).mono ?_; rintro e w1 ⟨rfl, hb1⟩; rw [k0])
        | (go_at_call 65; refine (impl_in _ _ _ _).mono ?_; rintro e w' ⟨rfl, rfl⟩; rw [g2]))
      go_ret2
      exact ⟨rfl, hb1⟩
  · have hc : sfCode es ss rest = shCode es ss := by unfold sfCode; rw [if_pos k0]
    have hne : (shCode es ss != 0) = true := by simpa using k0
    rw [sfRes_neg (by rw [hc]; exact k0), hc]
    clear hc
    go_enter Try.func37, Try.ntmps37
    go_wp2_with (go_at_call 73; refine (impl_shiftsCode _ _ _ es _ _ _ ss _ hmax hmax2 hnm h h2).mono ?_; rintro e w1 ⟨rfl, hb1⟩)
    go_ret2
    exact ⟨rfl, hb1⟩

end Go.Proofs.Ythjdodamfinhaaa

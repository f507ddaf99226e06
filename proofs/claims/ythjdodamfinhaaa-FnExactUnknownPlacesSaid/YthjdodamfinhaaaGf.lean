/- Walks over functions of this seat, by contract. Conditions: those that each theorem states. -/
import Derived.Test.YthjdodamfinhaaaGe
namespace Go.Proofs.Ythjdodamfinhaaa
open Go.RowKit Go.Sort

theorem goodCode_six {es : List G3} {ss : List Q3} {n : Nat} (hn : es.length = n) (h : shCode es ss = 0) {k : Nat} (hk : k < ss.length) (hb : badAt n ss 0 k = true) : goodCode es ss = 6 := by
  unfold goodCode
  rw [if_neg (by simp [h]), if_pos]
  rw [hn]
  rcases fstI_cases (badAt n ss 0) ss.length with ⟨_, h2⟩ | ⟨j, _, h2, _⟩
  · rw [h2 k hk] at hb; cases hb
  · rw [faultOf, h2]; omega
theorem goodCode_nil {es : List G3} {ss : List Q3} {n m : Nat} (hn : es.length = n) (hm : ss.length = m) (h : shCode es ss = 0) (hb : ∀ j, j < m → badAt n ss 0 j = false) : goodCode es ss = 0 :=
  goodCode_zero.2 ⟨h, by rw [hn, faultOf, fstI_none (by rw [hm]; exact hb)]; omega⟩
theorem goodCode_sh {es : List G3} {ss : List Q3} (h : shCode es ss ≠ 0) : goodCode es ss = shCode es ss := by unfold goodCode; rw [if_pos h]
set_option maxHeartbeats 1000000 in
set_option maxRecDepth 100000 in
theorem spec_l17Good (A : Option Addr) (n c : Nat) (es : List G3) (A2 : Option Addr) (m c2 : Nat) (ss : List Q3) (w : World) (hmax : n ≤ 1048576) (hmax2 : m ≤ 1048576) (hnm : ∀ e ∈ es, e.s.size ≤ 1048576) (h : Sl w w.heap.size 3 G3.cells A n es) (h2 : Sl w w.heap.size 3 Q3.cells A2 m ss) :
    Calls Try.prog 79 #[.slice A n c, .slice A2 m c2] w fun e w' => e = .returned (.int .i64 (goodCode es ss)) ∧ Below w.heap.size w w' := by
  have Hm := Lib.hid h2.len
  have Hn := Lib.hid h.len
  go_enter Try.func79, Try.ntmps79
  go_wp2_with (go_at_call 70; refine (spec_l17Shifts _ _ _ es _ _ _ ss _ hmax hmax2 hnm h h2).mono ?_; rintro e w1 ⟨rfl, hb1⟩)
  go_loopw [5, 6] (fun q i wr => ∃ (k : Nat) (cd : Int), k ≤ m ∧ i = .int .i64 k ∧ q = .int .i64 cd ∧ Hid ((cd = 0 ∧ shCode es ss = 0 ∧ ∀ j, j < k → badAt n ss 0 j = false) ∨ (cd ≠ 0 ∧ goodCode es ss = cd)) ∧ Below w.heap.size w wr) (fun _ i _ => m - (intOf i).toNat)
  case atStart => exact ⟨0, shCode es ss, by omega, rfl, rfl, Lib.hid (by
    by_cases k0 : shCode es ss = 0
    · exact .inl ⟨k0, k0, fun j hj => by omega⟩
    · exact .inr ⟨k0, goodCode_sh k0⟩), hb1⟩
  case round =>
    obtain ⟨k, cd, hk, rfl, rfl, Hinv, hbel⟩ := hrel
    rcases Hinv.out with ⟨h0, hs0, hg⟩ | ⟨h0, hg⟩
    · subst h0
      have Hg := Lib.hid hg
      have Hs0 := Lib.hid hs0
      have Hok := Lib.hid (shCode_zero.1 hs0).2.1
      clear hg hs0 Hinv
      by_cases hlt : k < m
      · rcases Bool.eq_false_or_eq_true (badAt n ss 0 k) with q | q
        · have H6 := Lib.hid (goodCode_six Hn.out Hs0.out (by rw [Hm.out]; exact hlt) q)
          go_wp2_with (go_at_call 71; refine (spec_l17Wrong _ _ _ _ _ _ ss k 0 _ hmax hmax2 hlt (by omega) (by omega) Hok.out (h2.on hbel)).mono ?_; rintro e w2 ⟨rfl, hb2⟩; rw [q])
          go_roundw
          case rel => exact ⟨k + 1, 6, by omega, by go_num, rfl, Lib.hid (.inr ⟨by omega, H6.out⟩), below_then hbel hb2⟩
          case measure => simp [intOf]; omega
        · have Hq := Lib.hid q
          go_wp2_with (go_at_call 71; refine (spec_l17Wrong _ _ _ _ _ _ ss k 0 _ hmax hmax2 hlt (by omega) (by omega) Hok.out (h2.on hbel)).mono ?_; rintro e w2 ⟨rfl, hb2⟩; rw [q])
          go_roundw
          case rel => exact ⟨k + 1, 0, by omega, by go_num, rfl, Lib.hid (.inl ⟨rfl, Hs0.out, fun j hj => by
            rcases Nat.lt_or_ge j k with h1 | h1
            · exact Hg.out j h1
            · have : j = k := by omega
              subst this; exact Hq.out⟩), below_then hbel hb2⟩
          case measure => simp [intOf]; omega
      · have hkm : k = m := by omega
        subst hkm
        have H0 := Lib.hid (goodCode_nil Hn.out Hm.out Hs0.out Hg.out)
        go_wp2
        go_ret
        exact ⟨ret_int H0.out.symm, hbel⟩
    · have hz : (cd == 0) = false := by simpa using h0
      have H0 := Lib.hid hg
      clear hg Hinv
      by_cases hlt : k < m
      · go_wp2
        go_ret
        exact ⟨ret_int H0.out.symm, hbel⟩
      · go_wp2
        go_ret
        exact ⟨ret_int H0.out.symm, hbel⟩
theorem hoursRes_len (es : List G3) (ss : List Q3) : (hoursRes es ss).length ≤ es.length := by
  unfold hoursRes; split
  · rw [hoursOf, sumsOf_len]; omega
  · simp
set_option maxHeartbeats 1000000 in
set_option maxRecDepth 100000 in
theorem spec_HoursOf (A : Option Addr) (n c : Nat) (es : List G3) (A2 : Option Addr) (m c2 : Nat) (ss : List Q3) (w : World) (hmax : n ≤ 1048576) (hmax2 : m ≤ 1048576) (hnm : ∀ e ∈ es, e.s.size ≤ 1048576) (h : Sl w w.heap.size 3 G3.cells A n es) (h2 : Sl w w.heap.size 3 Q3.cells A2 m ss) :
    Calls Try.prog 48 #[.slice A n c, .slice A2 m c2] w fun e w' => ∃ v, e = .returned (.tuple #[v, .int .i64 (goodCode es ss)]) ∧ Own w' w.heap.size 2 1 icell v (hoursRes es ss) ∧ Below w.heap.size w w' := by
  by_cases k0 : goodCode es ss = 0
  · obtain ⟨s0, f0⟩ := goodCode_zero.1 k0
    obtain ⟨_, g3, g4⟩ := shCode_zero.1 s0
    have hr : hoursRes es ss = sumsOf (α := Q3) (·.a) spanOf n ss := by rw [hoursRes, if_pos k0, hoursOf, h.len]
    have Hf : Hid (faultOf n ss 0 < 0) := by show faultOf n ss 0 < 0; rw [← h.len]; exact f0
    have Hok := Lib.hid g3
    have Hl := Lib.hid g4
    have Hm := Lib.hid h2.len
    obtain ⟨i0, hi, hz0, hz1, hz2⟩ := info_parts info_i64
    have hmk := make_all Try.underlying39 hi hz0 n (by rw [hz2]; omega) (by omega)
    rw [hz1, Nat.mul_one] at hmk
    rw [hr]
    clear hi hz0 hz1 hz2 hr s0 f0 g3 g4
    go_enter Try.func48, Try.ntmps48
    go_wp2_with (go_at_call 79; refine (spec_l17Good _ _ _ es _ _ _ ss _ hmax hmax2 hnm h h2).mono ?_; rintro e w1 ⟨rfl, hb1⟩; rw [k0])
    clear hmk
    have Hbase := Lib.hid hb1.size
    go_loopw [8] (fun i wr => ∃ k : Nat, k ≤ m ∧ i = .int .i64 k ∧ Hid (Own wr w1.heap.size 2 1 icell (.slice (some ⟨w1.heap.size, 0, none⟩) n n) (sumsOf (α := Q3) (·.a) spanOf n (ss.take k))) ∧ Below w.heap.size w wr) (fun i _ => m - (intOf i).toNat)
    case atStart => exact ⟨0, by omega, rfl, Lib.hid (by rw [sumsOf_zero]; exact own_zeros w1 _ n (by omega)), below_al hb1 _⟩
    case round =>
      obtain ⟨k, hk, rfl, Hown, hbel⟩ := hrel
      by_cases hlt : k < m
      · obtain ⟨b, off, rfl, hb, H⟩ := h2.at_ (by omega)
        obtain ⟨e, he⟩ := h2.get hlt
        obtain ⟨c0, c1, c2'⟩ := (H.below hbel hb).q3 he
        obtain ⟨a0, a1, a2⟩ := fault_none Hf.out he
        obtain ⟨⟨b0, b1⟩, b2, b3⟩ := hour_all Hok.out he
        obtain ⟨o, ho⟩ : ∃ o : Nat, e.a = (o : Int) := ⟨e.a.toNat, by omega⟩
        rw [ho] at c0
        have hon : o < n := by omega
        have hon1 : (o : Int) < (n : Int) := by omega
        have ho0 : (0 : Int) ≤ (o : Int) := by omega
        have d0 := (own_has Hown.out icell_len).i1 (sumsOf_get (key := fun q : Q3 => q.a) (val := spanOf) (es := ss.take k) hon)
        obtain ⟨s1, s2⟩ := hours_bd Hok.out Hl.out (o : Int) k
        rw [Nat.zero_add] at d0
        obtain ⟨sm, hsm⟩ : ∃ sm, sumBy (fun q : Q3 => if q.a = (o : Int) then spanOf q else 0) (ss.take k) = sm := ⟨_, rfl⟩
        rw [hsm] at d0 s1 s2
        have hgl : w1.heap.size < wr.heap.size := (World.ownsRow.lt Hown.out _ rfl).2
        have hfr := own_free Hown.out o
        have hw1 : IntKind.i64.wrap (e.c - e.b) = e.c - e.b := IntWalk.i64_in _ (by omega)
        have hw2 : IntKind.i64.wrap (sm + (e.c - e.b)) = sm + (e.c - e.b) := IntWalk.i64_in _ (by omega)
        have Ho := Lib.hid ho
        have He := Lib.hid he
        have Hsm := Lib.hid hsm
        clear he ho hsm
        go_wp2
        go_region
        go_wp2
        go_roundw
        case rel =>
          refine ⟨k + 1, by omega, by go_num, Lib.hid ?_, ?_⟩
          · rw [sumsOf_succ He.out Ho.out, Hsm.out]
            have hst := Own.store (u := .int .i64 (sm + (e.c - e.b))) (e' := sm + (e.c - e.b)) (j := 0) icell_len Hown.out (sumsOf_get (key := fun q : Q3 => q.a) (val := spanOf) (es := ss.take k) hon) (by omega) rfl
            rw [Nat.mul_one, Nat.add_zero] at hst
            exact hst
          · exact below_dr (below_st hbel _ Hbase.out _)
        case measure => simp [intOf]; omega
      · go_wp2
        go_ret2
        have hkn : k = m := by omega
        subst hkn
        have hl : List.take k ss = ss := List.take_of_length_le (by rw [Hm.out]; omega)
        have ho := Hown.out
        rw [hl] at ho
        exact ⟨_, by rw [k0]; rfl, ho.base_le Hbase.out, hbel⟩
  · have hne : (goodCode es ss != 0) = true := by simpa using k0
    rw [hoursRes_neg k0]
    go_enter Try.func48, Try.ntmps48
    go_wp2_with (go_at_call 79; refine (spec_l17Good _ _ _ es _ _ _ ss _ hmax hmax2 hnm h h2).mono ?_; rintro e w1 ⟨rfl, hb1⟩)
    go_ret2
    exact ⟨_, rfl, own_nil _ _ _ _ _, hb1⟩
set_option maxHeartbeats 1000000 in
set_option maxRecDepth 100000 in
theorem impl_HoursOf (A : Option Addr) (n c : Nat) (es : List G3) (A2 : Option Addr) (m c2 : Nat) (ss : List Q3) (w : World) (hmax : n ≤ 1048576) (hmax2 : m ≤ 1048576) (hc2 : m ≤ c2) (hnm : ∀ e ∈ es, e.s.size ≤ 1048576) (h : Sl w w.heap.size 3 G3.cells A n es) (h2 : Sl w w.heap.size 3 Q3.cells A2 m ss) :
    Calls Try.prog 49 #[.slice A n c, .slice A2 m c2] w fun e w' => ∃ v, e = .returned (.tuple #[v, .int .i64 (goodCode es ss)]) ∧ Own w' w.heap.size 2 1 icell v (hoursRes es ss) ∧ Below w.heap.size w w' := by
  by_cases s0 : shCode es ss = 0
  · obtain ⟨_, g3, g4⟩ := shCode_zero.1 s0
    have Hok := Lib.hid g3
    by_cases f0 : faultOf n ss 0 < 0
    · have k0 : goodCode es ss = 0 := goodCode_zero.2 ⟨s0, by rw [h.len]; exact f0⟩
      have hr : hoursRes es ss = sumsOf (α := Q3) (·.a) spanOf n ss := by rw [hoursRes, if_pos k0, hoursOf, h.len]
      have Hf := Lib.hid f0
      have f0' : decide (0 ≤ faultOf n ss 0) = false := by simpa using f0
      have Hl := Lib.hid g4
      have Hm := Lib.hid h2.len
      obtain ⟨i0, hi, hz0, hz1, hz2⟩ := info_parts info_i64
      have hmk := make_all Try.underlying39 hi hz0 n (by rw [hz2]; omega) (by omega)
      rw [hz1, Nat.mul_one] at hmk
      rw [hr, k0]
      clear hi hz0 hz1 hz2 hr g3 g4 f0 k0
      go_enter Try.func49, Try.ntmps49
      go_wp2_with (first
        | (go_at_call 73; refine (impl_shiftsCode _ _ _ es _ _ _ ss _ hmax hmax2 hnm h h2).mono ?_; rintro e w1 ⟨rfl, hb1⟩; rw [s0])
        | (go_at_call 74; refine (impl_shiftFault _ _ _ _ _ _ ss _ _ hmax hmax2 hc2 (by omega) (by omega) Hok.out (h2.on hb1)).mono ?_; rintro e w2 ⟨rfl, hb2⟩))
      clear hmk f0'
      have hb3 := below_then hb1 hb2
      have Hbase := Lib.hid hb3.size
      go_loopw [27] (fun i wr => ∃ k : Nat, k ≤ m ∧ i = .int .i64 k ∧ Hid (Own wr w2.heap.size 2 1 icell (.slice (some ⟨w2.heap.size, 0, none⟩) n n) (sumsOf (α := Q3) (·.a) spanOf n (ss.take k))) ∧ Below w.heap.size w wr) (fun i _ => m - (intOf i).toNat)
      case atStart => exact ⟨0, by omega, rfl, Lib.hid (by rw [sumsOf_zero]; exact own_zeros w2 _ n (by omega)), below_al hb3 _⟩
      case round =>
        obtain ⟨k, hk, rfl, Hown, hbel⟩ := hrel
        by_cases hlt : k < m
        · obtain ⟨b, off, rfl, hb, H⟩ := h2.at_ (by omega)
          obtain ⟨e, he⟩ := h2.get hlt
          obtain ⟨c0, c1, c2'⟩ := (H.below hbel hb).q3 he
          obtain ⟨a0, a1, a2⟩ := fault_none Hf.out he
          obtain ⟨⟨b0, b1⟩, b2, b3⟩ := hour_all Hok.out he
          obtain ⟨o, ho⟩ : ∃ o : Nat, e.a = (o : Int) := ⟨e.a.toNat, by omega⟩
          rw [ho] at c0
          have hon : o < n := by omega
          have hon1 : (o : Int) < (n : Int) := by omega
          have ho0 : (0 : Int) ≤ (o : Int) := by omega
          have d0 := (own_has Hown.out icell_len).i1 (sumsOf_get (key := fun q : Q3 => q.a) (val := spanOf) (es := ss.take k) hon)
          obtain ⟨s1, s2⟩ := hours_bd Hok.out Hl.out (o : Int) k
          rw [Nat.zero_add] at d0
          obtain ⟨sm, hsm⟩ : ∃ sm, sumBy (fun q : Q3 => if q.a = (o : Int) then spanOf q else 0) (ss.take k) = sm := ⟨_, rfl⟩
          rw [hsm] at d0 s1 s2
          have hgl : w2.heap.size < wr.heap.size := (World.ownsRow.lt Hown.out _ rfl).2
          have hfr := own_free Hown.out o
          have hw1 : IntKind.i64.wrap (e.c - e.b) = e.c - e.b := IntWalk.i64_in _ (by omega)
          have hw2 : IntKind.i64.wrap (sm + (e.c - e.b)) = sm + (e.c - e.b) := IntWalk.i64_in _ (by omega)
          have Ho := Lib.hid ho
          have He := Lib.hid he
          have Hsm := Lib.hid hsm
          clear he ho hsm
          go_wp2
          go_region
          go_wp2
          go_roundw
          case rel =>
            refine ⟨k + 1, by omega, by go_num, Lib.hid ?_, ?_⟩
            · rw [sumsOf_succ He.out Ho.out, Hsm.out]
              have hst := Own.store (u := .int .i64 (sm + (e.c - e.b))) (e' := sm + (e.c - e.b)) (j := 0) icell_len Hown.out (sumsOf_get (key := fun q : Q3 => q.a) (val := spanOf) (es := ss.take k) hon) (by omega) rfl
              rw [Nat.mul_one, Nat.add_zero] at hst
              exact own_alloc hst _
            · exact below_dr (below_al (below_st hbel _ Hbase.out _) _)
          case measure => simp [intOf]; omega
        · go_wp2
          go_ret2
          have hkn : k = m := by omega
          subst hkn
          have hl : List.take k ss = ss := List.take_of_length_le (by rw [Hm.out]; omega)
          have ho := Hown.out
          rw [hl] at ho
          exact ⟨_, rfl, ho.base_le Hbase.out, hbel⟩
    · have k6 : goodCode es ss = 6 := by unfold goodCode; rw [if_neg (by simp [s0]), if_pos (by rw [h.len]; omega)]
      have f0' : decide (0 ≤ faultOf n ss 0) = true := by simpa using f0
      rw [hoursRes_neg (by rw [k6]; omega), k6]
      clear f0 g3
      go_enter Try.func49, Try.ntmps49
      go_wp2_with (first
        | (go_at_call 73; refine (impl_shiftsCode _ _ _ es _ _ _ ss _ hmax hmax2 hnm h h2).mono ?_; rintro e w1 ⟨rfl, hb1⟩; rw [s0])
        | (go_at_call 74; refine (impl_shiftFault _ _ _ _ _ _ ss _ _ hmax hmax2 hc2 (by omega) (by omega) Hok.out (h2.on hb1)).mono ?_; rintro e w2 ⟨rfl, hb2⟩))
      have hb3 := below_then hb1 hb2
      go_ret2
      exact ⟨_, rfl, own_new_empty _ _ _ _ _ hb3.size, below_al hb3 _⟩
  · have hc := goodCode_sh s0
    have hne : (shCode es ss != 0) = true := by simpa using s0
    rw [hoursRes_neg (by rw [hc]; exact s0), hc]
    clear hc
    go_enter Try.func49, Try.ntmps49
    go_wp2_with (go_at_call 73; refine (impl_shiftsCode _ _ _ es _ _ _ ss _ hmax hmax2 hnm h h2).mono ?_; rintro e w1 ⟨rfl, hb1⟩)
    go_ret2
    exact ⟨_, rfl, own_new_empty _ _ _ _ _ hb1.size, below_al hb1 _⟩

end Go.Proofs.Ythjdodamfinhaaa

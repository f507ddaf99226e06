/- Walks over functions of this seat, by contract. Conditions: those that each theorem states. -/
import Derived.Test.YtgbblcbpmpokdaaV4
namespace Go.Proofs.Ytgbblcbpmpokdaa
open Go.RowKit Go.Sort

set_option maxHeartbeats 2000000 in
set_option maxRecDepth 100000 in
theorem impl_DivideDues (A : Option Addr) (n c : Nat) (es : List Q4) (A2 : Option Addr) (n2 c2 : Nat) (fs : List Int) (T : Int) (w : World) (hmax : n ≤ 1048576) (hmax2 : n2 ≤ 1048576) (h : Sl w w.heap.size 4 Q4.cells A n es) (h2 : Sl w w.heap.size 1 icell A2 n2 fs) :
    Calls Try.prog 10 #[.slice A n c, .slice A2 n2 c2, .int .i64 T] w fun e w' => ∃ v, e = .returned (.tuple #[v, .int .i64 (duCode es fs T)]) ∧ Own w' w.heap.size 2 1 icell v (duOut es fs T) ∧ Below w.heap.size w w' := by
  by_cases k0 : duCode es fs T = 0
  · have g1 : parcelsOk es = true := by
      cases h2 : parcelsOk es with
      | true => rfl
      | false => rw [duCode_1 h2] at k0; omega
    have g23 : (facOk fs && inR T 0 1000000000) = true := by
      cases hx : (facOk fs && inR T 0 1000000000) with
      | true => rfl
      | false => rw [duCode_2 g1 hx] at k0; omega
    rw [Bool.and_eq_true] at g23
    obtain ⟨g2, g3⟩ := g23
    obtain ⟨s, hs⟩ : ∃ s, isum (wOf fs es) = s := ⟨_, rfl⟩
    have hf1 := (facOk_iff.1 g2).1
    have hs0 : 0 ≤ s := by rw [← hs]; exact isum_nn fun x hx => (wOf_bd g1 hf1 x hx).1
    have hsp : 0 < s := by
      rcases Int.lt_or_le 0 s with h | h
      · exact h
      · rw [duCode_6 g1 g2 g3 (by omega)] at k0; omega
    have hlen : (wOf fs es).length ≤ 60 := by rw [wOf_len]; exact (parcels_all g1).1
    rw [duOut_pos k0, hs]
    have K0 := Lib.hid k0
    have Hs := Lib.hid hs
    have Hg1 := Lib.hid g1
    have Hg2 := Lib.hid g2
    have HT := Lib.hid (inR_iff.1 g3)
    have Hf1 := Lib.hid hf1
    have Hlen := Lib.hid hlen
    have hne : (duCode es fs T != 0) = false := by rw [k0]; rfl
    clear hs g1 g2 g3 hf1 hlen hs0
    rw [K0.out]
    clear hne
    go_enter Try.func10, Try.ntmps10
    go_wp2_with (first
      | (go_at_call 33; refine (impl_duesCode _ _ _ es _ _ _ fs T _ hmax hmax2 h h2).mono ?_; rintro e w1 ⟨rfl, hb1⟩; rw [K0.out])
      | (go_at_call 35; refine (impl_weightsOf _ _ _ es _ _ _ fs _ hmax Hg1.out Hg2.out (h.on hb1) (h2.on hb1)).mono ?_; rintro e w2 ⟨v2, rfl, ho2, hb2⟩; obtain ⟨A3, n3, c3, rfl, hl3, _⟩ := own_shape ho2; have hsl := own_sl ho2 icell_len)
      | (go_at_call 34; refine (impl_shareOut _ _ _ (wOf fs es) T s _ (by have := Hlen.out; omega) HT.out hsp Hs.out (wOf_bd Hg1.out Hf1.out) hsl).mono ?_; rintro e w4 ⟨v4, rfl, ho4, hb4⟩))
    go_ret2
    have hb12 := below_then hb1 hb2
    exact ⟨_, rfl, ho4.base_le hb12.size, below_then hb12 hb4⟩
  · rw [duOut_neg k0]
    have hne : (duCode es fs T != 0) = true := by simpa using k0
    go_enter Try.func10, Try.ntmps10
    go_wp2_with (go_at_call 33; refine (impl_duesCode _ _ _ es _ _ _ fs T _ hmax hmax2 h h2).mono ?_; rintro e w1 ⟨rfl, hb1⟩)
    go_ret2
    exact ⟨_, rfl, own_new_empty _ _ _ _ _ hb1.size, below_al hb1 _⟩

end Go.Proofs.Ytgbblcbpmpokdaa

/- Walks over functions of this seat, by contract. Conditions: those that each theorem states. -/
import Derived.Test.YtgbblcbpmpokdaaV2
namespace Go.Proofs.Ytgbblcbpmpokdaa
open Go.RowKit Go.Sort

def duCode (es : List Q4) (fs : List Int) (T : Int) : Int := if parcelsOk es = false then 1 else if (facOk fs && inR T 0 1000000000) = false then 2 else if isum (wOf fs es) = 0 then 6 else 0
def duOut (es : List Q4) (fs : List Int) (T : Int) : List Int := if duCode es fs T = 0 then dues T (isum (wOf fs es)) (wOf fs es) else []
theorem duOut_neg {es : List Q4} {fs : List Int} {T : Int} (h : duCode es fs T ≠ 0) : duOut es fs T = [] := if_neg h
theorem duOut_pos {es : List Q4} {fs : List Int} {T : Int} (h : duCode es fs T = 0) : duOut es fs T = dues T (isum (wOf fs es)) (wOf fs es) := if_pos h
theorem duCode_1 {es : List Q4} {fs : List Int} {T : Int} (h : parcelsOk es = false) : duCode es fs T = 1 := by unfold duCode; rw [if_pos h]
theorem duCode_2 {es : List Q4} {fs : List Int} {T : Int} (h : parcelsOk es = true) (h2 : (facOk fs && inR T 0 1000000000) = false) : duCode es fs T = 2 := by unfold duCode; rw [if_neg (by simp [h]), if_pos h2]
theorem duCode_6 {es : List Q4} {fs : List Int} {T : Int} (h : parcelsOk es = true) (h2 : facOk fs = true) (h3 : inR T 0 1000000000 = true) (h4 : isum (wOf fs es) = 0) : duCode es fs T = 6 := by unfold duCode; rw [if_neg (by simp [h]), if_neg (by simp [h2, h3]), if_pos h4]
theorem duCode_0 {es : List Q4} {fs : List Int} {T : Int} (h : parcelsOk es = true) (h2 : facOk fs = true) (h3 : inR T 0 1000000000 = true) (h4 : isum (wOf fs es) ≠ 0) : duCode es fs T = 0 := by unfold duCode; rw [if_neg (by simp [h]), if_neg (by simp [h2, h3]), if_neg h4]
theorem duOut_len (es : List Q4) (fs : List Int) (T : Int) : (duOut es fs T).length ≤ 60 := by
  by_cases h : duCode es fs T = 0
  · rw [duOut_pos h, dues, incs_len, shares_len, wOf_len]
    have h1 : parcelsOk es = true := by
      cases h2 : parcelsOk es with
      | true => rfl
      | false => rw [duCode_1 h2] at h; omega
    exact (parcels_all h1).1
  · rw [duOut_neg h]; simp
theorem wOf_small {fs : List Int} {es : List Q4} (he : parcelsOk es = true) (hf : facOk fs = true) : ∀ x ∈ wOf fs es, 0 ≤ x ∧ x ≤ 1000000000 := fun x hx => by
  have := wOf_bd he (facOk_iff.1 hf).1 x hx
  omega
set_option maxHeartbeats 1000000 in
set_option maxRecDepth 100000 in
theorem impl_duesCode (A : Option Addr) (n c : Nat) (es : List Q4) (A2 : Option Addr) (n2 c2 : Nat) (fs : List Int) (T : Int) (w : World) (hmax : n ≤ 1048576) (hmax2 : n2 ≤ 1048576) (h : Sl w w.heap.size 4 Q4.cells A n es) (h2 : Sl w w.heap.size 1 icell A2 n2 fs) :
    Calls Try.prog 33 #[.slice A n c, .slice A2 n2 c2, .int .i64 T] w fun e w' => e = .returned (.int .i64 (duCode es fs T)) ∧ Below w.heap.size w w' := by
  have hcall : ∀ args W, (callFunc 66 args).run Try.prog W = .ok (.enter 66 args) W := fun _ _ => by kernel_rfl
  rcases Bool.eq_false_or_eq_true (parcelsOk es) with g1 | g1
  rotate_left
  · rw [duCode_1 g1]
    go_enter Try.func33, Try.ntmps33
    go_wp2_with (go_at_call 64; refine (impl_ValidParcels _ _ _ es _ hmax h).mono ?_; rintro e w1 ⟨rfl, hb1⟩; rw [g1])
    go_ret
    exact ⟨rfl, hb1⟩
  by_cases hn4 : n2 = 4
  rotate_left
  · have hfk : facOk fs = false := by
      cases hx : facOk fs with
      | false => rfl
      | true => exact absurd (by rw [← h2.len]; exact (facOk_iff.1 hx).2) hn4
    rw [duCode_2 g1 (by rw [hfk]; rfl)]
    have hne : ((n2 : Int) != 4) = true := by simp; omega
    go_enter Try.func33, Try.ntmps33
    go_wp2_with (go_at_call 64; refine (impl_ValidParcels _ _ _ es _ hmax h).mono ?_; rintro e w1 ⟨rfl, hb1⟩; rw [g1])
    go_ret
    exact ⟨rfl, hb1⟩
  subst hn4
  rcases Bool.eq_false_or_eq_true (fs.all (fun x => inR x 0 10)) with g2 | g2
  rotate_left
  · rw [duCode_2 g1 (by rw [facOk, g2]; rfl)]
    go_enter Try.func33, Try.ntmps33
    go_wp2_with (first
      | (go_at_call 64; refine (impl_ValidParcels _ _ _ es _ hmax h).mono ?_; rintro e w1 ⟨rfl, hb1⟩; rw [g1])
      | (go_at_call 65; refine (impl_all_int64 66 (fun x => inR x 0 10) _ _ _ fs _ (by omega) hcall (fun x W => impl_duesCode_1 x W) (h2.on hb1)).mono ?_; rintro e w2 ⟨rfl, hb2⟩; rw [g2]))
    go_ret
    exact ⟨rfl, below_then hb1 hb2⟩
  have hfk : facOk fs = true := by rw [facOk, g2, h2.len]; rfl
  rcases Bool.eq_false_or_eq_true (inR T 0 1000000000) with g3 | g3
  rotate_left
  · rw [duCode_2 g1 (by rw [g3]; simp)]
    go_enter Try.func33, Try.ntmps33
    go_wp2_with (first
      | (go_at_call 64; refine (impl_ValidParcels _ _ _ es _ hmax h).mono ?_; rintro e w1 ⟨rfl, hb1⟩; rw [g1])
      | (go_at_call 65; refine (impl_all_int64 66 (fun x => inR x 0 10) _ _ _ fs _ (by omega) hcall (fun x W => impl_duesCode_1 x W) (h2.on hb1)).mono ?_; rintro e w2 ⟨rfl, hb2⟩; rw [g2])
      | (go_at_call 67; refine (impl_isShared _ _).mono ?_; rintro e w' ⟨rfl, rfl⟩; rw [g3]))
    go_ret
    exact ⟨rfl, below_then hb1 hb2⟩
  have hlen : (wOf fs es).length ≤ 60 := by rw [wOf_len]; exact (parcels_all g1).1
  have Hg1 := Lib.hid g1
  have Hfk := Lib.hid hfk
  have Hlen := Lib.hid hlen
  by_cases k0 : isum (wOf fs es) = 0
  · rw [duCode_6 g1 hfk g3 k0]
    have k0' : (isum (wOf fs es) == 0) = true := by simp [k0]
    have K0 := Lib.hid k0
    clear k0 hfk hlen
    go_enter Try.func33, Try.ntmps33
    go_wp2_with (first
      | (go_at_call 64; refine (impl_ValidParcels _ _ _ es _ hmax h).mono ?_; rintro e w1 ⟨rfl, hb1⟩; rw [g1])
      | (go_at_call 65; refine (impl_all_int64 66 (fun x => inR x 0 10) _ _ _ fs _ (by omega) hcall (fun x W => impl_duesCode_1 x W) (h2.on hb1)).mono ?_; rintro e w2 ⟨rfl, hb2⟩; rw [g2]; have hb12 := below_then hb1 hb2)
      | (go_at_call 67; refine (impl_isShared _ _).mono ?_; rintro e w' ⟨rfl, rfl⟩; rw [g3])
      | (go_at_call 35; refine (impl_weightsOf _ _ _ es _ _ _ fs _ hmax Hg1.out Hfk.out (h.on hb12) (h2.on hb12)).mono ?_; rintro e w3 ⟨v3, rfl, ho3, hb3⟩; obtain ⟨A3, n3, c3, rfl, hl3, _⟩ := own_shape ho3)
      | (go_at_call 68; refine (impl_sum _ _ _ (wOf fs es) _ (by have := Hlen.out; omega) (wOf_small Hg1.out Hfk.out) (own_sl ho3 icell_len)).mono ?_; rintro e w' ⟨rfl, rfl⟩))
    go_ret
    exact ⟨rfl, below_then hb12 hb3⟩
  · rw [duCode_0 g1 hfk g3 k0]
    have k0' : (isum (wOf fs es) == 0) = false := by simp [k0]
    have K0 := Lib.hid k0
    clear k0 hfk hlen
    go_enter Try.func33, Try.ntmps33
    go_wp2_with (first
      | (go_at_call 64; refine (impl_ValidParcels _ _ _ es _ hmax h).mono ?_; rintro e w1 ⟨rfl, hb1⟩; rw [g1])
      | (go_at_call 65; refine (impl_all_int64 66 (fun x => inR x 0 10) _ _ _ fs _ (by omega) hcall (fun x W => impl_duesCode_1 x W) (h2.on hb1)).mono ?_; rintro e w2 ⟨rfl, hb2⟩; rw [g2]; have hb12 := below_then hb1 hb2)
      | (go_at_call 67; refine (impl_isShared _ _).mono ?_; rintro e w' ⟨rfl, rfl⟩; rw [g3])
      | (go_at_call 35; refine (impl_weightsOf _ _ _ es _ _ _ fs _ hmax Hg1.out Hfk.out (h.on hb12) (h2.on hb12)).mono ?_; rintro e w3 ⟨v3, rfl, ho3, hb3⟩; obtain ⟨A3, n3, c3, rfl, hl3, _⟩ := own_shape ho3)
      | (go_at_call 68; refine (impl_sum _ _ _ (wOf fs es) _ (by have := Hlen.out; omega) (wOf_small Hg1.out Hfk.out) (own_sl ho3 icell_len)).mono ?_; rintro e w' ⟨rfl, rfl⟩))
    go_ret
    exact ⟨rfl, below_then hb12 hb3⟩

end Go.Proofs.Ytgbblcbpmpokdaa

/- Walks over functions of this seat, by contract. Conditions: those that each theorem states. -/
import Derived.Test.YtiibamemkmffoaaP4
namespace Go.Proofs.Ytiibamemkmffoaa
open Go.RowKit Go.Sort

def ownF (owner : Int) (q : Q4) : Int := if q.b = owner then q.c else 0
def areaCode (es : List Q4) (owner : Int) : Int := if parcelsOk es = false then 1 else if inR owner 0 39 = false then 2 else 0
def areaRes (es : List Q4) (owner : Int) : Int := if areaCode es owner = 0 then sumBy (ownF owner) es else 0
theorem impl_AreaOfOwner (A : Option Addr) (n c : Nat) (es : List Q4) (owner : Int) (w : World) (hmax : n ≤ 1048576) (h : Sl w w.heap.size 4 Q4.cells A n es) :
    Calls Try.prog 22 #[.slice A n c, .int .i64 owner] w fun e w' => e = .returned (.tuple #[.int .i64 (areaRes es owner), .int .i64 (areaCode es owner)]) ∧ Below w.heap.size w w' := by
  by_cases k1 : parcelsOk es = true
  · have hk0 : idsCode es [] = 0 := by rw [idsCode_nil]; simp [areasCode, k1]
    by_cases k2 : inR owner 0 39 = true
    · have hc : areaCode es owner = 0 := by simp [areaCode, k1, k2]
      have hr : areaRes es owner = sumBy (ownF owner) es := by simp [areaRes, hc]
      rw [hc, hr]
      obtain ⟨o1, o2⟩ := inR_iff.1 k2
      obtain ⟨o, rfl⟩ : ∃ o : Nat, owner = (o : Int) := ⟨owner.toNat, by omega⟩
      have ho40 : o < 40 := by omega
      go_enter Try.func22, Try.ntmps22
      go_wp2_with (first
        | (go_at_call 51; refine (impl_parcelsCode _ _ _ es _ _ _ [] _ hmax (by omega) h (Sl.nil_ _ _ _ _ _)).mono ?_; rintro e w1 ⟨rfl, hb1⟩; rw [hk0])
        | (go_at_call 52; refine (impl_isOwner _ _).mono ?_; rintro e w' ⟨rfl, rfl⟩; rw [k2])
        | (go_at_call 53; refine (impl_areasOfOwners _ _ _ es _ hmax k1 (h.on hb1)).mono ?_; rintro e w2 ⟨v2, rfl, ho2, hb2⟩; obtain ⟨g2, c2, rfl, hg1, hg2, hfr⟩ := own_block_of ho2 (areasOf_len _ _ _) (by omega); have d0 := (own_has ho2 icell_len).i1 (areasOf_get (key := (·.b)) (es := es) ho40); rw [Nat.zero_add] at d0))
      go_ret2
      exact ⟨rfl, below_then hb1 hb2⟩
    · have k2' : inR owner 0 39 = false := by simpa using k2
      have hc : areaCode es owner = 2 := by simp [areaCode, k1, k2]
      have hr : areaRes es owner = 0 := by simp [areaRes, hc]
      rw [hc, hr]
      go_enter Try.func22, Try.ntmps22
      go_wp2_with (first
        | (go_at_call 51; refine (impl_parcelsCode _ _ _ es _ _ _ [] _ hmax (by omega) h (Sl.nil_ _ _ _ _ _)).mono ?_; rintro e w1 ⟨rfl, hb1⟩; rw [hk0])
        | (go_at_call 52; refine (impl_isOwner _ _).mono ?_; rintro e w' ⟨rfl, rfl⟩; rw [k2']))
      go_ret2
      exact ⟨rfl, hb1⟩
  · have hk0 : idsCode es [] = 1 := by rw [idsCode_nil]; simp [areasCode, k1]
    have hc : areaCode es owner = 1 := by simp [areaCode, k1]
    have hr : areaRes es owner = 0 := by simp [areaRes, hc]
    rw [hc, hr]
    go_enter Try.func22, Try.ntmps22
    go_wp2_with (go_at_call 51; refine (impl_parcelsCode _ _ _ es _ _ _ [] _ hmax (by omega) h (Sl.nil_ _ _ _ _ _)).mono ?_; rintro e w1 ⟨rfl, hb1⟩; rw [hk0])
    go_ret2
    exact ⟨rfl, hb1⟩
set_option maxHeartbeats 400000 in
theorem spec_AreaOfOwner (A : Option Addr) (n c : Nat) (es : List Q4) (owner : Int) (w : World) (hmax : n ≤ 1048576) (h : Sl w w.heap.size 4 Q4.cells A n es) :
    Calls Try.prog 21 #[.slice A n c, .int .i64 owner] w fun e w' => e = .returned (.tuple #[.int .i64 (areaRes es owner), .int .i64 (areaCode es owner)]) ∧ Below w.heap.size w w' := by
  by_cases k1 : parcelsOk es = true
  · by_cases k2 : inR owner 0 39 = true
    · have hc : areaCode es owner = 0 := by simp [areaCode, k1, k2]
      have hr : areaRes es owner = sumBy (ownF owner) es := by simp [areaRes, hc]
      rw [hc, hr]
      clear hc hr
      have Hn := Lib.hid h.len
      have Hok := Lib.hid k1
      go_enter Try.func21, Try.ntmps21
      go_wp2_with (first
        | (go_at_call 47; refine (spec_l19Ok _ _ _ es _ hmax h).mono ?_; rintro e w1 ⟨rfl, hb1⟩; rw [k1])
        | (go_at_call 50; refine (spec_l19Owner _ _).mono ?_; rintro e w' ⟨rfl, rfl⟩; rw [k2]))
      clear k1 k2
      go_loopw [6, 7] (fun sm i wr => ∃ (k : Nat) (s : Int), k ≤ n ∧ i = .int .i64 k ∧ sm = .int .i64 s ∧ Hid (s = sumBy (ownF owner) (es.take k)) ∧ Below w.heap.size w wr) (fun _ i _ => n - (intOf i).toNat)
      case atStart => exact ⟨0, 0, by omega, rfl, rfl, Lib.hid rfl, hb1⟩
      case round =>
        obtain ⟨k, s, hk, rfl, rfl, Hs, hbel⟩ := hrel
        by_cases hlt : k < n
        · obtain ⟨b, off, rfl, hb, H⟩ := h.at_ (by omega)
          obtain ⟨e, he⟩ := h.get hlt
          obtain ⟨_, c1, c2, _⟩ := (H.below hbel hb).q4 he
          obtain ⟨_, _, ⟨e3, e4⟩, _⟩ := parcelOk_iff.1 ((parcels_all Hok.out).2 e (List.mem_of_getElem? he))
          obtain ⟨s1, s2⟩ := areas_bd Hok.out (·.b) owner k
          have hs1 : 0 ≤ s := by rw [Hs.out]; exact s1
          have hs2 : s ≤ 600000000 := by rw [Hs.out]; exact s2
          have He := Lib.hid he
          clear he s1 s2
          go_wp2
          · have ho : (e.b == owner) = true := by assumption
            have ho' : e.b = owner := by simpa using ho
            go_roundw
            case rel => exact ⟨k + 1, _, by omega, by go_num, rfl, Lib.hid (by rw [sumBy_succ He.out, ← Hs.out, ownF, if_pos ho']), hbel⟩
            case measure => simp [intOf]; omega
          · have ho : (e.b == owner) = false := by assumption
            have ho' : ¬ e.b = owner := by simpa using ho
            go_roundw
            case rel => exact ⟨k + 1, s, by omega, by go_num, rfl, Lib.hid (by rw [sumBy_succ He.out, ← Hs.out, ownF, if_neg ho']; omega), hbel⟩
            case measure => simp [intOf]; omega
        · go_wp2
          go_ret2
          have hkn : k = n := by omega
          subst hkn
          have hl : List.take k es = es := List.take_of_length_le (by rw [Hn.out]; omega)
          have hs : sumBy (ownF owner) es = s := by rw [Hs.out, hl]
          exact ⟨by rw [hs]; rfl, hbel⟩
    · have k2' : inR owner 0 39 = false := by simpa using k2
      have hc : areaCode es owner = 2 := by simp [areaCode, k1, k2]
      have hr : areaRes es owner = 0 := by simp [areaRes, hc]
      rw [hc, hr]
      go_enter Try.func21, Try.ntmps21
      go_wp2_with (first
        | (go_at_call 47; refine (spec_l19Ok _ _ _ es _ hmax h).mono ?_; rintro e w1 ⟨rfl, hb1⟩; rw [k1])
        | (go_at_call 50; refine (spec_l19Owner _ _).mono ?_; rintro e w' ⟨rfl, rfl⟩; rw [k2']))
      go_ret2
      exact ⟨rfl, hb1⟩
  · have k1' : parcelsOk es = false := by simpa using k1
    have hc : areaCode es owner = 1 := by simp [areaCode, k1]
    have hr : areaRes es owner = 0 := by simp [areaRes, hc]
    rw [hc, hr]
    go_enter Try.func21, Try.ntmps21
    go_wp2_with (go_at_call 47; refine (spec_l19Ok _ _ _ es _ hmax h).mono ?_; rintro e w1 ⟨rfl, hb1⟩; rw [k1'])
    go_ret2
    exact ⟨rfl, hb1⟩

end Go.Proofs.Ytiibamemkmffoaa

/- Walks over functions of this seat, by contract. Conditions: those that each theorem states. -/
import Derived.Test.YtgbblcbpmpokdaaG3
import Derived.Test.YtgbblcbpmpokdaaBase
import Derived.Test.YtgbblcbpmpokdaaApp
import Derived.Laws.IdiomStrings
import Derived.WalkKit
namespace Go.Proofs.Ytgbblcbpmpokdaa
open Go.RowKit Go.Sort

def mdig (k : Nat) (out : List UInt8) : List UInt8 := if k = 0 then out else mdig (k / 10) (UInt8.ofNat (48 + k % 10) :: out)
termination_by k
decreasing_by omega
theorem bcat (a b : List UInt8) : (⟨a.toArray⟩ : ByteArray) ++ ⟨b.toArray⟩ = ⟨(a ++ b).toArray⟩ := by
  apply ByteArray.ext; simp
theorem bcat1 (x : UInt8) (b : List UInt8) : (⟨#[x]⟩ : ByteArray) ++ ⟨b.toArray⟩ = ⟨(x :: b).toArray⟩ := bcat [x] b
def mtext (k : Nat) : ByteArray := ⟨(109 :: mdig k []).toArray⟩
set_option maxHeartbeats 400000 in
theorem laws_markText (K : Nat) (hK0 : 0 < K) (hK : K ≤ 1099511627776) (w : World) :
    Calls Try.prog 59 #[.int .i64 (K : Int)] w fun e w' => e = .returned (.string (mtext K)) ∧ Below w.heap.size w w' := by
  go_enter Try.func59, Try.ntmps59
  go_wp2
  go_loopw [0, 3] (fun kk t wr => ∃ (k : Nat) (out : List UInt8), k + out.length ≤ K ∧ kk = .int .i64 (k : Int) ∧ t = .string ⟨out.toArray⟩ ∧ Hid (mdig k out = mdig K []) ∧ Below w.heap.size w wr) (fun kk _ _ => (intOf kk).toNat)
  case atStart => exact ⟨K, [], by simp, rfl, rfl, Lib.hid rfl, Below.refl _ _⟩
  case round =>
    obtain ⟨k, out, hk, rfl, rfl, Hm, hbel⟩ := hrel
    by_cases hlt : 0 < k
    · have hm1 : (0 : Int) ≤ (k : Int) % 10 := by omega
      have hm2 : (k : Int) % 10 < 10 := by omega
      have hd : 48 + k % 10 < 256 := by omega
      have kc : ∀ W : World, (convert 96 9 (.slice (some ⟨W.heap.size, 0, none⟩) 1 1)).run Try.prog (W.alloc (.cells #[.int .u8 (48 + (k : Int) % 10)] 5)) = .ok (.string ⟨#[UInt8.ofNat (48 + k % 10)]⟩) (W.alloc (.cells #[.int .u8 (48 + (k : Int) % 10)] 5)) := fun W =>
        run_convert_bytes_back (P := Try.prog) _ 96 9 5 ⟨W.heap.size, 0, none⟩ 1 [UInt8.ofNat (48 + k % 10)] Try.underlying96 Try.underlying5 Try.underlying9 (fun j hj => by
          have hj0 : j = 0 := by simpa using hj
          subst hj0
          have ha : (⟨W.heap.size, 0, none⟩ : Addr).add 0 = ⟨W.heap.size, 0, none⟩ := by simp [Addr.add]
          rw [ha, cell_of_row _ _ _ _ _ (0, 0) (heap_alloc_new W _)]
          simp
          omega)
      go_wp2_with fail
      clear kc
      go_roundw
      case rel =>
        refine ⟨k / 10, UInt8.ofNat (48 + k % 10) :: out, by simp; omega, by go_num, ?_, Lib.hid ?_, below_al hbel _⟩
        · rw [bcat1, UInt8.ofNat_add]; rfl
        · rw [← Hm.out]
          conv => rhs; rw [mdig]
          rw [if_neg (by omega)]
      case measure => simp [intOf]; omega
    · have h0 : k = 0 := by omega
      subst h0
      go_wp2
      go_ret
      refine ⟨?_, hbel⟩
      have h1 := Hm.out
      rw [mdig, if_pos rfl] at h1
      rw [bcat1, mtext, h1]
      rfl
def nmLet (x : Int) : Prop := 97 ≤ x ∧ x ≤ 122
def nmOth (x : Int) : Prop := (48 ≤ x ∧ x ≤ 57) ∨ x = 45
def nmGood (x : Int) (j : Nat) : Prop := nmLet x ∨ (nmOth x ∧ 0 < j)
instance (x : Int) (j : Nat) : Decidable (nmGood x j) := by unfold nmGood nmLet nmOth; exact inferInstance
/-- every byte is good at its place -/
def nmAll (s : ByteArray) : Bool := (List.range s.size).all fun j => decide (nmGood ((s.data.toList.getD j 0).toNat : Int) j)
def nameOk (s : ByteArray) : Bool := nmAll s && inR (s.size : Int) 1 12
theorem byte_getD {s : ByteArray} {j : Nat} (h : j < s.size) : s.data.toList.getD j 0 = s[j] := by
  have h' : j < s.data.toList.length := by simpa using h
  rw [List.getD_eq_getElem?_getD, List.getElem?_eq_getElem h']; rfl
theorem nmAll_no {s : ByteArray} {j : Nat} (h : j < s.size) (hb : ¬ nmGood (s[j].toNat : Int) j) : nameOk s = false := by
  have : nmAll s = false := by
    rw [nmAll, List.all_eq_false]
    exact ⟨j, List.mem_range.2 h, by rw [byte_getD h]; simpa using hb⟩
  rw [nameOk, this]; rfl
theorem nmAll_yes {s : ByteArray} (h : ∀ j (hj : j < s.size), nmGood (s[j].toNat : Int) j) : nmAll s = true := by
  rw [nmAll, List.all_eq_true]
  intro j hj
  rw [byte_getD (List.mem_range.1 hj)]
  simpa using h j (List.mem_range.1 hj)
theorem nameOk_of {s : ByteArray} (h : ∀ j (hj : j < s.size), nmGood (s[j].toNat : Int) j) : nameOk s = inR (s.size : Int) 1 12 := by
  rw [nameOk, nmAll_yes h]; rfl
set_option maxHeartbeats 1000000 in
theorem impl_IsName (s : ByteArray) (w : World) (hs : s.size ≤ maxLen) :
    Calls Try.prog 86 #[.string s] w fun e w' => e = .returned (.bool (nameOk s)) ∧ w = w' := by
  unfold maxLen at hs
  go_enter Try.func86, Try.ntmps86
  go_wp2
  go_loop [3] (fun i => ∃ k : Nat, k ≤ s.size ∧ i = .int .i64 k ∧ Hid (∀ j (hj : j < s.size), j < k → nmGood (s[j].toNat : Int) j)) (fun i => s.size - (intOf i).toNat)
  case atStart => exact ⟨0, Nat.zero_le _, rfl, Lib.hid (fun j hj h0 => by omega)⟩
  case round =>
    obtain ⟨k, hk, rfl, Hg⟩ := hrel
    by_cases hlt : k < s.size
    · have step : nmGood (s[k].toNat : Int) k → Hid (∀ j (hj : j < s.size), j < k + 1 → nmGood (s[j].toNat : Int) j) := fun hg j hj hjk => by
        rcases Nat.lt_or_ge j k with h1 | h1
        · exact Hg.out j hj h1
        · have : j = k := by omega
          subst this; exact hg
      have Hstep := Lib.hid step
      clear step
      rcases Nat.eq_zero_or_pos k with hk0 | hk0
      · subst hk0
        have hlt0 : 0 < s.size := hlt
        go_wp2
        all_goals first
          | (exfalso; have hx : (!decide ((s[0].toNat : Int) ≤ 122)) = false := (by assumption); simp at hx; omega)
          | (go_ret; exact ⟨ret_bool (nmAll_no hlt (by unfold nmGood nmLet nmOth; omega)).symm, rfl⟩)
          | (go_round; (case rel => exact ⟨1, by omega, rfl, Hstep.out (by unfold nmGood nmLet nmOth; omega)⟩); (case measure => simp [intOf]; omega))
      · have hz : ((k : Int) == 0) = false := by simp; omega
        go_wp2
        all_goals first
          | (exfalso; have hx : (!decide ((s[k].toNat : Int) ≤ 122)) = false := (by assumption); simp at hx; omega)
          | (go_ret; exact ⟨ret_bool (nmAll_no hlt (by unfold nmGood nmLet nmOth; omega)).symm, rfl⟩)
          | (go_round; (case rel => exact ⟨k + 1, by omega, by go_num, Hstep.out (by unfold nmGood nmLet nmOth; omega)⟩); (case measure => simp [intOf]; omega))
    · have hall := nameOk_of (s := s) (fun j hj => Hg.out j hj (by omega))
      have Hall := Lib.hid hall
      clear hall
      go_wp2_with (go_at_call 56; refine (impl_in _ _ _ _).mono ?_; rintro e w' ⟨rfl, rfl⟩)
      go_ret
      exact ⟨ret_bool Hall.out.symm, rfl⟩
theorem spec_l01Small (x : Int) (w : World) : Calls Try.prog 101 #[.int .u8 x] w fun e w' => e = .returned (.bool (inR x 97 122)) ∧ w = w' := by
  go_enter Try.func101, Try.ntmps101
  go_wp2
  all_goals (go_ret; exact ⟨ret_bool (by simp_all [inR] <;> omega), rfl⟩)
theorem spec_l01Digit (x : Int) (w : World) : Calls Try.prog 102 #[.int .u8 x] w fun e w' => e = .returned (.bool (inR x 48 57)) ∧ w = w' := by
  go_enter Try.func102, Try.ntmps102
  go_wp2
  all_goals (go_ret; exact ⟨ret_bool (by simp_all [inR] <;> omega), rfl⟩)
theorem nameOk_no0 {s : ByteArray} (h : s.size = 0 ∨ 12 < s.size) : nameOk s = false := by
  have : inR (s.size : Int) 1 12 = false := by rw [inR_not]; omega
  rw [nameOk, this, Bool.and_false]
set_option maxHeartbeats 1000000 in
theorem spec_IsName (s : ByteArray) (w : World) (hs : s.size ≤ maxLen) :
    Calls Try.prog 82 #[.string s] w fun e w' => e = .returned (.bool (nameOk s)) ∧ w = w' := by
  unfold maxLen at hs
  rcases Nat.eq_zero_or_pos s.size with h0 | h0
  · obtain rfl : s = ⟨#[]⟩ := by
      have h1 : s.data.size = 0 := h0
      have h2 : s.data = #[] := Array.eq_empty_of_size_eq_zero h1
      cases s; simp at h2; rw [h2]
    rw [nameOk_no0 (.inl rfl)]
    go_enter Try.func82, Try.ntmps82
    go_wp2
    go_ret
    exact ⟨rfl, rfl⟩
  · have hne : ¬ s.toList = [] := by
      rw [ByteArray.toList_eq]; intro h
      have : s.data.size = 0 := by simpa using congrArg List.length h
      have : s.size = 0 := this
      omega
    have hne' : s.toList.isEmpty = false := by cases hx : s.toList with | nil => exact absurd hx hne | cons _ _ => rfl
    by_cases h12 : 12 < s.size
    · rw [nameOk_no0 (.inr h12)]
      go_enter Try.func82, Try.ntmps82
      go_wp2_with fail
      go_ret
      exact ⟨rfl, rfl⟩
    · have h12' : (s.size : Int) ≤ 12 := by omega
      rcases Bool.eq_false_or_eq_true (inR (s[0].toNat : Int) 97 122) with g | g
      · have Hg0 := Lib.hid (inR_iff.1 g)
        go_enter Try.func82, Try.ntmps82
        go_wp2_with (go_at_call 101; refine (spec_l01Small _ _).mono ?_; rintro e w' ⟨rfl, rfl⟩; rw [g])
        clear g
        go_loop [3] (fun i => ∃ k : Nat, k ≤ s.size ∧ i = .int .i64 k ∧ Hid (∀ j (hj : j < s.size), j < k → nmGood (s[j].toNat : Int) j)) (fun i => s.size - (intOf i).toNat)
        case atStart => exact ⟨0, Nat.zero_le _, rfl, Lib.hid (fun j hj h0 => by omega)⟩
        case round =>
          obtain ⟨k, hk, rfl, Hg⟩ := hrel
          by_cases hlt : k < s.size
          · have step : nmGood (s[k].toNat : Int) k → Hid (∀ j (hj : j < s.size), j < k + 1 → nmGood (s[j].toNat : Int) j) := fun hg j hj hjk => by
              rcases Nat.lt_or_ge j k with h1 | h1
              · exact Hg.out j hj h1
              · have : j = k := by omega
                subst this; exact hg
            have Hstep := Lib.hid step
            have H0 : Hid (k = 0 → nmLet (s[k].toNat : Int)) := fun h => by subst h; exact Hg0.out
            clear step
            obtain ⟨x, hx⟩ : ∃ x : Int, x = (s[k].toNat : Int) := ⟨_, rfl⟩
            rw [← hx] at Hstep H0
            have Hx := Lib.hid hx
            have hxx : (s[k].toNat : Int) = x := hx.symm
            clear hx
            rcases Bool.eq_false_or_eq_true (inR x 97 122) with g1 | g1
            · go_wp2_with (go_at_call 101; refine (spec_l01Small _ _).mono ?_; rintro e w' ⟨rfl, rfl⟩; rw [g1])
              go_round
              case rel => exact ⟨k + 1, by omega, by go_num, Hstep.out (.inl (inR_iff.1 g1))⟩
              case measure => simp [intOf]; omega
            · rcases Bool.eq_false_or_eq_true (inR x 48 57) with g2 | g2
              · go_wp2_with (first
                  | (go_at_call 101; refine (spec_l01Small _ _).mono ?_; rintro e w' ⟨rfl, rfl⟩; rw [g1])
                  | (go_at_call 102; refine (spec_l01Digit _ _).mono ?_; rintro e w' ⟨rfl, rfl⟩; rw [g2]))
                go_round
                case rel => exact ⟨k + 1, by omega, by go_num, Hstep.out (by
                    have a1 := inR_not.1 g1
                    have a2 := inR_iff.1 g2
                    have a3 := H0.out
                    rcases Nat.eq_zero_or_pos k with hk0 | hk0
                    · exact .inl (a3 hk0)
                    · exact .inr ⟨.inl a2, hk0⟩)⟩
                case measure => simp [intOf]; omega
              · go_wp2_with (first
                  | (go_at_call 101; refine (spec_l01Small _ _).mono ?_; rintro e w' ⟨rfl, rfl⟩; rw [g1])
                  | (go_at_call 102; refine (spec_l01Digit _ _).mono ?_; rintro e w' ⟨rfl, rfl⟩; rw [g2]))
                · have hb : ¬ nmGood x k := by
                    have a1 := inR_not.1 g1
                    have a2 := inR_not.1 g2
                    unfold nmGood nmLet nmOth
                    rintro (h1 | ⟨h1 | h1, _⟩)
                    · omega
                    · omega
                    · have hq : (x != 45) = true := by assumption
                      simp [h1] at hq
                  go_ret
                  rw [Hx.out] at hb
                  exact ⟨ret_bool (nmAll_no hlt hb).symm, rfl⟩
                · have hq : x = 45 := by first | assumption | (have hq : (x != 45) = false := by assumption
                                                               simpa using hq)
                  go_round
                  case rel => exact ⟨k + 1, by omega, by go_num, Hstep.out (by
                      rcases Nat.eq_zero_or_pos k with hk0 | hk0
                      · exact .inl (H0.out hk0)
                      · exact .inr ⟨.inr hq, hk0⟩)⟩
                  case measure => simp [intOf]; omega
          · have hall := nameOk_of (s := s) (fun j hj => Hg.out j hj (by omega))
            have Hall := Lib.hid hall
            clear hall
            go_wp2
            go_ret
            exact ⟨ret_bool (by rw [Hall.out]; symm; rw [inR_iff]; omega), rfl⟩
      · have hb : ¬ nmGood (s[0].toNat : Int) 0 := by
          have := inR_not.1 g
          unfold nmGood nmLet nmOth; omega
        rw [nmAll_no h0 hb]
        clear hb
        go_enter Try.func82, Try.ntmps82
        go_wp2_with (go_at_call 101; refine (spec_l01Small _ _).mono ?_; rintro e w' ⟨rfl, rfl⟩; rw [g])
        go_ret
        exact ⟨rfl, rfl⟩

end Go.Proofs.Ytgbblcbpmpokdaa

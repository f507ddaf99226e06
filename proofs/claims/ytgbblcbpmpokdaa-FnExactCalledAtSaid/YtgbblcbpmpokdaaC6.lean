/- Walks over functions of this seat, by contract. Conditions: those that each theorem states. -/
import Derived.Test.YtgbblcbpmpokdaaC5
namespace Go.Proofs.Ytgbblcbpmpokdaa
open Go.RowKit Go.Sort

/-- own strings elsewhere outlive the marks -/
def Keeps (w w' : World) (rs : List R3) : Prop := ∀ (b : Nat) (u : Value) (us : List ByteArray), Own w b 9 1 scell u us → (∀ r ∈ rs, u.ownBlock = none ∨ u.ownBlock ≠ r.v.ownBlock) → Own w' b 9 1 scell u us
theorem ne_sym {a b : Option Nat} (h : a = none ∨ a ≠ b) : b = none ∨ b ≠ a := by
  rcases h with rfl | h
  · cases b <;> simp
  · exact .inr h.symm
set_option maxHeartbeats 1000000 in
theorem laws_markStringSS (base : Nat) (A : Option Addr) (n c : Nat) (rs : List R3) (L : List (List ByteArray)) (w : World) (hmax : n ≤ 1048576) (hl : rsum L ≤ 1048576) (hr : ∀ r ∈ rs, r.n ≤ 1048576) (hb : base ≤ w.heap.size) (h : OS w base (.slice A n c) rs L) :
    Calls Try.prog 28 #[.slice A n c, .int .i64 1] w fun e w' => e = .returned (.int .i64 (1 + (rsum L : Int))) ∧ Keeps w w' rs ∧ Below base w w' := by
  have Hn := Lib.hid (own_sl h.own rcell_len).len
  have HO := Lib.hid h
  have HLn := Lib.hid h.rows.len
  clear h
  go_enter Try.func28, Try.ntmps28
  go_wp2
  go_loopw [1, 5] (fun kk i wr => ∃ k : Nat, k ≤ n ∧ i = .int .i64 k ∧ kk = .int .i64 (1 + (rsum (L.take k) : Int)) ∧ Hid (Own wr base 45 1 rcell (.slice A n c) rs) ∧
    Hid (∀ (j : Nat) r l, k ≤ j → rs[j]? = some r → L[j]? = some l → Own wr base 9 1 scell r.v l) ∧ Hid (Keeps w wr rs) ∧ Hid (Below base w wr)) (fun _ i _ => n - (intOf i).toNat)
  case atStart => exact ⟨0, by omega, rfl, by simp [rsum], Lib.hid HO.out.own, Lib.hid (fun j r l _ h1 h2 => HO.out.rows.row j r l h1 h2), Lib.hid (fun b u us ho _ => ho), Lib.hid (Below.refl _ _)⟩
  case round =>
    obtain ⟨k, hk, rfl, rfl, HOn, HRw, HK, HB⟩ := hrel
    by_cases hlt : k < n
    · obtain ⟨b, off, rfl, hbb, H⟩ := (own_sl HOn.out rcell_len).at_ (by omega)
      obtain ⟨r, hrk⟩ := (own_sl HOn.out rcell_len).get hlt
      obtain ⟨l, hlk⟩ : ∃ l, L[k]? = some l := ⟨L[k]'(by rw [← HLn.out, Hn.out]; exact hlt), List.getElem?_eq_getElem _⟩
      have c0 := H.r1 hrk
      have ho := HRw.out k r l (Nat.le_refl _) hrk hlk
      have hs := rsum_take hlk
      have Hlk := Lib.hid hlk
      have Hrk := Lib.hid hrk
      have HOr := Lib.hid ho
      have hll : l.length = r.n := by obtain ⟨A1, n1, c1, e, h1, _⟩ := own_shape ho; injection e with _ e2 _; omega
      clear hs hlk hrk ho c0
      have c0 := H.r1 Hrk.out
      have hle : (rsum (L.take k) : Int) ≤ 1048576 := by
        have : rsum (L.take k) ≤ rsum L := by
          have h1 : rsum L = rsum (L.take k) + rsum (L.drop k) := by unfold rsum; rw [← List.sum_append, ← List.map_append, List.take_append_drop]
          omega
        omega
      have hrn := hr r (List.mem_of_getElem? Hrk.out)
      go_wp2_with fail
      refine (laws_markStringS base r.n r.v _ (1 + (rsum (L.take k) : Int)) _ hrn (by omega) (by omega) (by have h9 := HOr.out; unfold Own at h9; rw [hll] at h9; exact h9)).mono ?_
      rintro e w1 ⟨rfl, _, hg⟩
      go_wp2_with fail
      go_roundw
      case rel => exact ⟨k + 1, by omega, by go_num, congrArg (Value.int .i64) (by rw [rsum_take Hlk.out, hll]; omega), Lib.hid (own_other HOn.out (ne_sym (HO.out.rows.out r (List.mem_of_getElem? Hrk.out))) hg),
        Lib.hid (fun j q m hj h1 h2 => own_other (HRw.out j q m (by omega) h1 h2) (HO.out.rows.apt j k q r (by omega) h1 Hrk.out) hg),
        Lib.hid (fun b u us ho hne => own_other (HK.out b u us ho hne) (hne r (List.mem_of_getElem? Hrk.out)) hg), Lib.hid (own_grown HB.out HOr.out (Nat.le_refl _) (Nat.le_trans hb HB.out.size) hg)⟩
      case measure => simp [intOf]; omega
    · have hkn : k = n := by omega
      subst hkn
      have hL : L.take k = L := List.take_of_length_le (by rw [← HLn.out, Hn.out]; omega)
      rw [hL]
      go_wp2
      go_ret
      exact ⟨rfl, HK.out, HB.out⟩

end Go.Proofs.Ytgbblcbpmpokdaa

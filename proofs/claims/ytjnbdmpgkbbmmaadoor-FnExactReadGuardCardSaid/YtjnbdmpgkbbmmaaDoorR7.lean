/- Walks over functions of this seat, by contract. Conditions: those that each theorem states. -/
import Derived.Test.YtjnbdmpgkbbmmaaDoorR6
namespace Go.Proofs.YtjnbdmpgkbbmmaaDoor
open Go.RowKit Go.Sort

theorem bs_cat (a b : List UInt8) : bs a ++ bs b = bs (a ++ b) := by
  unfold bs
  exact ByteArray.ext (by simp)
def dgB (x : UInt8) : Bool := dgP x.toNat
theorem dgB_dig {u : Nat} : ∀ x ∈ Lib.decDigits u, dgB x = false := fun x hx => by
  have := dig_ne u x hx
  unfold dgB dgP
  rw [decide_eq_false (by omega), decide_eq_false (by omega)]
  simp
theorem dig_32 {u : Nat} : ∀ x ∈ Lib.decDigits u, x ≠ 32 := fun x hx h => by
  have := dig_ne u x hx; subst h; exact absurd this.1 (by decide)
theorem dig_nil (u : Nat) : Lib.decDigits u ≠ [] := by rw [Lib.decDigits]; split <;> simp
/-- the text of a parcel, its numbers given by their digits -/
def ptD (a b c d : List UInt8) : List UInt8 := 35 :: (a ++ 32 :: ([111, 119, 110, 101, 114] ++ 32 :: (b ++ 32 :: ([97, 114, 101, 97] ++ 32 :: (c ++ 32 :: ([99, 108, 97, 115, 115] ++ 32 :: d))))))
theorem parcelTxt_pt (q : Q4) : parcelTxt q = bs (ptD (Lib.itoa q.a) (Lib.itoa q.b) (Lib.itoa q.c) (Lib.itoa q.d)) := by
  have h1 : (⟨#[35]⟩ : ByteArray) = bs [35] := rfl
  have h2 : (⟨#[32, 111, 119, 110, 101, 114, 32]⟩ : ByteArray) = bs [32, 111, 119, 110, 101, 114, 32] := rfl
  have h3 : (⟨#[32, 97, 114, 101, 97, 32]⟩ : ByteArray) = bs [32, 97, 114, 101, 97, 32] := rfl
  have h4 : (⟨#[32, 99, 108, 97, 115, 115, 32]⟩ : ByteArray) = bs [32, 99, 108, 97, 115, 115, 32] := rfl
  unfold parcelTxt ptD
  rw [h1, h2, h3, h4]
  simp only [bs_cat]
  congr 1
  simp
theorem parcel_nat {q : Q4} (h : parcelOk q = true) : ∃ a b c d : Nat, q = ⟨a, b, c, d⟩ ∧ a < 1000000000000000000 ∧ b < 1000000000000000000 ∧ c < 1000000000000000000 ∧ d < 1000000000000000000 := by
  obtain ⟨⟨a1, a2⟩, ⟨b1, b2⟩, ⟨c1, c2⟩, d1, d2⟩ := parcelOk_iff.1 h
  obtain ⟨a, b, c, d⟩ := q
  refine ⟨a.toNat, b.toNat, c.toNat, d.toNat, ?_, by simp only at *; omega, by simp only at *; omega, by simp only at *; omega, by simp only at *; omega⟩
  simp only at a1 b1 c1 d1
  rw [Int.toNat_of_nonneg (by omega), Int.toNat_of_nonneg (by omega), Int.toNat_of_nonneg (by omega), Int.toNat_of_nonneg (by omega)]
theorem spl_pt (a b c d : Nat) : spl 32 (ptD (Lib.decDigits a) (Lib.decDigits b) (Lib.decDigits c) (Lib.decDigits d)) = [35 :: Lib.decDigits a, [111, 119, 110, 101, 114], Lib.decDigits b, [97, 114, 101, 97], Lib.decDigits c, [99, 108, 97, 115, 115], Lib.decDigits d] := by
  unfold ptD
  rw [← List.cons_append, spl_app (a := 35 :: Lib.decDigits a) (fun x hx => by
    rcases List.mem_cons.1 hx with rfl | hx
    · decide
    · exact dig_32 x hx), spl_app (by decide), spl_app dig_32, spl_app (by decide), spl_app dig_32, spl_app (by decide), spl_none dig_32]
theorem readP_text {a b c d : Nat} (h : parcelOk ⟨a, b, c, d⟩ = true) (ha : a < 1000000000000000000) (hb : b < 1000000000000000000) (hc : c < 1000000000000000000) (hd : d < 1000000000000000000) :
    readP (spl 32 (ptD (Lib.decDigits a) (Lib.decDigits b) (Lib.decDigits c) (Lib.decDigits d))) = some ⟨a, b, c, d⟩ := by
  rw [spl_pt, readP_in ⟨by have := List.length_pos_iff.2 (dig_nil a); simp only [List.length_cons]; omega, rfl⟩, List.tail_cons, nmF_dec ha, nmF_dec hb, nmF_dec hc, nmF_dec hd]
  simp [h]
theorem fl_pt (a b c d : Nat) : fl dgB none (ptD (Lib.decDigits a) (Lib.decDigits b) (Lib.decDigits c) (Lib.decDigits d)) = [Lib.decDigits a, Lib.decDigits b, Lib.decDigits c, Lib.decDigits d] := by
  have e : ptD (Lib.decDigits a) (Lib.decDigits b) (Lib.decDigits c) (Lib.decDigits d) = [35] ++ (Lib.decDigits a ++ 32 :: ([111, 119, 110, 101, 114, 32] ++ (Lib.decDigits b ++ 32 :: ([97, 114, 101, 97, 32] ++ (Lib.decDigits c ++ 32 :: ([99, 108, 97, 115, 115, 32] ++ Lib.decDigits d)))))) := by
    unfold ptD; simp
  rw [e, fl_sep dgB _ _ (by decide), fl_step dgB _ _ _ (dig_nil a) dgB_dig (by decide), fl_sep dgB _ _ (by decide), fl_step dgB _ _ _ (dig_nil b) dgB_dig (by decide), fl_sep dgB _ _ (by decide), fl_step dgB _ _ _ (dig_nil c) dgB_dig (by decide), fl_sep dgB _ _ (by decide), fl_last dgB _ (dig_nil d) dgB_dig]
theorem pt_ascii (a b c d : Nat) : ∀ x ∈ ptD (Lib.decDigits a) (Lib.decDigits b) (Lib.decDigits c) (Lib.decDigits d), x.toNat < 128 := by
  have hd : ∀ u : Nat, ∀ x ∈ Lib.decDigits u, x.toNat < 128 := fun u x hx => by have := dig_ne u x hx; omega
  have h : ∀ k : UInt8, k.toNat < 128 → ∀ l : List UInt8, (∀ x ∈ l, x.toNat < 128) → ∀ x ∈ k :: l, x.toNat < 128 := fun k hk l hl x hx => by
    rcases List.mem_cons.1 hx with rfl | hx
    · exact hk
    · exact hl x hx
  have h2 : ∀ m l : List UInt8, (∀ x ∈ m, x.toNat < 128) → (∀ x ∈ l, x.toNat < 128) → ∀ x ∈ m ++ l, x.toNat < 128 := fun m l hm hl x hx => by
    rcases List.mem_append.1 hx with hx | hx
    · exact hm x hx
    · exact hl x hx
  unfold ptD
  refine h _ (by decide) _ (h2 _ _ (hd a) (h _ (by decide) _ (h2 _ _ (by decide) (h _ (by decide) _ (h2 _ _ (hd b) (h _ (by decide) _ (h2 _ _ (by decide) (h _ (by decide) _ (h2 _ _ (hd c) (h _ (by decide) _ (h2 _ _ (by decide) (h _ (by decide) _ (hd d)))))))))))))
theorem nums_pt {a b c d : Nat} (ha : a < 1000000000000000000) (hb : b < 1000000000000000000) (hc : c < 1000000000000000000) (hd : d < 1000000000000000000) :
    numsOf (ptD (Lib.decDigits a) (Lib.decDigits b) (Lib.decDigits c) (Lib.decDigits d)) = [(a : Int), b, c, d] := by
  unfold numsOf
  rw [goFields_fl dgP dgB (fun _ => rfl) _ (pt_ascii a b c d), fl_pt]
  simp only [List.map, nums, bs_list, rdF_dec ha, rdF_dec hb, rdF_dec hc, rdF_dec hd]
  rfl
theorem giveP_text {a b c d : Nat} (h : parcelOk ⟨a, b, c, d⟩ = true) (ha : a < 1000000000000000000) (hb : b < 1000000000000000000) (hc : c < 1000000000000000000) (hd : d < 1000000000000000000) :
    giveP (ptD (Lib.decDigits a) (Lib.decDigits b) (Lib.decDigits c) (Lib.decDigits d)) = some ⟨a, b, c, d⟩ := by
  rw [giveP_four (nums_pt ha hb hc hd), if_pos ⟨h, by rw [parcelTxt_pt]; simp only [Lib.itoa_nonneg]⟩]
theorem readP_sound {l : List UInt8} {q : Q4} (h : readP (spl 32 l) = some q) : parcelOk q = true ∧ l = ptD (Lib.itoa q.a) (Lib.itoa q.b) (Lib.itoa q.c) (Lib.itoa q.d) := by
  have hj := jn_spl 32 l
  obtain ⟨ws, hws⟩ : ∃ ws, spl 32 l = ws := ⟨_, rfl⟩
  rw [hws] at h hj
  unfold readP at h
  split at h
  · rename_i a0 a1 a2 a3 a4 a5 a6
    split at h
    · rename_i hc
      obtain ⟨h1, h3, h5, h0, hx⟩ := hc
      split at h
      · rename_i a b c d n1 n2 n3 n4
        split at h
        · rename_i hok
          injection h with h
          subst h
          refine ⟨hok, ?_⟩
          rw [nmF_sound n1, nmF_sound n2, nmF_sound n3, nmF_sound n4, ← hj, h1, h3, h5]
          cases a0 with
          | nil => simp at hx
          | cons x r =>
            simp only [List.head?_cons, Option.some.injEq] at hx
            subst hx
            simp [jn, ptD]
        · cases h
      · cases h
    · cases h
  · cases h
theorem giveP_sound {l : List UInt8} {q : Q4} (h : giveP l = some q) : parcelOk q = true ∧ l = ptD (Lib.itoa q.a) (Lib.itoa q.b) (Lib.itoa q.c) (Lib.itoa q.d) := by
  unfold giveP at h
  split at h
  · split at h
    · rename_i hc
      injection h with h
      subst h
      refine ⟨hc.1, ?_⟩
      have := hc.2
      rw [parcelTxt_pt] at this
      exact (bs_inj this).symm
    · cases h
  · cases h
theorem parcels_read (l : List UInt8) : giveP l = readP (spl 32 l) := by
  cases hs : readP (spl 32 l) with
  | some q =>
    obtain ⟨hok, hl⟩ := readP_sound hs
    obtain ⟨a, b, c, d, rfl, ha, hb, hc, hd⟩ := parcel_nat hok
    simp only [Lib.itoa_nonneg] at hl
    rw [hl, giveP_text hok ha hb hc hd]
  | none =>
    cases hg : giveP l with
    | none => rfl
    | some q =>
      obtain ⟨hok, hl⟩ := giveP_sound hg
      obtain ⟨a, b, c, d, rfl, ha, hb, hc, hd⟩ := parcel_nat hok
      simp only [Lib.itoa_nonneg] at hl
      rw [hl, readP_text hok ha hb hc hd] at hs
      cases hs

end Go.Proofs.YtjnbdmpgkbbmmaaDoor

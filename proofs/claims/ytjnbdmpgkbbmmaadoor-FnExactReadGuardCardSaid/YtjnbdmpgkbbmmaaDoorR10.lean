/- Walks over functions of this seat, by contract. Conditions: those that each theorem states. -/
import Derived.Test.YtjnbdmpgkbbmmaaDoorR9
namespace Go.Proofs.YtjnbdmpgkbbmmaaDoor
open Go.RowKit Go.Sort

def gtD (s a b : List UInt8) : List UInt8 := s ++ 32 :: (a ++ 46 :: 46 :: b)
theorem guardTxt_gt (s : List UInt8) (a b : Int) : guardTxt ⟨bs s, a, b⟩ = bs (gtD s (Lib.itoa a) (Lib.itoa b)) := by
  have h1 : (⟨#[32]⟩ : ByteArray) = bs [32] := rfl
  have h2 : (⟨#[46, 46]⟩ : ByteArray) = bs [46, 46] := rfl
  unfold guardTxt gtD
  rw [h1, h2]
  simp only [bs_cat]
  congr 1
  simp
theorem name_32 {s : List UInt8} (h : nameOk (bs s) = true) : ∀ x ∈ s, x ≠ 32 := by
  intro x hx h32
  subst h32
  obtain ⟨j, hj, he⟩ := List.mem_iff_getElem.1 hx
  unfold nameOk at h
  rw [Bool.and_eq_true] at h
  have h1 := h.1
  unfold nmAll at h1
  rw [List.all_eq_true] at h1
  have h2 := h1 j (List.mem_range.2 (by rw [bs_size]; exact hj))
  rw [bs_list, List.getD_eq_getElem?_getD, List.getElem?_eq_getElem hj, he] at h2
  have h3 := of_decide_eq_true h2
  unfold nmGood nmLet nmOth at h3
  have h4 : ((Option.getD (some (32 : UInt8)) 0).toNat : Int) = 32 := rfl
  rw [h4] at h3
  omega
theorem dig_46 {u : Nat} : ∀ x ∈ Lib.decDigits u, x ≠ 46 := fun x hx h => by
  have := dig_ne u x hx; subst h; exact absurd this.1 (by decide)
theorem rest_32 (a b : Nat) : ∀ x ∈ Lib.decDigits a ++ 46 :: 46 :: Lib.decDigits b, x ≠ 32 := by
  intro x hx
  rcases List.mem_append.1 hx with hx | hx
  · exact dig_32 x hx
  · rcases List.mem_cons.1 hx with rfl | hx
    · decide
    · rcases List.mem_cons.1 hx with rfl | hx
      · decide
      · exact dig_32 x hx
theorem rest_ascii (a b : Nat) : ∀ x ∈ Lib.decDigits a ++ 46 :: 46 :: Lib.decDigits b, x.toNat < 128 := by
  have hd : ∀ u : Nat, ∀ x ∈ Lib.decDigits u, x.toNat < 128 := fun u x hx => by have := dig_ne u x hx; omega
  intro x hx
  rcases List.mem_append.1 hx with hx | hx
  · exact hd a x hx
  · rcases List.mem_cons.1 hx with rfl | hx
    · decide
    · rcases List.mem_cons.1 hx with rfl | hx
      · decide
      · exact hd b x hx
theorem spl_gt {s : List UInt8} (h : ∀ x ∈ s, x ≠ 32) (a b : Nat) : spl 32 (gtD s (Lib.decDigits a) (Lib.decDigits b)) = [s, Lib.decDigits a ++ 46 :: 46 :: Lib.decDigits b] := by
  unfold gtD
  rw [spl_app h, spl_none (rest_32 a b)]
theorem spl_dots (a b : Nat) : spl 46 (Lib.decDigits a ++ 46 :: 46 :: Lib.decDigits b) = [Lib.decDigits a, [], Lib.decDigits b] := by
  have e : spl 46 (46 :: Lib.decDigits b) = [] :: spl 46 (Lib.decDigits b) := spl_app (a := []) (b := Lib.decDigits b) (fun x hx => by cases hx)
  rw [spl_app dig_46, e, spl_none dig_46]
theorem readG_text {s : List UInt8} {a b : Nat} (h : guardOk ⟨bs s, a, b⟩ = true) (ha : a < 1000000000000000000) (hb : b < 1000000000000000000) :
    readG (spl 32 (gtD s (Lib.decDigits a) (Lib.decDigits b))) = some ⟨bs s, a, b⟩ := by
  rw [spl_gt (name_32 (guardOk_iff.1 h).1)]
  show readD s (spl 46 _) = _
  rw [spl_dots, readD_in, nmF_dec ha, nmF_dec hb]
  simp [h]
theorem cut_gt {s R : List UInt8} (h : ∀ x ∈ s, x ≠ 32) : Lib.cut (s ++ 32 :: R) [32] = (s, R, true) := by
  have hi : Lib.index (s ++ 32 :: R) [32] = (s.length : Int) := by
    refine Lib.index_first (by simp) ?_ ?_
    · simp [Lib.occAt]
    · intro j hj
      have hne := h s[j] (List.getElem_mem hj)
      have hd : (s ++ 32 :: R).drop j = s[j] :: (s.drop (j + 1) ++ 32 :: R) := by
        rw [List.drop_append_of_le_length (by omega), List.drop_eq_getElem_cons hj, List.cons_append]
      have hbq : ((32 : UInt8) == s[j]) = false := by rw [beq_eq_false_iff_ne]; exact fun e => hne e.symm
      show List.isPrefixOf [32] ((s ++ 32 :: R).drop j) = false
      rw [hd]
      simp only [List.isPrefixOf, hbq, Bool.false_and]
  unfold Lib.cut
  rw [hi, if_pos (by omega)]
  simp
theorem nums_dots {a b : Nat} (ha : a < 1000000000000000000) (hb : b < 1000000000000000000) : numsOf (Lib.decDigits a ++ 46 :: 46 :: Lib.decDigits b) = [(a : Int), b] := by
  unfold numsOf
  have e : Lib.decDigits a ++ 46 :: 46 :: Lib.decDigits b = Lib.decDigits a ++ 46 :: ([46] ++ Lib.decDigits b) := rfl
  rw [goFields_fl dgP dgB (fun _ => rfl) _ (rest_ascii a b), e, fl_step dgB _ _ _ (dig_nil a) dgB_dig (by decide), fl_sep dgB _ _ (by decide), fl_last dgB _ (dig_nil b) dgB_dig]
  simp only [List.map, nums, bs_list, rdF_dec ha, rdF_dec hb]
  rfl
theorem giveG_text {s : List UInt8} {a b : Nat} (h : guardOk ⟨bs s, a, b⟩ = true) (ha : a < 1000000000000000000) (hb : b < 1000000000000000000) :
    giveG (gtD s (Lib.decDigits a) (Lib.decDigits b)) = some ⟨bs s, a, b⟩ := by
  have hc : Lib.cut (gtD s (Lib.decDigits a) (Lib.decDigits b)) [32] = (s, Lib.decDigits a ++ 46 :: 46 :: Lib.decDigits b, true) := cut_gt (name_32 (guardOk_iff.1 h).1)
  have hs : cutS (gtD s (Lib.decDigits a) (Lib.decDigits b)) = s := by unfold cutS; rw [hc]
  have hr : cutR (gtD s (Lib.decDigits a) (Lib.decDigits b)) = Lib.decDigits a ++ 46 :: 46 :: Lib.decDigits b := by unfold cutR; rw [hc]
  rw [giveG_two (by rw [hr]; exact nums_dots ha hb), hs, if_pos ⟨h, by rw [guardTxt_gt]; simp only [Lib.itoa_nonneg]⟩]
theorem readG_sound {l : List UInt8} {q : G3} (h : readG (spl 32 l) = some q) : ∃ s, q.s = bs s ∧ guardOk q = true ∧ l = gtD s (Lib.itoa q.a) (Lib.itoa q.b) := by
  have hj := jn_spl 32 l
  obtain ⟨ws, hws⟩ : ∃ ws, spl 32 l = ws := ⟨_, rfl⟩
  rw [hws] at h hj
  unfold readG at h
  split at h
  · rename_i s u
    have hk := jn_spl 46 u
    obtain ⟨ds, hds⟩ : ∃ ds, spl 46 u = ds := ⟨_, rfl⟩
    rw [hds] at h hk
    unfold readD at h
    split at h
    · rename_i b0 b1 b2
      split at h
      · rename_i h1
        split at h
        · rename_i a b n1 n2
          split at h
          · rename_i hok
            injection h with h
            subst h
            refine ⟨s, rfl, hok, ?_⟩
            rw [nmF_sound n1, nmF_sound n2, ← hj, ← hk, h1]
            simp [jn, gtD]
          · cases h
        · cases h
      · cases h
    · cases h
  · cases h
theorem giveG_sound {l : List UInt8} {q : G3} (h : giveG l = some q) : ∃ s, q.s = bs s ∧ guardOk q = true ∧ l = gtD s (Lib.itoa q.a) (Lib.itoa q.b) := by
  unfold giveG at h
  split at h
  · split at h
    · rename_i hc
      injection h with h
      subst h
      refine ⟨_, rfl, hc.1, ?_⟩
      have := hc.2
      rw [guardTxt_gt] at this
      exact (bs_inj this).symm
    · cases h
  · cases h
theorem guard_nat {q : G3} {s : List UInt8} (hs : q.s = bs s) (h : guardOk q = true) : ∃ a b : Nat, q = ⟨bs s, a, b⟩ ∧ a < 1000000000000000000 ∧ b < 1000000000000000000 := by
  obtain ⟨_, a1, a2, a3⟩ := guardOk_iff.1 h
  obtain ⟨t, a, b⟩ := q
  simp only at hs a1 a2 a3
  subst hs
  refine ⟨a.toNat, b.toNat, ?_, by omega, by omega⟩
  rw [Int.toNat_of_nonneg (by omega), Int.toNat_of_nonneg (by omega)]
theorem guards_read (l : List UInt8) : giveG l = readG (spl 32 l) := by
  cases hs : readG (spl 32 l) with
  | some q =>
    obtain ⟨s, hq, hok, hl⟩ := readG_sound hs
    obtain ⟨a, b, rfl, ha, hb⟩ := guard_nat hq hok
    simp only [Lib.itoa_nonneg] at hl
    rw [hl, giveG_text hok ha hb]
  | none =>
    cases hg : giveG l with
    | none => rfl
    | some q =>
      obtain ⟨s, hq, hok, hl⟩ := giveG_sound hg
      obtain ⟨a, b, rfl, ha, hb⟩ := guard_nat hq hok
      simp only [Lib.itoa_nonneg] at hl
      rw [hl, readG_text hok ha hb] at hs
      cases hs

end Go.Proofs.YtjnbdmpgkbbmmaaDoor

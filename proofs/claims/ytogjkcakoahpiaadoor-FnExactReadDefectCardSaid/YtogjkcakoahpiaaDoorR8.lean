/- Walks over functions of this seat, by contract. Conditions: those that each theorem states. -/
import Derived.Test.YtogjkcakoahpiaaDoorR6
import Derived.Test.YtogjkcakoahpiaaDoorR7
namespace Go.Proofs.YtogjkcakoahpiaaDoor
open Go.RowKit Go.Sort

theorem bs_cat (a b : List UInt8) : bs a ++ bs b = bs (a ++ b) := by
  unfold bs
  exact ByteArray.ext (by simp)
def dgB (x : UInt8) : Bool := dgP x.toNat
theorem dgB_dig {u : Nat} : ∀ x ∈ Lib.decDigits u, dgB x = false := fun x hx => by
  have := dig_ne u x hx
  unfold dgB dgP
  rw [decide_eq_false (by omega), decide_eq_false (by omega)]
  simp
theorem dig_32 {u : Nat} : ∀ x ∈ Lib.decDigits u, x ≠ 32 := fun x hx h => by
  have := dig_ne u x hx; subst h; exact absurd this.1 (by decide)
theorem dig_nil (u : Nat) : Lib.decDigits u ≠ [] := by rw [Lib.decDigits]; split <;> simp
def kL (b : Int) : List UInt8 := kLits.getD (b - 1).toNat []
theorem kName_kL (b : Int) : kName b = bs (kL b) := by
  unfold kName kL
  generalize (b - 1).toNat = j
  match j with
  | 0 => rfl
  | 1 => rfl
  | 2 => rfl
  | 3 => rfl
  | 4 => rfl
  | j + 5 => simp [kNames, kLits, bs]
theorem kL_all {p : UInt8 → Prop} (b : Int) (h : ∀ l ∈ kLits, ∀ x ∈ l, p x) : ∀ x ∈ kL b, p x := by
  unfold kL
  intro x hx
  rw [List.getD_eq_getElem?_getD] at hx
  cases hg : kLits[(b - 1).toNat]? with
  | none => rw [hg] at hx; simp at hx
  | some y => rw [hg] at hx; exact h y (List.mem_of_getElem? hg) x hx
theorem kTo_kL (b : Int) (h1 : 1 ≤ b) (h2 : b ≤ 5) : kTo (kL b) 5 = b := by
  have h : b = 1 ∨ b = 2 ∨ b = 3 ∨ b = 4 ∨ b = 5 := by omega
  rcases h with rfl | rfl | rfl | rfl | rfl <;> decide
theorem kTo_sound (t : List UInt8) : ∀ n : Nat, 1 ≤ kTo t n → kL (kTo t n) = t := by
  intro n
  induction n with
  | zero => intro h; simp [kTo] at h
  | succ n ih =>
    intro h
    rw [kTo] at h ⊢
    split
    · rename_i he
      unfold kL
      rw [show ((n : Int) + 1 - 1).toNat = n from by omega]; exact he
    · rename_i he
      rw [if_neg he] at h
      exact ih h
/-- a defect's text, its numbers and its kind given by their bytes -/
def ftD (a k c : List UInt8) : List UInt8 := (a ++ [109]) ++ 32 :: (k ++ 32 :: ([102, 111, 117, 110, 100] ++ 32 :: c))
def ftM (a k c d : List UInt8) : List UInt8 := (a ++ [109]) ++ 32 :: (k ++ 32 :: ([102, 111, 117, 110, 100] ++ 32 :: (c ++ 32 :: ([109, 101, 110, 100, 101, 100] ++ 32 :: d))))
def textOf (q : Q4) : List UInt8 := if q.d = 0 then ftD (Lib.itoa q.a) (kL q.b) (Lib.itoa q.c) else ftM (Lib.itoa q.a) (kL q.b) (Lib.itoa q.c) (Lib.itoa q.d)
theorem defTxt_text (q : Q4) : defTxt q = bs (textOf q) := by
  have h1 : (⟨#[109, 32]⟩ : ByteArray) = bs [109, 32] := rfl
  have h2 : (⟨#[32, 102, 111, 117, 110, 100, 32]⟩ : ByteArray) = bs [32, 102, 111, 117, 110, 100, 32] := rfl
  have h3 : (⟨#[32, 109, 101, 110, 100, 101, 100, 32]⟩ : ByteArray) = bs [32, 109, 101, 110, 100, 101, 100, 32] := rfl
  unfold defTxt defTxt1 textOf
  rw [h1, h2, h3, kName_kL]
  by_cases hd : q.d = 0
  · rw [if_pos hd, if_pos hd]
    simp only [bs_cat]
    congr 1
    simp [ftD]
  · rw [if_neg hd, if_neg hd]
    simp only [bs_cat]
    congr 1
    simp [ftM]
theorem defect_nat {q : Q4} (h : defectOk q = true) : ∃ a c d : Nat, ∃ b : Int, q = ⟨a, b, c, d⟩ ∧ 1 ≤ b ∧ b ≤ 5 ∧ a < 1000000000000000000 ∧ c < 1000000000000000000 ∧ d < 1000000000000000000 := by
  obtain ⟨⟨a1, a2⟩, ⟨b1, b2⟩, ⟨c1, c2⟩, d1⟩ := defectOk_iff.1 h
  obtain ⟨a, b, c, d⟩ := q
  simp only at a1 a2 b1 b2 c1 c2 d1
  refine ⟨a.toNat, c.toNat, d.toNat, b, ?_, b1, b2, by omega, by omega, by omega⟩
  rw [Int.toNat_of_nonneg (by omega), Int.toNat_of_nonneg (by omega), Int.toNat_of_nonneg (by omega)]
theorem am_32 (a : Nat) : ∀ x ∈ Lib.decDigits a ++ [109], x ≠ 32 := fun x hx => by
  rcases List.mem_append.1 hx with hx | hx
  · exact dig_32 x hx
  · have : x = 109 := by simpa using hx
    subst this; decide
theorem kL_32 (b : Int) : ∀ x ∈ kL b, x ≠ 32 := kL_all b (by decide)
theorem spl_ft (a c : Nat) (b : Int) : spl 32 (ftD (Lib.decDigits a) (kL b) (Lib.decDigits c)) = [Lib.decDigits a ++ [109], kL b, [102, 111, 117, 110, 100], Lib.decDigits c] := by
  unfold ftD
  rw [spl_app (am_32 a), spl_app (kL_32 b), spl_app (by decide), spl_none dig_32]
theorem spl_fm (a c d : Nat) (b : Int) : spl 32 (ftM (Lib.decDigits a) (kL b) (Lib.decDigits c) (Lib.decDigits d)) = [Lib.decDigits a ++ [109], kL b, [102, 111, 117, 110, 100], Lib.decDigits c, [109, 101, 110, 100, 101, 100], Lib.decDigits d] := by
  unfold ftM
  rw [spl_app (am_32 a), spl_app (kL_32 b), spl_app (by decide), spl_app dig_32, spl_app (by decide), spl_none dig_32]
theorem readF_text {q : Q4} (h : defectOk q = true) : readF (spl 32 (textOf q)) = some q := by
  obtain ⟨a, c, d, b, rfl, b1, b2, ha, hc, hd⟩ := defect_nat h
  unfold textOf
  simp only [Lib.itoa_nonneg]
  by_cases h0 : (d : Int) = 0
  · rw [if_pos h0, spl_ft, readF4_in, nmF_dec ha, nmF_dec hc, kTo_kL b b1 b2]
    rw [h0] at h ⊢
    unfold finF
    rw [if_pos ⟨rfl, rfl, h⟩]
    rfl
  · rw [if_neg h0, spl_fm, readF6_in, nmF_dec ha, nmF_dec hc, kTo_kL b b1 b2, nmF_dec hd]
    unfold mendF
    rw [if_neg (by simp; omega)]
    unfold finF
    rw [if_pos ⟨rfl, rfl, h⟩]
    rfl
theorem finF_sound {x y : Option Int} {k m : Int} {q : Q4} (h : finF x y k m = some q) : ∃ a c, x = some a ∧ y = some c ∧ q = ⟨a, k, c, m⟩ ∧ defectOk q = true := by
  unfold finF at h
  split at h
  · rename_i hc
    obtain ⟨h1, h2, h3⟩ := hc
    obtain ⟨a, rfl⟩ := Option.isSome_iff_exists.1 h1
    obtain ⟨c, rfl⟩ := Option.isSome_iff_exists.1 h2
    injection h with h
    subst h
    exact ⟨a, c, rfl, rfl, rfl, h3⟩
  · cases h
theorem last_m {a0 : List UInt8} (h : a0.getLast? = some 109) : a0 = a0.dropLast ++ [109] := by
  rcases List.eq_nil_or_concat a0 with rfl | ⟨r, x, rfl⟩
  · simp at h
  · have hx : x = 109 := by simpa using h
    subst hx
    simp
theorem readF_sound {l : List UInt8} {q : Q4} (h : readF (spl 32 l) = some q) : defectOk q = true ∧ l = textOf q := by
  have hj := jn_spl 32 l
  obtain ⟨ws, hws⟩ : ∃ ws, spl 32 l = ws := ⟨_, rfl⟩
  rw [hws] at h hj
  unfold readF at h
  split at h
  · rename_i a0 a1 a2 a3
    split at h
    · rename_i hc
      obtain ⟨a, c, n1, n2, rfl, hok⟩ := finF_sound h
      refine ⟨hok, ?_⟩
      obtain ⟨_, ⟨b1, b2⟩, _⟩ := defectOk_iff.1 hok
      have hk := kTo_sound a1 5 b1
      unfold textOf
      rw [if_pos rfl, nmF_sound n1, nmF_sound n2]
      simp only
      rw [hk, ← hj, hc.2]
      unfold ftD
      rw [← last_m hc.1]
      simp [jn]
    · cases h
  · rename_i a0 a1 a2 a3 a4 a5
    split at h
    · rename_i hc
      unfold mendF at h
      split at h
      · cases h
      · rename_i hz
        obtain ⟨a, c, n1, n2, rfl, hok⟩ := finF_sound h
        refine ⟨hok, ?_⟩
        obtain ⟨_, ⟨b1, b2⟩, _⟩ := defectOk_iff.1 hok
        have hk := kTo_sound a1 5 b1
        have hz1 : (nmF a5).isSome = true := by
          cases hh : (nmF a5).isSome with
          | true => rfl
          | false => exact absurd (.inl hh) hz
        obtain ⟨z, hz2⟩ := Option.isSome_iff_exists.1 hz1
        have hz3 : z ≠ 0 := fun e => hz (.inr (by rw [hz2]; exact e))
        unfold textOf
        simp only [hz2, Option.getD_some]
        rw [if_neg hz3, nmF_sound n1, nmF_sound n2, nmF_sound hz2, hk, ← hj, hc.2.1, hc.2.2]
        unfold ftM
        rw [← last_m hc.1]
        simp [jn]
    · cases h
  · cases h
theorem findK_good {l : List UInt8} {a c m : Int} : ∀ (f : Nat) (k : Int) (q : Q4), findK l a c m f k = some q → goodF l q := by
  intro f
  induction f with
  | zero => intro k q h; cases h
  | succ f ih =>
    intro k q h
    rw [findK] at h
    split at h
    · rename_i hg; injection h with h; subst h; exact hg
    · exact ih _ _ h
theorem findK_some {l : List UInt8} {a c m : Int} : ∀ (f : Nat) (k b : Int), k ≤ b → b < k + f → goodF l ⟨a, b, c, m⟩ → ∃ q, findK l a c m f k = some q := by
  intro f
  induction f with
  | zero => intro k b h1 h2; omega
  | succ f ih =>
    intro k b h1 h2 hg
    rw [findK]
    split
    · exact ⟨_, rfl⟩
    · rename_i hn
      have hne : k ≠ b := fun e => hn (e ▸ hg)
      exact ih (k + 1) b (by omega) (by omega) hg
theorem giveF_good {l : List UInt8} {q : Q4} (h : giveF l = some q) : goodF l q := by
  unfold giveF giveN at h
  split at h
  · exact findK_good _ _ _ h
  · exact findK_good _ _ _ h
  · cases h
theorem good_text {l : List UInt8} {q : Q4} (h : goodF l q) : defectOk q = true ∧ l = textOf q := by
  refine ⟨h.1, ?_⟩
  have := h.2
  rw [defTxt_text] at this
  exact (bs_inj this).symm
theorem dec_ascii (u : Nat) : ∀ x ∈ Lib.decDigits u, x.toNat < 128 := fun x hx => by have := dig_ne u x hx; omega
theorem cons_ascii {k : UInt8} {l : List UInt8} (hk : k.toNat < 128) (hl : ∀ x ∈ l, x.toNat < 128) : ∀ x ∈ k :: l, x.toNat < 128 := fun x hx => by
  rcases List.mem_cons.1 hx with rfl | hx
  · exact hk
  · exact hl x hx
theorem app_ascii {m l : List UInt8} (hm : ∀ x ∈ m, x.toNat < 128) (hl : ∀ x ∈ l, x.toNat < 128) : ∀ x ∈ m ++ l, x.toNat < 128 := fun x hx => by
  rcases List.mem_append.1 hx with hx | hx
  · exact hm x hx
  · exact hl x hx
theorem kL_ascii (b : Int) : ∀ x ∈ kL b, x.toNat < 128 := kL_all b (by decide)
theorem ft_ascii (a c : Nat) (b : Int) : ∀ x ∈ ftD (Lib.decDigits a) (kL b) (Lib.decDigits c), x.toNat < 128 := by
  unfold ftD
  exact app_ascii (app_ascii (dec_ascii a) (by decide)) (cons_ascii (by decide) (app_ascii (kL_ascii b) (cons_ascii (by decide) (app_ascii (by decide) (cons_ascii (by decide) (dec_ascii c))))))
theorem fm_ascii (a c d : Nat) (b : Int) : ∀ x ∈ ftM (Lib.decDigits a) (kL b) (Lib.decDigits c) (Lib.decDigits d), x.toNat < 128 := by
  unfold ftM
  exact app_ascii (app_ascii (dec_ascii a) (by decide)) (cons_ascii (by decide) (app_ascii (kL_ascii b) (cons_ascii (by decide) (app_ascii (by decide) (cons_ascii (by decide) (app_ascii (dec_ascii c) (cons_ascii (by decide) (app_ascii (by decide) (cons_ascii (by decide) (dec_ascii d))))))))))
theorem sep_k (b : Int) : ∀ x ∈ 32 :: (kL b ++ [32, 102, 111, 117, 110, 100, 32]), dgB x = true := by
  intro x hx
  rcases List.mem_cons.1 hx with rfl | hx
  · decide
  · rcases List.mem_append.1 hx with hx | hx
    · exact kL_all b (p := fun x => dgB x = true) (by decide) x hx
    · exact (by decide : ∀ x ∈ ([32, 102, 111, 117, 110, 100, 32] : List UInt8), dgB x = true) x hx
theorem fl_ft (a c : Nat) (b : Int) : fl dgB none (ftD (Lib.decDigits a) (kL b) (Lib.decDigits c)) = [Lib.decDigits a, Lib.decDigits c] := by
  have e : ftD (Lib.decDigits a) (kL b) (Lib.decDigits c) = Lib.decDigits a ++ 109 :: ((32 :: (kL b ++ [32, 102, 111, 117, 110, 100, 32])) ++ Lib.decDigits c) := by
    unfold ftD; simp
  rw [e, fl_step dgB _ _ _ (dig_nil a) dgB_dig (by decide), fl_sep dgB _ _ (sep_k b), fl_last dgB _ (dig_nil c) dgB_dig]
theorem fl_fm (a c d : Nat) (b : Int) : fl dgB none (ftM (Lib.decDigits a) (kL b) (Lib.decDigits c) (Lib.decDigits d)) = [Lib.decDigits a, Lib.decDigits c, Lib.decDigits d] := by
  have e : ftM (Lib.decDigits a) (kL b) (Lib.decDigits c) (Lib.decDigits d) = Lib.decDigits a ++ 109 :: ((32 :: (kL b ++ [32, 102, 111, 117, 110, 100, 32])) ++ (Lib.decDigits c ++ 32 :: ([109, 101, 110, 100, 101, 100, 32] ++ Lib.decDigits d))) := by
    unfold ftM; simp
  rw [e, fl_step dgB _ _ _ (dig_nil a) dgB_dig (by decide), fl_sep dgB _ _ (sep_k b), fl_step dgB _ _ _ (dig_nil c) dgB_dig (by decide), fl_sep dgB _ _ (by decide), fl_last dgB _ (dig_nil d) dgB_dig]
theorem nums_ft {a c : Nat} (b : Int) (ha : a < 1000000000000000000) (hc : c < 1000000000000000000) : numsOf (ftD (Lib.decDigits a) (kL b) (Lib.decDigits c)) = [(a : Int), c] := by
  unfold numsOf
  rw [goFields_fl dgP dgB (fun _ => rfl) _ (ft_ascii a c b), fl_ft]
  simp only [List.map, nums, bs_list, rdF_dec ha, rdF_dec hc]
  rfl
theorem nums_fm {a c d : Nat} (b : Int) (ha : a < 1000000000000000000) (hc : c < 1000000000000000000) (hd : d < 1000000000000000000) : numsOf (ftM (Lib.decDigits a) (kL b) (Lib.decDigits c) (Lib.decDigits d)) = [(a : Int), c, d] := by
  unfold numsOf
  rw [goFields_fl dgP dgB (fun _ => rfl) _ (fm_ascii a c d b), fl_fm]
  simp only [List.map, nums, bs_list, rdF_dec ha, rdF_dec hc, rdF_dec hd]
  rfl
theorem giveF_text {q : Q4} (h : defectOk q = true) : giveF (textOf q) = some q := by
  have hg : goodF (textOf q) q := ⟨h, defTxt_text q⟩
  have hs : ∃ q', giveF (textOf q) = some q' := by
    obtain ⟨a, c, d, b, rfl, b1, b2, ha, hc, hd⟩ := defect_nat h
    by_cases h0 : (d : Int) = 0
    · have ht : textOf ⟨a, b, c, d⟩ = ftD (Lib.decDigits a) (kL b) (Lib.decDigits c) := by
        unfold textOf; simp only [Lib.itoa_nonneg]; rw [if_pos h0]
      rw [giveF_two (by rw [ht]; exact nums_ft b ha hc)]
      exact findK_some 5 1 b (by omega) (by omega) (by rw [h0] at hg ⊢; exact hg)
    · have ht : textOf ⟨a, b, c, d⟩ = ftM (Lib.decDigits a) (kL b) (Lib.decDigits c) (Lib.decDigits d) := by
        unfold textOf; simp only [Lib.itoa_nonneg]; rw [if_neg h0]
      rw [giveF_three (by rw [ht]; exact nums_fm b ha hc hd)]
      exact findK_some 5 1 b (by omega) (by omega) hg
  obtain ⟨q', hq'⟩ := hs
  obtain ⟨hok, ht⟩ := good_text (giveF_good hq')
  have h1 := readF_text h
  rw [ht, readF_text hok] at h1
  rw [hq', h1]
theorem defects_read (l : List UInt8) : giveF l = readF (spl 32 l) := by
  cases hs : readF (spl 32 l) with
  | some q =>
    obtain ⟨hok, hl⟩ := readF_sound hs
    rw [hl, giveF_text hok]
  | none =>
    cases hg : giveF l with
    | none => rfl
    | some q =>
      obtain ⟨hok, hl⟩ := good_text (giveF_good hg)
      rw [hl, readF_text hok] at hs
      cases hs

end Go.Proofs.YtogjkcakoahpiaaDoor

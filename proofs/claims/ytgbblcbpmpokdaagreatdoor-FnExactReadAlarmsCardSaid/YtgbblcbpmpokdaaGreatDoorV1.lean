/- Walks over functions of this seat, by contract. Conditions: those that each theorem states. -/
import Derived.Test.YtgbblcbpmpokdaaGreatDoorZ5
import Derived.Test.YtgbblcbpmpokdaaGreatDoorD4
import Derived.Test.YtgbblcbpmpokdaaGreatDoorR3
namespace Go.Proofs.YtgbblcbpmpokdaaGreatDoor
open Go.RowKit Go.Sort

/-- the text of a level, none where it is none -/
def lvT (n : Int) : List UInt8 := if lvl n = true then lvL n else []
def dI (l : List UInt8) : List UInt8 := if Lib.hasPrefix l [45] = true then Lib.trimLeftB (Lib.trimPrefix (Lib.trimLeftB (strip l) 48) [45]) 48 else Lib.trimLeftB (strip l) 48
def sI (l : List UInt8) : Int := if Lib.hasPrefix l [45] = true then -1 else 1
def nI (l : List UInt8) : Int := sI l * (rdF (dI l)).getD 0
/-- what ReadLevel gives -/
def rl (l : List UInt8) : Option Int := if lvT (nI l) = l then some (nI l) else none
theorem rdF_nil : rdF [] = none := rfl
theorem tl_len (l : List UInt8) : (Lib.trimLeftB l 48).length ≤ l.length := (List.dropWhile_suffix _).length_le
theorem tp_len (l : List UInt8) : (Lib.trimPrefix l [45]).length ≤ l.length := by
  unfold Lib.trimPrefix; split
  · rw [List.length_drop]; omega
  · exact Nat.le_refl _
theorem dI_len (l : List UInt8) : (dI l).length ≤ l.length := by
  have h1 := strip_le l
  have h2 := tl_len (strip l)
  unfold dI; split
  · have h3 := tp_len (Lib.trimLeftB (strip l) 48)
    have h4 := tl_len (Lib.trimPrefix (Lib.trimLeftB (strip l) 48) [45])
    omega
  · omega
theorem dec_lt {u : Nat} (h : (Lib.decDigits u).length ≤ 18) : u < 1000000000000000000 := by
  have := decFrom_lt (Lib.decDigits u) 0 u 0 (by omega) (decFrom_dec u)
  rw [Nat.zero_add] at this
  exact Nat.lt_of_lt_of_le this (Nat.le_trans (Nat.pow_le_pow_right (by omega) h) (by decide))
theorem rdF_bd {l : List UInt8} {n : Int} (h : rdF l = some n) : -1000000000000000000 < n ∧ n < 1000000000000000000 := by
  unfold rdF at h
  split at h
  · split at h
    · rename_i m _ h2
      injection h with h
      subst h
      obtain ⟨h3, h4⟩ := h2
      subst h3
      rcases Int.lt_or_le m 0 with hm | hm
      · have e : Lib.itoa m = 45 :: Lib.decDigits m.natAbs := by
          unfold Lib.itoa; rw [if_pos hm]
        rw [e] at h4
        have ht : Lib.trimPrefix (45 :: Lib.decDigits m.natAbs) [45] = Lib.decDigits m.natAbs := by
          unfold Lib.trimPrefix Lib.hasPrefix
          rw [if_pos (by simp [List.isPrefixOf])]; rfl
        rw [ht] at h4
        have := dec_lt h4
        omega
      · obtain ⟨u, rfl⟩ : ∃ u : Nat, m = (u : Int) := ⟨m.toNat, by omega⟩
        rw [Lib.itoa_nonneg, trim_digits (dig_ne u)] at h4
        have := dec_lt h4
        omega
    · cases h
  · cases h
theorem getD_bd (l : List UInt8) : -1000000000000000000 < (rdF l).getD 0 ∧ (rdF l).getD 0 < 1000000000000000000 := by
  cases h : rdF l with
  | none => simp
  | some n => simpa using rdF_bd h
theorem dz_trim_step {x : List UInt8} {m d : Nat} (h : Lib.trimLeftB x 48 = dz m) (hd : d < 10) : Lib.trimLeftB (x ++ [UInt8.ofNat (48 + d)]) 48 = dz (10 * m + d) := by
  unfold Lib.trimLeftB at h ⊢
  rw [List.dropWhile_append]
  rcases Nat.eq_zero_or_pos m with hm | hm
  · subst hm
    rw [h, dz_zero, if_pos (show ([] : List UInt8).isEmpty = true from rfl)]
    rcases Nat.eq_zero_or_pos d with h0 | h0
    · subst h0; rfl
    · have hne : (UInt8.ofNat (48 + d) == 48) = false := by
        rw [beq_eq_false_iff_ne]
        intro e
        have := congrArg UInt8.toNat e
        rw [UInt8.toNat_ofNat'] at this
        simp at this; omega
      rw [List.dropWhile_cons, hne]
      simp only [Bool.false_eq_true, if_false]
      rw [show 10 * 0 + d = d by omega, dz_pos h0, dd_one hd]
  · have hz : (dz m).isEmpty = false := by
      rw [dz_pos hm]
      cases hq : Lib.decDigits m with
      | nil => exact absurd hq (decDigits_ne m)
      | cons a b => rfl
    rw [h, hz]
    simp only [Bool.false_eq_true, if_false]
    rw [dz_step (u := 10 * m + d) (by omega), show (10 * m + d) / 10 = m by omega, show (10 * m + d) % 10 = d by omega]
theorem dz_trim_dec (q : Nat) : Lib.trimLeftB (Lib.decDigits q) 48 = dz q := by
  induction q using Nat.strongRecOn with
  | _ q ih =>
    by_cases h10 : q < 10
    · have := dz_trim_step (x := []) (m := 0) (d := q) rfl h10
      rw [List.nil_append, show 10 * 0 + q = q by omega] at this
      rw [dd_one h10]; exact this
    · have := dz_trim_step (ih (q / 10) (by omega)) (d := q % 10) (by omega)
      rw [show 10 * (q / 10) + q % 10 = q by omega] at this
      rw [Lib.decDigits, dif_neg h10]; exact this
theorem trim_num (u : Nat) : Lib.trimLeftB (Lib.decDigits (u / 100) ++ two (u % 100)) 48 = dz u := by
  have h1 := dz_trim_step (dz_trim_dec (u / 100)) (d := u % 100 / 10) (by omega)
  have h2 := dz_trim_step h1 (d := u % 100 % 10) (by omega)
  rw [show 10 * (10 * (u / 100) + u % 100 / 10) + u % 100 % 10 = u by omega] at h2
  unfold two
  rw [dd_one (u := u % 100 / 10) (by omega), dd_one (u := u % 100 % 10) (by omega), ← List.append_assoc]
  exact h2
theorem strip_app (a b : List UInt8) : strip (a ++ b) = strip a ++ strip b := List.filter_append ..
theorem strip_dec (q : Nat) : strip (Lib.decDigits q) = Lib.decDigits q := List.filter_eq_self.2 fun x hx => by
  have := dig_ne q x hx
  have : drop3 x = false := by
    cases hd : drop3 x with
    | false => rfl
    | true => have := (drop3_iff x).1 hd; omega
  rw [this]; rfl
theorem strip_lvL (n : Int) : strip (lvL n) = (if n < 0 then [45] else []) ++ (Lib.decDigits (n.natAbs / 100) ++ two (n.natAbs % 100)) := by
  unfold lvL two
  rw [strip_app, strip_app, strip_app, strip_app, strip_app, strip_dec, strip_dec, strip_dec]
  have h1 : strip [46] = [] := rfl
  have h2 : strip [109] = [] := rfl
  rw [h1, h2]
  by_cases h : n < 0
  · have : sgn n = 45 := if_pos h
    rw [this, if_pos h]
    have : strip [45] = [45] := rfl
    rw [this]; simp
  · have : sgn n = 43 := if_neg h
    rw [this, if_neg h]
    have : strip [43] = [] := rfl
    rw [this]; simp
theorem rdF_dz {u : Nat} (h : u < 1000000000000000000) : (rdF (dz u)).getD 0 = (u : Int) := by
  rcases Nat.eq_zero_or_pos u with h0 | h0
  · subst h0; rw [dz_zero, rdF_nil]; rfl
  · rw [dz_pos h0, rdF_dec h]; rfl
theorem nI_lvL {n : Int} (h : lvl n = true) : nI (lvL n) = n := by
  have hb := inR_iff.1 h
  have ht := trim_num n.natAbs
  by_cases hn : n < 0
  · have hp : Lib.hasPrefix (lvL n) [45] = true := by
      unfold lvL Lib.hasPrefix
      rw [show sgn n = 45 from if_pos hn]; simp [List.isPrefixOf]
    have hs : strip (lvL n) = 45 :: (Lib.decDigits (n.natAbs / 100) ++ two (n.natAbs % 100)) := by rw [strip_lvL, if_pos hn]; rfl
    unfold nI sI dI
    rw [if_pos hp, if_pos hp, hs]
    have e1 : Lib.trimLeftB (45 :: (Lib.decDigits (n.natAbs / 100) ++ two (n.natAbs % 100))) 48 = 45 :: (Lib.decDigits (n.natAbs / 100) ++ two (n.natAbs % 100)) := rfl
    have e2 : Lib.trimPrefix (45 :: (Lib.decDigits (n.natAbs / 100) ++ two (n.natAbs % 100))) [45] = Lib.decDigits (n.natAbs / 100) ++ two (n.natAbs % 100) := by
      unfold Lib.trimPrefix Lib.hasPrefix
      rw [if_pos (by simp [List.isPrefixOf])]; rfl
    rw [e1, e2, ht, rdF_dz (by omega)]; omega
  · have hp : ¬ Lib.hasPrefix (lvL n) [45] = true := by
      unfold lvL Lib.hasPrefix
      rw [show sgn n = 43 from if_neg hn]; simp [List.isPrefixOf]
    have hs : strip (lvL n) = Lib.decDigits (n.natAbs / 100) ++ two (n.natAbs % 100) := by rw [strip_lvL, if_neg hn]; rfl
    unfold nI sI dI
    rw [if_neg hp, if_neg hp, hs, ht, rdF_dz (by omega)]; omega
theorem rl_iff (l : List UInt8) (n : Int) : rl l = some n ↔ lvl n = true ∧ l = lvL n := by
  constructor
  · intro h
    unfold rl at h
    split at h
    · rename_i h1
      injection h with h
      rw [h] at h1
      unfold lvT at h1
      split at h1
      · exact ⟨by assumption, h1.symm⟩
      · rename_i h2
        subst h1
        have : nI [] = 0 := rfl
        rw [this] at h
        subst h
        exact absurd rfl h2
    · cases h
  · rintro ⟨h, rfl⟩
    unfold rl
    rw [nI_lvL h, lvT, if_pos h, if_pos rfl]
theorem rl_no {l : List UInt8} (h : ∀ n, lvl n = true → l = lvL n → False) : rl l = none := by
  cases hr : rl l with
  | none => rfl
  | some n => exact absurd ((rl_iff l n).1 hr) (fun ⟨h1, h2⟩ => h n h1 h2)
/-- the parts of a level's text -/
theorem lvL_parts {n : Int} (h : lvl n = true) : ∃ p x y, lvL n = sgn n :: (p ++ 46 :: [x, y]) ++ [109] ∧ spl 46 (p ++ 46 :: [x, y]) = [p, [x, y]] ∧ nmF p = some ((n.natAbs / 100 : Nat) : Int) ∧ 1 ≤ p.length ∧
    x.toNat = 48 + n.natAbs % 100 / 10 ∧ y.toNat = 48 + n.natAbs % 100 % 10 := by
  have hb := inR_iff.1 h
  refine ⟨Lib.decDigits (n.natAbs / 100), UInt8.ofNat (48 + n.natAbs % 100 / 10), UInt8.ofNat (48 + n.natAbs % 100 % 10), ?_, ?_, nmF_dec (by omega), List.length_pos_iff.2 (decDigits_ne _), ?_, ?_⟩
  · unfold lvL two
    rw [dd_one (u := n.natAbs % 100 / 10) (by omega), dd_one (u := n.natAbs % 100 % 10) (by omega)]
    simp
  · rw [spl_app (fun x hx => ?_), spl_none (fun x hx => ?_)]
    · have hx2 : x.toNat ≠ 46 := by
        rcases List.mem_cons.1 hx with rfl | hx
        · rw [UInt8.toNat_ofNat']; omega
        · rw [List.mem_singleton.1 hx, UInt8.toNat_ofNat']; omega
      intro e; rw [e] at hx2; exact hx2 rfl
    · have := dig_ne _ x hx
      intro e; rw [e] at this; exact absurd this.1 (by decide)
  · rw [UInt8.toNat_ofNat']; omega
  · rw [UInt8.toNat_ofNat']; omega

end Go.Proofs.YtgbblcbpmpokdaaGreatDoor

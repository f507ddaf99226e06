/- Walks over functions of this seat, by contract. Conditions: those that each theorem states. -/
import Derived.Test.YtgbblcbpmpokdaaGreatDoorD1
import Derived.Lib.FieldsP
import Derived.Laws.RangeString
import Derived.Laws.Strings2
import Derived.Lib.ParseIntBTie
import Derived.Lib.AtoiTie
namespace Go.Proofs.YtgbblcbpmpokdaaGreatDoor
open Go.RowKit Go.Sort

def fl (p : UInt8 → Bool) : Option (List UInt8) → List UInt8 → List (List UInt8)
  | none, [] => []
  | some t, [] => [t]
  | none, x :: xs => if p x then fl p none xs else fl p (some [x]) xs
  | some t, x :: xs => if p x then t :: fl p none xs else fl p (some (t ++ [x])) xs
theorem fl_sep (p : UInt8 → Bool) : ∀ (a b : List UInt8), (∀ x ∈ a, p x = true) → fl p none (a ++ b) = fl p none b
  | [], _, _ => rfl
  | x :: a, b, h => by
    rw [List.cons_append, fl, if_pos (h x (List.mem_cons.2 (.inl rfl)))]
    exact fl_sep p a b fun y hy => h y (List.mem_cons.2 (.inr hy))
theorem fl_tok (p : UInt8 → Bool) : ∀ (d t b : List UInt8), (∀ x ∈ d, p x = false) → fl p (some t) (d ++ b) = fl p (some (t ++ d)) b
  | [], t, b, _ => by simp
  | x :: d, t, b, h => by
    rw [List.cons_append, fl, if_neg (by rw [h x (List.mem_cons.2 (.inl rfl))]; simp), fl_tok p d (t ++ [x]) b fun y hy => h y (List.mem_cons.2 (.inr hy))]
    simp
theorem fl_word (p : UInt8 → Bool) (d b : List UInt8) (hd : d ≠ []) (h : ∀ x ∈ d, p x = false) : fl p none (d ++ b) = fl p (some d) b := by
  cases d with
  | nil => exact absurd rfl hd
  | cons x d =>
    rw [List.cons_append, fl, if_neg (by rw [h x (List.mem_cons.2 (.inl rfl))]; simp), fl_tok p d [x] b fun y hy => h y (List.mem_cons.2 (.inr hy))]
    rfl
theorem fl_close (p : UInt8 → Bool) (t b : List UInt8) (x : UInt8) (h : p x = true) : fl p (some t) (x :: b) = t :: fl p none b := by rw [fl, if_pos h]
/-- a word, its end, and what follows -/
theorem fl_step (p : UInt8 → Bool) (d b : List UInt8) (x : UInt8) (hd : d ≠ []) (h : ∀ y ∈ d, p y = false) (hx : p x = true) : fl p none (d ++ x :: b) = d :: fl p none b := by
  rw [fl_word p d _ hd h, fl_close p d b x hx]
theorem fl_last (p : UInt8 → Bool) (d : List UInt8) (hd : d ≠ []) (h : ∀ y ∈ d, p y = false) : fl p none d = [d] := by
  have := fl_word p d [] hd h
  rw [List.append_nil] at this
  rw [this]; rfl
theorem extract_bs (l : List UInt8) (a b : Nat) : (bs l).extract a b = bs ((l.drop a).take (b - a)) := by unfold bs; rw [ByteArray.extract_mk]
theorem take_more {l : List UInt8} {a pos : Nat} (h : a ≤ pos) (hp : pos < l.length) : (l.drop a).take (pos + 1 - a) = (l.drop a).take (pos - a) ++ [l[pos]] := by
  rw [show pos + 1 - a = (pos - a) + 1 by omega, List.take_succ_eq_append_getElem (by rw [List.length_drop]; omega), List.getElem_drop]
  congr 3; omega
theorem spans_fl (P : Nat → Bool) (p : UInt8 → Bool) (hp : ∀ x, p x = P x.toNat) (l : List UInt8) (ha : ∀ x ∈ l, x.toNat < 128) : ∀ (f pos : Nat) (st : Option Nat) (acc : List (Nat × Nat)), l.length - pos ≤ f → pos ≤ l.length → (∀ a, st = some a → a ≤ pos) →
    (Lib.closeSpans (bs l) (Lib.spansFromP P (bs l) f pos st acc)).map (fun x => (bs l).extract x.1 x.2) =
      acc.map (fun x => (bs l).extract x.1 x.2) ++ (fl p (st.map fun a => (l.drop a).take (pos - a)) (l.drop pos)).map bs := by
  intro f
  have hsz : (bs l).size = l.length := bs_size l
  induction f with
  | zero =>
    intro pos st acc hf hpos hst
    have hpe : pos = l.length := by omega
    subst hpe
    rw [Lib.spansFromP, List.drop_length]
    cases st with
    | none => simp [Lib.closeSpans, fl]
    | some a =>
      simp only [Lib.closeSpans, Option.map_some, fl, List.map_append, List.map_cons, List.map_nil]
      rw [extract_bs, hsz]
  | succ f ih =>
    intro pos st acc hf hpos hst
    unfold Lib.spansFromP
    by_cases hlt : pos < l.length
    · rw [if_pos (by rw [hsz]; exact hlt)]
      have hx : (bs l)[pos]'(by rw [hsz]; exact hlt) = l[pos] := rfl
      have hdec : Utf8.decode (bs l) pos = (l[pos].toNat, 1) := by
        have := decode_ascii (bs l) pos (by rw [hsz]; exact hlt) (by rw [hx]; exact ha _ (List.getElem_mem _))
        rw [this, hx]
      rw [hdec]
      have hdrop : l.drop pos = l[pos] :: l.drop (pos + 1) := List.drop_eq_getElem_cons hlt
      have hpx := hp l[pos]
      cases hP : P l[pos].toNat with
      | true =>
        simp only [if_true]
        rw [hP] at hpx
        cases st with
        | none =>
          rw [ih (pos + 1) none acc (by omega) (by omega) (fun a h => by cases h), hdrop]
          simp only [Option.map_none]
          rw [fl, if_pos hpx]
        | some a =>
          rw [ih (pos + 1) none (acc ++ [(a, pos)]) (by omega) (by omega) (fun a h => by cases h), hdrop]
          simp only [Option.map_none, Option.map_some]
          rw [fl, if_pos hpx]
          simp [extract_bs]
      | false =>
        simp only [Bool.false_eq_true, if_false]
        rw [hP] at hpx
        cases st with
        | none =>
          rw [ih (pos + 1) (some pos) acc (by omega) (by omega) (fun a h => by injection h; omega), hdrop]
          simp only [Option.map_none, Option.map_some]
          rw [fl.eq_3 (p := p), if_neg (by rw [hpx]; simp)]
          have : (l.drop pos).take (pos + 1 - pos) = [l[pos]] := by rw [hdrop, show pos + 1 - pos = 1 by omega]; rfl
          rw [this]
        | some a =>
          have hap := hst a rfl
          rw [ih (pos + 1) (some a) acc (by omega) (by omega) (fun b h => by injection h; omega), hdrop]
          simp only [Option.map_some]
          rw [fl.eq_4 (p := p), if_neg (by rw [hpx]; simp), take_more hap hlt]
    · have hpe : pos = l.length := by omega
      subst hpe
      rw [if_neg (by rw [hsz]; omega), List.drop_length]
      cases st with
      | none => simp [Lib.closeSpans, fl]
      | some a =>
        simp only [Lib.closeSpans, Option.map_some, fl, List.map_append, List.map_cons, List.map_nil]
        rw [extract_bs, hsz]
theorem goFields_fl (P : Nat → Bool) (p : UInt8 → Bool) (hp : ∀ x, p x = P x.toNat) (l : List UInt8) (ha : ∀ x ∈ l, x.toNat < 128) : Lib.goFieldsP P (bs l) = (fl p none l).map bs := by
  have := spans_fl P p hp l ha (bs l).size 0 none [] (by rw [bs_size]; omega) (by omega) (fun a h => by cases h)
  unfold Lib.goFieldsP Lib.spansOfP
  rw [this]; simp
theorem dig_ne (u : Nat) : ∀ x ∈ Lib.decDigits u, 48 ≤ x.toNat ∧ x.toNat ≤ 57 := by
  induction u using Nat.strongRecOn with
  | _ u ih =>
    intro x hx
    rw [Lib.decDigits] at hx
    split at hx
    · rename_i h
      rw [List.mem_singleton.1 hx, UInt8.toNat_ofNat']; omega
    · rcases List.mem_append.1 hx with hx | hx
      · exact ih (u / 10) (by omega) x hx
      · rw [List.mem_singleton.1 hx, UInt8.toNat_ofNat']; omega
theorem decFrom_app (a b : List UInt8) : ∀ acc m, Lib.decFrom acc a = some m → Lib.decFrom acc (a ++ b) = Lib.decFrom m b := by
  induction a with
  | nil => intro acc m h; simp [Lib.decFrom] at h; subst h; rfl
  | cons x a ih =>
    intro acc m h
    rw [List.cons_append, Lib.decFrom]
    rw [Lib.decFrom] at h
    cases hd : Lib.digitVal x with
    | none => rw [hd] at h; cases h
    | some d => rw [hd] at h; exact ih _ m h
theorem digitVal_of (d : Nat) (h : d < 10) : Lib.digitVal (UInt8.ofNat (48 + d)) = some d := by
  unfold Lib.digitVal
  have : (UInt8.ofNat (48 + d)).toNat = 48 + d := by rw [UInt8.toNat_ofNat']; omega
  rw [this, if_pos (by omega)]; congr 1; omega
theorem decFrom_dec (u : Nat) : Lib.decFrom 0 (Lib.decDigits u) = some u := by
  induction u using Nat.strongRecOn with
  | _ u ih =>
    rw [Lib.decDigits]
    split
    · rename_i h
      rw [Lib.decFrom, digitVal_of u h]; simp [Lib.decFrom]
    · rename_i h
      rw [decFrom_app _ _ 0 _ (ih (u / 10) (by omega)), Lib.decFrom, digitVal_of _ (Nat.mod_lt _ (by omega))]
      simp [Lib.decFrom]; omega
theorem dec_inj {u v : Nat} (h : Lib.decDigits u = Lib.decDigits v) : u = v := by
  have h1 := decFrom_dec u
  rw [h, decFrom_dec v] at h1
  injection h1 with h1; exact h1.symm
theorem nDigits_le18 {u : Nat} (h : u < 1000000000000000000) : (Lib.decDigits u).length ≤ 18 := by
  have key : ∀ (k u : Nat), u < 10 ^ k → 0 < k → (Lib.decDigits u).length ≤ k := by
    intro k
    induction k with
    | zero => intro u _ h; omega
    | succ k ih =>
      intro u hu _
      rw [Lib.decDigits]
      split
      · simp
      · rename_i h10
        rw [List.length_append, List.length_singleton]
        rcases Nat.eq_zero_or_pos k with h0 | h0
        · subst h0; simp at hu; omega
        · have := ih (u / 10) (by rw [Nat.pow_succ] at hu; omega) h0
          omega
  exact key 18 u (by simpa using h) (by omega)
theorem atoi_dec (u : Nat) : Lib.atoi (Lib.decDigits u) = some (u : Int) := by
  have hd := decFrom_dec u
  have hne := decDigits_ne u
  have hmem := dig_ne u
  cases hl : Lib.decDigits u with
  | nil => exact absurd hl hne
  | cons x r =>
    rw [hl] at hd hmem
    have hx := hmem x (List.mem_cons.2 (.inl rfl))
    unfold Lib.atoi
    have h1 : (x == 45) = false := by
      cases h : x == 45 with
      | false => rfl
      | true => have := beq_iff_eq.1 h; subst this; simp at hx
    have h2 : (x == 43) = false := by
      cases h : x == 43 with
      | false => rfl
      | true => have := beq_iff_eq.1 h; subst this; simp at hx
    simp only [h1, h2, Bool.false_eq_true, if_false]
    unfold Lib.decNat
    simp [hd]
theorem parse_dec {u : Nat} (h : u < 1000000000000000000) : Lib.parseIntB 64 (Lib.decDigits u) = .ok (u : Int) := by
  rw [Lib.parseIntB_64, Lib.atoiAll_short _ (nDigits_le18 h), atoi_dec]; rfl

end Go.Proofs.YtgbblcbpmpokdaaGreatDoor

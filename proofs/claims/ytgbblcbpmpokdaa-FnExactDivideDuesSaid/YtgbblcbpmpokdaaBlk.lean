/-
  What this text proves: the plain law of the stable sort's passes (no program in sight): blocks in order by insertion, then runs merged two by two, till all is in order.
  Conditions: those that each lemma states.
-/
import Derived.Test.YtgbblcbpmpokdaaSym
namespace Go.Proofs.Ytgbblcbpmpokdaa
open Go.Sort

section
variable {α : Type} [Inhabited α] {lt : α → α → Bool} {R V : α → α → Prop}

theorem Srt.same {Q : α → α → Prop} {d e : Array α} {a x : Nat} (h : Srt Q d a x) (he : ∀ p, a ≤ p → p < x → e[p]! = d[p]!) : Srt Q e a x := fun p q p1 p2 p3 => by
  rw [he p p1 (by omega), he q (by omega) p3]; exact h p q p1 p2 p3
theorem Crs.same {Q : α → α → Prop} {d e : Array α} {a m x : Nat} (h : Crs Q d a m x) (_hm1 : a ≤ m) (he : ∀ p, a ≤ p → p < x → e[p]! = d[p]!) : Crs Q e a m x := fun p q p1 p2 p3 p4 => by
  rw [he p p1 (by omega), he q (by omega) p4]; exact h p q p1 p2 p3 p4

theorem insInner_mrg (o : Ord lt R V) {d : Array α} {a m : Nat} (hs : m + 1 ≤ d.size) (hl : Srt R d a m) (hx : Crs V d a m (m + 1)) :
    ∀ (j : Nat) (e : Array α), a ≤ j → j ≤ m → MovD d e a m (m - j) → (j = m ∨ lt d[m]! d[j]! = true) → Mrg R d (insInner lt a j e) a (m + 1)
  | 0, e, h1, h2, h3, h4 => h3.done o h1 h2 hs hl hx (.inl (by omega)) h4
  | j + 1, e, h1, h2, h3, h4 => by
    have e1 : e[j + 1]! = d[m]! := by
      have := h3.at_
      rwa [show m - (m - (j + 1)) = j + 1 from by omega] at this
    have e2 : e[j]! = d[j]! := h3.rest j (by omega)
    unfold insInner
    rw [e1, e2]
    by_cases c : j + 1 > a
    · cases hv : lt d[m]! d[j]! with
      | true =>
        rw [if_pos (by simp; omega)]
        refine insInner_mrg o hs hl hx j _ (by omega) (by omega) ?_ (.inr hv)
        have := h3.succ (by omega) hs
        rwa [show m - (m - (j + 1)) = j + 1 from by omega, show m - (j + 1) + 1 = m - j from by omega, Nat.add_sub_cancel] at this
      | false =>
        rw [if_neg (by simp)]
        exact h3.done o h1 h2 hs hl hx (.inr (by rw [Nat.add_sub_cancel]; exact hv)) h4
    · rw [if_neg (by simp; omega)]
      exact h3.done o h1 h2 hs hl hx (.inl (by omega)) h4
theorem insOuter_mrg (o : Ord lt R V) {d0 : Array α} {a b : Nat} (hb : b ≤ d0.size) (hv : Srt V d0 a b) :
    ∀ (n i : Nat) (d : Array α), b - i ≤ n → a ≤ i → i ≤ b → Mrg R d0 d a i → Mrg R d0 (insOuter lt a b i d) a b
  | 0, i, d, hn, h1, h2, h => by
    obtain rfl : i = b := by omega
    unfold insOuter
    rw [if_neg (by omega)]; exact h
  | n + 1, i, d, hn, h1, h2, h => by
    have hz := h.perm.1
    unfold insOuter
    by_cases c : i < b
    · rw [if_pos c]
      refine insOuter_mrg o hb hv n (i + 1) _ (by omega) (by omega) (by omega) ?_
      have hx : Crs V d a i (i + 1) := fun p q p1 p2 p3 p4 => by
        obtain rfl : q = i := by omega
        rw [perm_same h.perm (p := q) (.inr (Nat.le_refl _))]
        exact permIn_all d0 d a q (fun u => V u d0[q]!) (by omega) h.perm (fun x x1 x2 => hv x q x1 x2 c) p p1 p2
      have m := insInner_mrg o (d := d) (a := a) (m := i) (by omega) h.srt hx i d h1 (Nat.le_refl _) (by rw [Nat.sub_self]; exact MovD.zero d a i) (.inl rfl)
      exact ⟨permIn_trans _ _ _ _ _ (permIn_mono _ _ _ _ _ _ (Nat.le_refl _) (by omega) (by omega) h.perm) m.perm, m.srt⟩
    · rw [if_neg c]
      obtain rfl : i = b := by omega
      exact h
/-- a block in order by insertion -/
theorem ins_mrg (o : Ord lt R V) {d : Array α} {a b : Nat} (hab : a ≤ b) (hb : b ≤ d.size) (hv : Srt V d a b) : Mrg R d (insertionSort lt d a b) a b := by
  unfold insertionSort
  by_cases c : a + 1 ≤ b
  · exact insOuter_mrg o hb hv (b - (a + 1)) (a + 1) d (Nat.le_refl _) (by omega) c ⟨permIn_refl _ _ _, fun p q p1 p2 p3 => by omega⟩
  · unfold insOuter
    rw [if_neg (by omega)]
    exact ⟨permIn_refl _ _ _, fun p q p1 p2 p3 => by omega⟩

/-! ### passes -/
/-- a property of a block that hangs on the block alone -/
def Loc (F : Array α → Nat → Nat → Prop) : Prop := ∀ d e a x, (∀ p, a ≤ p → p < x → e[p]! = d[p]!) → F d a x → F e a x
structure Pass (R V : α → α → Prop) (F : Array α → Nat → Nat → Prop) (d0 d : Array α) (n s j : Nat) : Prop where
  perm : PermIn 0 n d0 d
  done : ∀ k x, k < j → x ≤ k * s + s → x ≤ n → Srt R d (k * s) x
  todo : ∀ k x, j ≤ k → x ≤ k * s + s → x ≤ n → F d (k * s) x
  crs : ∀ k, Crs V d 0 (k * s) n
theorem mul_le_of_lt {k j s : Nat} (h : k < j) : k * s + s ≤ j * s := by
  have := Nat.mul_le_mul_right s (show k + 1 ≤ j from h)
  rwa [Nat.add_mul, Nat.one_mul] at this
theorem Pass.step {F : Array α → Nat → Nat → Prop} {d0 d e : Array α} {n s j b : Nat} (hF : Loc F) (h : Pass R V F d0 d n s j) (hn : n ≤ d0.size) (h0 : j * s ≤ b) (hb : b ≤ j * s + s) (hbn : b ≤ n) (hbe : b = j * s + s ∨ b = n) (m : Mrg R d e (j * s) b) : Pass R V F d0 e n s (j + 1) := by
  have hz := h.perm.1
  have hs : ∀ p, p < j * s ∨ b ≤ p → e[p]! = d[p]! := fun p hp => perm_same m.perm hp
  refine ⟨permIn_trans _ _ _ _ _ h.perm (permIn_mono _ _ _ _ _ _ (Nat.zero_le _) hbn (by omega) m.perm), fun k x hk h1 h2 => ?_, fun k x hk h1 h2 => ?_, fun k => ?_⟩
  · by_cases c : k = j
    · subst c
      exact m.srt.sub (Nat.le_refl _) (by omega)
    · have := mul_le_of_lt (s := s) (show k < j by omega)
      exact (h.done k x (by omega) h1 h2).same fun p p1 p2 => hs p (.inl (by omega))
  · have := mul_le_of_lt (s := s) (show j < k by omega)
    exact hF d e _ _ (fun p p1 p2 => hs p (.inr (by omega))) (h.todo k x (by omega) h1 h2)
  · by_cases cn : n ≤ k * s
    · exact fun p q p1 p2 p3 p4 => by omega
    · rcases Nat.lt_or_ge j k with c | c
      · have := mul_le_of_lt (s := s) c
        exact cross_perm (by omega) (Nat.zero_le _) (by omega) (h.crs k) (permIn_mono _ _ _ _ _ _ (Nat.zero_le _) (by omega) (by omega) m.perm) (permIn_refl _ _ _)
      · have := Nat.mul_le_mul_right s c
        exact cross_perm (by omega) (Nat.zero_le _) (by omega) (h.crs k) (permIn_refl _ _ _) (permIn_mono _ _ _ _ _ _ (by omega) hbn (by omega) m.perm)
/-- all runs of one length in order -/
structure Runs (R V : α → α → Prop) (d0 d : Array α) (n s : Nat) : Prop where
  perm : PermIn 0 n d0 d
  srt : ∀ k x, x ≤ k * s + s → x ≤ n → Srt R d (k * s) x
  crs : ∀ k, Crs V d 0 (k * s) n
theorem Pass.last {F : Array α → Nat → Nat → Prop} {d0 d : Array α} {n s j : Nat} (h : Pass R V F d0 d n s j) (hj : n ≤ j * s) : Runs R V d0 d n s := by
  refine ⟨h.perm, fun k x h1 h2 => ?_, h.crs⟩
  rcases Nat.lt_or_ge k j with c | c
  · exact h.done k x c h1 h2
  · have := Nat.mul_le_mul_right s c
    exact fun p q p1 p2 p3 => by omega
theorem loc_srt : Loc (α := α) (fun d a x => Srt V d a x) := fun _ _ _ _ he h => h.same he
theorem Pass.ins0 {d : Array α} {n s : Nat} (hv : Srt V d 0 n) : Pass R V (fun d a x => Srt V d a x) d d n s 0 :=
  ⟨permIn_refl _ _ _, fun _ _ h => absurd h (Nat.not_lt_zero _), fun _ _ _ _ h2 => hv.sub (Nat.zero_le _) h2, fun _ p q _ p2 p3 p4 => hv p q (Nat.zero_le _) (by omega) p4⟩
/-- two runs side by side -/
def Two (R V : α → α → Prop) (s : Nat) (d : Array α) (a x : Nat) : Prop := (∀ y, y ≤ a + s → y ≤ x → Srt R d a y) ∧ Srt R d (a + s) x ∧ Crs V d a (a + s) x
theorem loc_two {s : Nat} : Loc (α := α) (Two R V s) := fun _ _ _ _ he h =>
  ⟨fun y h1 h2 => (h.1 y h1 h2).same fun p p1 p2 => he p p1 (by omega), h.2.1.same fun p p1 p2 => he p (by omega) p2, h.2.2.same (by omega) he⟩
theorem Runs.pass {d0 d : Array α} {n s : Nat} (h : Runs R V d0 d n s) : Pass R V (Two R V s) d0 d n (2 * s) 0 := by
  have ek : ∀ k, k * (2 * s) = (2 * k) * s := fun k => by rw [Nat.mul_comm 2 k, Nat.mul_assoc]
  have ek1 : ∀ k, k * (2 * s) + s = (2 * k + 1) * s := fun k => by rw [ek, Nat.add_mul, Nat.one_mul]
  refine ⟨h.perm, fun _ _ h => absurd h (Nat.not_lt_zero _), fun k x _ h1 h2 => ⟨fun y y1 y2 => ?_, ?_, ?_⟩, fun k => ?_⟩
  · have := h.srt (2 * k) y (by rw [← ek]; exact y1) (by omega)
    rw [← ek] at this; exact this
  · have := h.srt (2 * k + 1) x (by rw [← ek1]; omega) h2
    rw [← ek1] at this; exact this
  · have := h.crs (2 * k + 1)
    rw [← ek1] at this
    exact fun p q p1 p2 p3 p4 => this p q (Nat.zero_le _) p2 p3 (by omega)
  · have := h.crs (2 * k)
    rw [← ek] at this; exact this
theorem Runs.whole {d0 d : Array α} {n s : Nat} (h : Runs R V d0 d n s) (hs : n ≤ s) : Mrg R d0 d 0 n := by
  have := h.srt 0 n (by omega) (Nat.le_refl _)
  rw [Nat.zero_mul] at this
  exact ⟨h.perm, this⟩
end

end Go.Proofs.Ytgbblcbpmpokdaa

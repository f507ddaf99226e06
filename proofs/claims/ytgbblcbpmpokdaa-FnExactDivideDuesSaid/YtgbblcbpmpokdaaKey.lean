/-
  What this text proves: the plain law of indices in the order of a key, those of the same key in their own order (no program in sight): that order is one alone, and insertion from behind makes it.
  Conditions: those that each lemma states.
-/
import Derived.Test.YtgbblcbpmpokdaaBlk
namespace Go.Proofs.Ytgbblcbpmpokdaa
open Go.Sort

section
variable {K : Int → Int}
def kR (K : Int → Int) (x y : Int) : Prop := K x < K y ∨ (K x = K y ∧ x < y)
theorem kR_trans {x y z : Int} (h1 : kR K x y) (h2 : kR K y z) : kR K x z := by unfold kR at *; omega
theorem kR_irrefl {x : Int} (h : kR K x x) : False := by unfold kR at h; omega
theorem same_of_order : ∀ {A B : List Int}, A.Pairwise (kR K) → B.Pairwise (kR K) → (∀ x, x ∈ A ↔ x ∈ B) → A = B
  | [], [], _, _, _ => rfl
  | [], b :: B, _, _, h => absurd ((h b).2 (by simp)) (by simp)
  | a :: A, [], _, _, h => absurd ((h a).1 (by simp)) (by simp)
  | a :: A, b :: B, ha, hb, h => by
    rw [List.pairwise_cons] at ha hb
    have hab : a = b := by
      rcases List.mem_cons.1 ((h a).1 (by simp)) with e | e
      · exact e
      · rcases List.mem_cons.1 ((h b).2 (by simp)) with e' | e'
        · exact e'.symm
        · exact (kR_irrefl (kR_trans (hb.1 a e) (ha.1 b e'))).elim
    subst hab
    congr 1
    refine same_of_order ha.2 hb.2 fun x => ?_
    have := h x
    rw [List.mem_cons, List.mem_cons] at this
    constructor
    · intro hx
      rcases this.1 (.inr hx) with e | e
      · subst e; exact (kR_irrefl (ha.1 x hx)).elim
      · exact e
    · intro hx
      rcases this.2 (.inr hx) with e | e
      · subst e; exact (kR_irrefl (hb.1 x hx)).elim
      · exact e

/-- the place of x in L, sought from k downwards -/
def posI (K : Int → Int) (L : List Int) (x : Int) : Nat → Nat
  | 0 => 0
  | k + 1 => match L[k]? with
    | some y => if K y ≤ K x then k + 1 else posI K L x k
    | none => posI K L x k
theorem posI_stop {L : List Int} {x y : Int} {k : Nat} (h : L[k]? = some y) (hk : K y ≤ K x) : posI K L x (k + 1) = k + 1 := by
  simp only [posI, h, if_pos hk]
theorem posI_go {L : List Int} {x y : Int} {k : Nat} (h : L[k]? = some y) (hk : ¬ K y ≤ K x) : posI K L x (k + 1) = posI K L x k := by
  simp only [posI, h, if_neg hk]
theorem posI_le (L : List Int) (x : Int) : ∀ k, posI K L x k ≤ k
  | 0 => Nat.le_refl _
  | k + 1 => by
    have ih := posI_le L x k
    unfold posI
    split
    · split <;> omega
    · omega
theorem posI_hi (L : List Int) (x : Int) : ∀ (k j : Nat) (y : Int), posI K L x k ≤ j → j < k → L[j]? = some y → K x < K y
  | 0, j, y, _, h, _ => absurd h (Nat.not_lt_zero _)
  | k + 1, j, y, h1, h2, h3 => by
    have ih := posI_hi L x k j y
    unfold posI at h1
    split at h1
    · rename_i z hz
      split at h1
      · omega
      · rename_i hn
        by_cases c : j = k
        · subst c; rw [hz] at h3; injection h3 with h3; subst h3; omega
        · exact ih h1 (by omega) h3
    · rename_i hz
      by_cases c : j = k
      · subst c; rw [hz] at h3; cases h3
      · exact ih h1 (by omega) h3
theorem posI_lo (L : List Int) (x : Int) : ∀ (k p : Nat) (y : Int), posI K L x k = p + 1 → L[p]? = some y → K y ≤ K x
  | 0, p, y, h, _ => by simp [posI] at h
  | k + 1, p, y, h1, h3 => by
    have ih := posI_lo L x k p y
    unfold posI at h1
    split at h1
    · rename_i z hz
      split at h1
      · rename_i hn
        obtain rfl : k = p := by omega
        rw [hz] at h3; injection h3 with h3; subst h3; exact hn
      · exact ih h1 h3
    · exact ih h1 h3
def insI (K : Int → Int) (L : List Int) (x : Int) : List Int := L.take (posI K L x L.length) ++ x :: L.drop (posI K L x L.length)
def sortI (K : Int → Int) (xs : List Int) : List Int := xs.foldl (insI K) []
theorem insI_mem {L : List Int} {x y : Int} : y ∈ insI K L x ↔ y = x ∨ y ∈ L := by
  unfold insI
  rw [List.mem_append, List.mem_cons]
  conv => rhs; rw [← List.take_append_drop (posI K L x L.length) L, List.mem_append]
  constructor
  · rintro (h | h | h)
    · exact .inr (.inl h)
    · exact .inl h
    · exact .inr (.inr h)
  · rintro (h | h | h)
    · exact .inr (.inl h)
    · exact .inl h
    · exact .inr (.inr h)
theorem insI_len (L : List Int) (x : Int) : (insI K L x).length = L.length + 1 := by
  have h := posI_le (K := K) L x L.length
  simp only [insI, List.length_append, List.length_take, List.length_cons, List.length_drop]
  omega
theorem sortI_len : ∀ (xs L : List Int), (xs.foldl (insI K) L).length = L.length + xs.length
  | [], L => rfl
  | x :: xs, L => by
    rw [List.foldl_cons, sortI_len xs, insI_len, List.length_cons]; omega
theorem insI_order {L : List Int} {x : Int} (hL : L.Pairwise (kR K)) (hx : ∀ y ∈ L, y < x) : (insI K L x).Pairwise (kR K) := by
  have hp := posI_le (K := K) L x L.length
  have hi := posI_hi (K := K) L x L.length
  have lo := posI_lo (K := K) L x L.length
  unfold insI
  generalize posI K L x L.length = p at hp hi lo
  have hL' := hL
  rw [← List.take_append_drop p L, List.pairwise_append] at hL'
  obtain ⟨l1, l2, l3⟩ := hL'
  have hd : ∀ y ∈ L.drop p, K x < K y := fun y hy => by
    obtain ⟨j, hj⟩ := List.getElem?_of_mem hy
    rw [List.getElem?_drop] at hj
    exact hi (p + j) y (by omega) (List.getElem?_eq_some_iff.1 hj).1 hj
  have ht : ∀ y ∈ L.take p, K y ≤ K x := fun y hy => by
    obtain ⟨j, hj⟩ := List.getElem?_of_mem hy
    have hjl := (List.getElem?_eq_some_iff.1 hj).1
    rw [List.length_take] at hjl
    rw [List.getElem?_take_of_lt (by omega)] at hj
    obtain ⟨q, rfl⟩ : ∃ q, p = q + 1 := ⟨p - 1, by omega⟩
    have hq : L[q]? = some (L[q]'(by omega)) := List.getElem?_eq_getElem _
    have h1 := lo q _ rfl hq
    by_cases c : j = q
    · subst c
      rw [hq] at hj; injection hj with hj
      rw [← hj]; exact h1
    · have h2 := List.pairwise_iff_getElem.1 hL j q (by omega) (by omega) (by omega)
      have h3 : L[j]'(by omega) = y := (List.getElem?_eq_some_iff.1 hj).2
      rw [h3] at h2
      unfold kR at h2
      omega
  rw [List.pairwise_append]
  refine ⟨l1, List.pairwise_cons.2 ⟨fun y hy => .inl (hd y hy), l2⟩, fun y hy z hz => ?_⟩
  rcases List.mem_cons.1 hz with rfl | hz
  · have h1 := ht y hy
    have h2 := hx y (List.mem_of_mem_take hy)
    unfold kR; omega
  · exact l3 y hy z hz
theorem sort_fold : ∀ (xs L : List Int), L.Pairwise (kR K) → xs.Pairwise (· < ·) → (∀ y ∈ L, ∀ x ∈ xs, y < x) → (xs.foldl (insI K) L).Pairwise (kR K) ∧ ∀ y, y ∈ xs.foldl (insI K) L ↔ y ∈ L ∨ y ∈ xs
  | [], L, h, _, _ => ⟨h, fun y => by simp⟩
  | x :: xs, L, h, h1, h2 => by
    rw [List.pairwise_cons] at h1
    obtain ⟨g1, g2⟩ := sort_fold xs (insI K L x) (insI_order h fun y hy => h2 y hy x (by simp)) h1.2 (fun y hy z hz => by
      rcases insI_mem.1 hy with rfl | hy
      · exact h1.1 z hz
      · exact h2 y hy z (by simp [hz]))
    refine ⟨g1, fun y => ?_⟩
    rw [List.foldl_cons, g2, insI_mem, List.mem_cons]
    constructor
    · rintro ((h | h) | h)
      · exact .inr (.inl h)
      · exact .inl h
      · exact .inr (.inr h)
    · rintro (h | h | h)
      · exact .inl (.inr h)
      · exact .inl (.inl h)
      · exact .inr h
theorem sortI_order {xs : List Int} (h : xs.Pairwise (· < ·)) : (sortI K xs).Pairwise (kR K) ∧ ∀ y, y ∈ sortI K xs ↔ y ∈ xs := by
  obtain ⟨h1, h2⟩ := sort_fold (K := K) xs [] List.Pairwise.nil h (fun y hy => by simp at hy)
  exact ⟨h1, fun y => by rw [sortI, h2]; simp⟩
/-- whatever is in order and has the members is the sorted list -/
theorem sortI_only {xs ys : List Int} (h : xs.Pairwise (· < ·)) (hy : ys.Pairwise (kR K)) (hm : ∀ y, y ∈ ys ↔ y ∈ xs) : ys = sortI K xs := by
  obtain ⟨h1, h2⟩ := sortI_order (K := K) h
  exact same_of_order hy h1 fun y => (hm y).trans (h2 y).symm

/-! ### rows of places -/
def fI {N : Nat} (x : Fin N) : Int := (x.val : Int)
def ltF {N : Nat} (K : Int → Int) (x y : Fin N) : Bool := decide (K (fI x) < K (fI y))
def rF {N : Nat} (K : Int → Int) (x y : Fin N) : Prop := kR K (fI x) (fI y)
def vF {N : Nat} (x y : Fin N) : Prop := x.val < y.val
theorem ordF {N : Nat} (K : Int → Int) : Ord (ltF (N := N) K) (rF K) vF := by
  refine ⟨fun x y z => kR_trans, fun u v h1 h2 => ?_, fun u v h1 h2 => ?_⟩
  · exact .inl (by simpa [ltF] using h2)
  · have h3 : ¬ K (fI v) < K (fI u) := by simpa [ltF] using h2
    unfold vF at h1
    unfold rF kR fI at *
    omega
section
variable {N : Nat} [Inhabited (Fin N)]
theorem srt_pairwise {Q : Fin N → Fin N → Prop} {d : Array (Fin N)} : Srt Q d 0 d.size ↔ d.toList.Pairwise Q := by
  rw [List.pairwise_iff_getElem]
  constructor
  · intro h i j hi hj hij
    have := h i j (Nat.zero_le _) hij (by simpa using hj)
    simpa [getElem!_pos, show i < d.size by simpa using hi, show j < d.size by simpa using hj] using this
  · intro h i j _ hij hj
    have := h i j (by simp; omega) (by simpa using hj) hij
    simpa [getElem!_pos, show i < d.size by omega, hj] using this
theorem mrg_perm {Q : Fin N → Fin N → Prop} {d e : Array (Fin N)} (h : Mrg Q d e 0 d.size) : e.toList.Perm d.toList := by
  have h1 := h.perm.2.2
  have h2 := h.perm.1
  rw [Array.extract_size] at h1
  rw [← h2, Array.extract_size] at h1
  exact h1
/-- the row behind the stable sort is the sorted list -/
theorem mrg_sortI {d e : Array (Fin N)} (h : Mrg (rF K) d e 0 d.size) (hs : (d.toList.map fI).Pairwise (· < ·)) : e.toList.map fI = sortI K (d.toList.map fI) := by
  have hz := h.perm.1
  refine sortI_only hs ?_ fun y => ?_
  · rw [List.pairwise_map]
    refine srt_pairwise.1 ?_
    rw [hz]; exact h.srt
  · have := (mrg_perm h).map fI
    exact this.mem_iff
theorem srt_vF {d : Array (Fin N)} (hs : (d.toList.map fI).Pairwise (· < ·)) : Srt vF d 0 d.size := by
  rw [srt_pairwise]
  rw [List.pairwise_map] at hs
  exact hs.imp fun {a b} h => by unfold fI at h; unfold vF; omega
end
end

end Go.Proofs.Ytgbblcbpmpokdaa

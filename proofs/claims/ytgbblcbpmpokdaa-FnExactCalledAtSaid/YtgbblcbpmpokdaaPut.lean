/-
  What this text proves: the plain law of names put into their places one by one: it is the sorted list of the names, each once (no program in sight).
  Conditions: those that each lemma states.
-/
import Derived.Sort.Walk0
namespace Go.Proofs.Ytgbblcbpmpokdaa

def sLt (x y : ByteArray) : Bool := Op.bytesLess x.toList y.toList
def sEqv (s t : ByteArray) : Bool := s.toList == t.toList
def bsl (b : ByteArray) : List UInt8 := b.data.toList
theorem bsl_toList (b : ByteArray) : b.toList = bsl b := by rw [ByteArray.toList_eq]; rfl
theorem bsl_inj {a b : ByteArray} (h : bsl a = bsl b) : a = b := by
  obtain ⟨⟨l⟩⟩ := a
  obtain ⟨⟨m⟩⟩ := b
  simp only [bsl] at h
  subst h; rfl
theorem sLt_iff {x y : ByteArray} : sLt x y = true ↔ bsl x < bsl y := by
  unfold sLt; rw [bytesLess_eq, bsl_toList, bsl_toList]; simp
theorem sEqv_iff {x y : ByteArray} : sEqv x y = true ↔ x = y := by
  unfold sEqv; rw [bsl_toList, bsl_toList]
  constructor
  · intro h; exact bsl_inj (by simpa using h)
  · rintro rfl; simp

/-- a name put into its place, once -/
def putN : List ByteArray → ByteArray → List ByteArray
  | [], s => [s]
  | x :: xs, s => if sLt x s then x :: putN xs s else if sEqv x s then x :: xs else s :: x :: xs
theorem putN_end : ∀ {L : List ByteArray} {s : ByteArray}, (∀ (j : Nat) y, L[j]? = some y → sLt y s = true) → putN L s = L ++ [s]
  | [], s, _ => rfl
  | x :: xs, s, h => by
    have h0 := h 0 x rfl
    simp only [putN, h0, if_true, List.cons_append]
    rw [putN_end fun j y hy => h (j + 1) y (by simpa using hy)]
theorem putN_same : ∀ {L : List ByteArray} {s y : ByteArray} {k : Nat}, (∀ (j : Nat) z, j < k → L[j]? = some z → sLt z s = true) → L[k]? = some y → sLt y s = false → sEqv y s = true → putN L s = L
  | [], s, y, k, _, hk, _, _ => by simp at hk
  | x :: xs, s, y, 0, _, hk, h1, h2 => by
    simp at hk; subst hk
    simp [putN, h1, h2]
  | x :: xs, s, y, k + 1, h, hk, h1, h2 => by
    have h0 := h 0 x (by omega) rfl
    simp only [putN, h0, if_true]
    rw [putN_same (k := k) (fun j z hj hz => h (j + 1) z (by omega) (by simpa using hz)) (by simpa using hk) h1 h2]
theorem putN_at : ∀ {L : List ByteArray} {s y : ByteArray} {k : Nat}, (∀ (j : Nat) z, j < k → L[j]? = some z → sLt z s = true) → L[k]? = some y → sLt y s = false → sEqv y s = false → putN L s = L.take k ++ [s] ++ L.drop k
  | [], s, y, k, _, hk, _, _ => by simp at hk
  | x :: xs, s, y, 0, _, hk, h1, h2 => by
    simp at hk; subst hk
    simp [putN, h1, h2]
  | x :: xs, s, y, k + 1, h, hk, h1, h2 => by
    have h0 := h 0 x (by omega) rfl
    simp only [putN, h0, if_true]
    rw [putN_at (k := k) (fun j z hj hz => h (j + 1) z (by omega) (by simpa using hz)) (by simpa using hk) h1 h2]
    simp
theorem putN_mem : ∀ {L : List ByteArray} {s y : ByteArray}, y ∈ putN L s ↔ y ∈ L ∨ y = s
  | [], s, y => by simp [putN]
  | x :: xs, s, y => by
    unfold putN
    split
    · simp only [List.mem_cons, putN_mem (L := xs)]; exact (or_assoc).symm
    · split
      · rename_i h1 h2
        have := sEqv_iff.1 h2
        subst this
        simp only [List.mem_cons]
        constructor
        · exact .inl
        · rintro (h | h)
          · exact h
          · exact .inl h
      · simp only [List.mem_cons]
        constructor
        · rintro (h | h | h)
          · exact .inr h
          · exact .inl (.inl h)
          · exact .inl (.inr h)
        · rintro ((h | h) | h)
          · exact .inr (.inl h)
          · exact .inr (.inr h)
          · exact .inl h
theorem putN_len_le (L : List ByteArray) (s : ByteArray) : (putN L s).length ≤ L.length + 1 := by
  induction L with
  | nil => simp [putN]
  | cons x xs ih =>
    unfold putN
    split
    · simp; omega
    · split <;> simp
def StS (L : List ByteArray) : Prop := L.Pairwise (fun x y => bsl x < bsl y)
theorem lt_of_not {x s : ByteArray} (h1 : ¬ sLt x s = true) (h2 : ¬ sEqv x s = true) : bsl s < bsl x := by
  rw [sLt_iff] at h1
  have h3 : bsl s ≤ bsl x := List.not_lt.1 h1
  rcases List.le_iff_lt_or_eq.1 h3 with h | h
  · exact h
  · exact absurd (sEqv_iff.2 (bsl_inj h).symm) h2
theorem putN_sorted : ∀ {L : List ByteArray} {s : ByteArray}, StS L → StS (putN L s)
  | [], s, _ => by simp [putN, StS]
  | x :: xs, s, h => by
    have h1 : (∀ y ∈ xs, bsl x < bsl y) ∧ StS xs := by simpa [StS] using h
    unfold putN
    split
    · rename_i c
      show List.Pairwise _ _
      rw [List.pairwise_cons]
      refine ⟨fun y hy => ?_, putN_sorted h1.2⟩
      rcases putN_mem.1 hy with hy | rfl
      · exact h1.1 y hy
      · exact sLt_iff.1 c
    · split
      · exact h
      · rename_i c1 c2
        show List.Pairwise _ _
        have hs := lt_of_not c1 c2
        rw [List.pairwise_cons]
        refine ⟨fun y hy => ?_, h⟩
        rcases List.mem_cons.1 hy with rfl | hy
        · exact hs
        · exact List.lt_trans hs (h1.1 y hy)

/-- a name taken up if it is not there -/
def addN (L : List ByteArray) (s : ByteArray) : List ByteArray := if L.any (fun x => x.toList == s.toList) then L else L ++ [s]
theorem any_iff {L : List ByteArray} {s : ByteArray} : L.any (fun x => x.toList == s.toList) = true ↔ s ∈ L := by
  rw [List.any_eq_true]
  constructor
  · rintro ⟨x, hx, h⟩
    have : x = s := sEqv_iff.1 h
    rwa [← this]
  · intro h; exact ⟨s, h, by simp⟩
theorem addN_mem {L : List ByteArray} {s y : ByteArray} : y ∈ addN L s ↔ y ∈ L ∨ y = s := by
  unfold addN
  split
  · rename_i h
    rw [any_iff] at h
    constructor
    · exact .inl
    · rintro (h1 | rfl)
      · exact h1
      · exact h
  · simp
theorem addN_nodup {L : List ByteArray} {s : ByteArray} (h : L.Nodup) : (addN L s).Nodup := by
  unfold addN
  split
  · exact h
  · rename_i h1
    rw [any_iff] at h1
    rw [List.nodup_append]
    refine ⟨h, by simp, fun a ha b hb => ?_⟩
    simp at hb; subst hb
    rintro rfl; exact h1 ha
theorem addN_len (L : List ByteArray) (s : ByteArray) : (addN L s).length ≤ L.length + 1 := by
  unfold addN; split <;> simp
theorem fold_put : ∀ (F L : List ByteArray), StS L → StS (F.foldl putN L) ∧ ∀ y, y ∈ F.foldl putN L ↔ y ∈ L ∨ y ∈ F
  | [], L, h => ⟨h, fun y => by simp⟩
  | s :: F, L, h => by
    obtain ⟨h1, h2⟩ := fold_put F (putN L s) (putN_sorted h)
    refine ⟨h1, fun y => ?_⟩
    rw [List.foldl_cons, h2, putN_mem, List.mem_cons]
    exact or_assoc
theorem fold_add : ∀ (F L : List ByteArray), L.Nodup → (F.foldl addN L).Nodup ∧ ∀ y, y ∈ F.foldl addN L ↔ y ∈ L ∨ y ∈ F
  | [], L, h => ⟨h, fun y => by simp⟩
  | s :: F, L, h => by
    obtain ⟨h1, h2⟩ := fold_add F (addN L s) (addN_nodup h)
    refine ⟨h1, fun y => ?_⟩
    rw [List.foldl_cons, h2, addN_mem, List.mem_cons]
    exact or_assoc
theorem fold_len (f : List ByteArray → ByteArray → List ByteArray) (hf : ∀ L s, (f L s).length ≤ L.length + 1) : ∀ (F L : List ByteArray), (F.foldl f L).length ≤ L.length + F.length
  | [], L => by simp
  | s :: F, L => by
    have h1 := fold_len f hf F (f L s)
    have h2 := hf L s
    rw [List.foldl_cons, List.length_cons]
    omega

theorem same_of_mem : ∀ {A B : List (List UInt8)}, A.Pairwise (· < ·) → B.Pairwise (· < ·) → (∀ x, x ∈ A ↔ x ∈ B) → A = B
  | [], [], _, _, _ => rfl
  | [], b :: B, _, _, h => absurd ((h b).2 (by simp)) (by simp)
  | a :: A, [], _, _, h => absurd ((h a).1 (by simp)) (by simp)
  | a :: A, b :: B, ha, hb, h => by
    rw [List.pairwise_cons] at ha hb
    have hab : a = b := by
      rcases List.mem_cons.1 ((h a).1 (by simp)) with e | e
      · exact e
      · rcases List.mem_cons.1 ((h b).2 (by simp)) with e' | e'
        · exact e'.symm
        · exact absurd (List.lt_trans (hb.1 a e) (ha.1 b e')) (List.lt_irrefl b)
    subst hab
    congr 1
    refine same_of_mem ha.2 hb.2 fun x => ?_
    have := h x
    rw [List.mem_cons, List.mem_cons] at this
    constructor
    · intro hx
      rcases this.1 (.inr hx) with e | e
      · subst e; exact absurd (ha.1 x hx) (List.lt_irrefl x)
      · exact e
    · intro hx
      rcases this.2 (.inr hx) with e | e
      · subst e; exact absurd (hb.1 x hx) (List.lt_irrefl x)
      · exact e
def sortedB (L : List ByteArray) : List (List UInt8) := (L.map bsl).mergeSort fun x y => decide (x ≤ y)
theorem sortedB_len (L : List ByteArray) : (sortedB L).length = L.length := by simp [sortedB]
/-- **the names put into their places are the names collected once and sorted** -/
theorem sorted_put (F : List ByteArray) : sortedB (F.foldl addN []) = (F.foldl putN []).map bsl := by
  obtain ⟨h1, h2⟩ := fold_add F [] (by simp)
  obtain ⟨g1, g2⟩ := fold_put F [] (by simp [StS])
  refine same_of_mem ?_ ?_ ?_
  · have hp : (sortedB (F.foldl addN [])).Perm ((F.foldl addN []).map bsl) := List.mergeSort_perm _ _
    have hn : ((F.foldl addN []).map bsl).Nodup := List.pairwise_map.2 (h1.imp fun h e => h (bsl_inj e))
    have hs : (sortedB (F.foldl addN [])).Pairwise (· ≤ ·) := by
      have := List.pairwise_mergeSort (le := fun x y : List UInt8 => decide (x ≤ y)) (fun a b c h h' => by simp at *; exact List.le_trans h h') (fun a b => by simpa using List.le_total a b) ((F.foldl addN []).map bsl)
      exact this.imp (by intro a b h; simpa using h)
    have hn' := hp.nodup_iff.2 hn
    refine (hs.and hn').imp ?_
    rintro a b ⟨hab, hne⟩
    rcases List.le_iff_lt_or_eq.1 hab with h | h
    · exact h
    · exact absurd h hne
  · rw [List.pairwise_map]; exact g1
  · intro x
    unfold sortedB
    rw [List.mem_mergeSort, List.mem_map, List.mem_map]
    constructor
    · rintro ⟨y, hy, rfl⟩; exact ⟨y, (g2 y).2 ((h2 y).1 hy), rfl⟩
    · rintro ⟨y, hy, rfl⟩; exact ⟨y, (h2 y).2 ((g2 y).1 hy), rfl⟩

end Go.Proofs.Ytgbblcbpmpokdaa

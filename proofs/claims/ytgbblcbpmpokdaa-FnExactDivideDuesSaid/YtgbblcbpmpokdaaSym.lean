/-
  What this text proves: the plain law of the merge in place that the stable sort uses beyond one block (no program in sight): exchanging two ranges, rotating, merging.
  Conditions: those that each lemma states.
-/
import Derived.Shelf.GgSortMore.Stable
namespace Go.Proofs.Ytgbblcbpmpokdaa
open Go.Sort

section
variable {α : Type} [Inhabited α]

theorem gix {d : Array α} {p q : Nat} (h : p = q) : d[p]! = d[q]! := by rw [h]

/-- the n places from a and the n from b are exchanged -/
structure SwR (d e : Array α) (a b n : Nat) : Prop where
  size : e.size = d.size
  lo : ∀ k, k < n → e[a + k]! = d[b + k]!
  hi : ∀ k, k < n → e[b + k]! = d[a + k]!
  rest : ∀ p, p < a ∨ (a + n ≤ p ∧ p < b) ∨ b + n ≤ p → e[p]! = d[p]!
  perm : ∀ x y, x ≤ a → b + n ≤ y → y ≤ d.size → PermIn x y d e
theorem SwR.zero (d : Array α) (a b : Nat) : SwR d d a b 0 := ⟨rfl, fun k h => by omega, fun k h => by omega, fun _ _ => rfl, fun _ _ _ _ _ => permIn_refl _ _ _⟩
theorem SwR.succ {d e : Array α} {a b n : Nat} (h : SwR d e a b n) (h1 : a + (n + 1) ≤ b) (h2 : b + (n + 1) ≤ d.size) : SwR d (swp e (a + n) (b + n)) a b (n + 1) := by
  have hz := h.size
  refine ⟨by rw [size_swp]; exact h.size, fun k hk => ?_, fun k hk => ?_, fun p hp => ?_, fun x y hx hy hs => ?_⟩
  · by_cases e1 : k = n
    · subst e1
      rw [swp_left _ _ _ (by omega) (by omega), h.rest _ (by omega)]
    · rw [swp_other _ _ _ _ (by omega) (by omega)]; exact h.lo k (by omega)
  · by_cases e1 : k = n
    · subst e1
      rw [swp_right _ _ _ (by omega), h.rest _ (by omega)]
    · rw [swp_other _ _ _ _ (by omega) (by omega)]; exact h.hi k (by omega)
  · rw [swp_other _ _ _ _ (by omega) (by omega)]; exact h.rest p (by omega)
  · exact permIn_trans _ _ _ _ _ (h.perm x y hx (by omega) hs) (swp_permIn _ x y _ _ (by omega) (by omega) (by omega) (by omega) (by omega))

/-- what stands at place p behind the rotation of [a, b) about m -/
def rotF (d : Array α) (a m b p : Nat) : α := if p < a + (b - m) then d[m + (p - a)]! else d[p - (b - m)]!
structure RotI (d e : Array α) (a m b i j : Nat) : Prop where
  size : e.size = d.size
  i1 : 0 < i ∧ i ≤ m - a
  j1 : 0 < j ∧ j ≤ b - m
  out : ∀ p, a ≤ p → p < b → (p < m - i ∨ m + j ≤ p) → e[p]! = rotF d a m b p
  in1 : ∀ k, k < j → e[m + k]! = rotF d a m b (m - i + k)
  in2 : ∀ k, k < i → e[m - i + k]! = rotF d a m b (m - i + j + k)
  rest : ∀ p, p < a ∨ b ≤ p → e[p]! = d[p]!
  perm : PermIn a b d e
theorem RotI.start (d : Array α) {a m b : Nat} (h1 : a < m) (h2 : m < b) : RotI d d a m b (m - a) (b - m) := by
  refine ⟨rfl, by omega, by omega, fun p _ _ h => by omega, fun k hk => ?_, fun k hk => ?_, fun _ _ => rfl, permIn_refl _ _ _⟩
  · unfold rotF; rw [if_pos (by omega)]; exact gix (by omega)
  · unfold rotF; rw [if_neg (by omega)]; exact gix (by omega)
theorem RotI.left {d e e' : Array α} {a m b i j : Nat} (h : RotI d e a m b i j) (h1 : a < m) (h2 : m < b) (hs : b ≤ d.size) (hij : j < i) (s : SwR e e' (m - i) m j) : RotI d e' a m b (i - j) j := by
  have a1 := h.i1
  have a2 := h.j1
  have hz := h.size
  refine ⟨s.size.trans h.size, by omega, by omega, fun p p1 p2 p3 => ?_, fun k hk => ?_, fun k hk => ?_, fun p hp => ?_, permIn_trans _ _ _ _ _ h.perm (s.perm a b (by omega) (by omega) (by omega))⟩
  · by_cases c : m - i ≤ p ∧ p < m
    · have e1 := s.lo (p - (m - i)) (by omega)
      rw [show m - i + (p - (m - i)) = p from by omega] at e1
      rw [e1, h.in1 _ (by omega)]
      congr 1; omega
    · rw [s.rest p (by omega)]; exact h.out p p1 p2 (by omega)
  · rw [s.hi k hk, h.in2 k (by omega)]
    congr 1; omega
  · rw [s.rest _ (by omega)]
    have e1 := h.in2 (j + k) (by omega)
    rw [show m - (i - j) + k = m - i + (j + k) from by omega, e1]
    congr 1; omega
  · rw [s.rest p (by omega)]; exact h.rest p hp
theorem RotI.right {d e e' : Array α} {a m b i j : Nat} (h : RotI d e a m b i j) (h1 : a < m) (h2 : m < b) (hs : b ≤ d.size) (hij : i < j) (s : SwR e e' (m - i) (m + j - i) i) : RotI d e' a m b i (j - i) := by
  have a1 := h.i1
  have a2 := h.j1
  have hz := h.size
  refine ⟨s.size.trans h.size, by omega, by omega, fun p p1 p2 p3 => ?_, fun k hk => ?_, fun k hk => ?_, fun p hp => ?_, permIn_trans _ _ _ _ _ h.perm (s.perm a b (by omega) (by omega) (by omega))⟩
  · by_cases c : m + j - i ≤ p ∧ p < m + j
    · have e1 := s.hi (p - (m + j - i)) (by omega)
      rw [show m + j - i + (p - (m + j - i)) = p from by omega] at e1
      rw [e1, h.in2 _ (by omega)]
      congr 1; omega
    · rw [s.rest p (by omega)]; exact h.out p p1 p2 (by omega)
  · rw [s.rest _ (by omega)]; exact h.in1 k (by omega)
  · rw [s.lo k hk]
    have e1 := h.in1 (j - i + k) (by omega)
    rw [show m + j - i + k = m + (j - i + k) from by omega, e1]
    congr 1; omega
  · rw [s.rest p (by omega)]; exact h.rest p hp
structure Rot (d e : Array α) (a m b : Nat) : Prop where
  size : e.size = d.size
  all : ∀ p, a ≤ p → p < b → e[p]! = rotF d a m b p
  rest : ∀ p, p < a ∨ b ≤ p → e[p]! = d[p]!
  perm : PermIn a b d e
theorem RotI.done {d e e' : Array α} {a m b i : Nat} (h : RotI d e a m b i i) (h1 : a < m) (h2 : m < b) (hs : b ≤ d.size) (s : SwR e e' (m - i) m i) : Rot d e' a m b := by
  have a1 := h.i1
  have a2 := h.j1
  have hz := h.size
  refine ⟨s.size.trans h.size, fun p p1 p2 => ?_, fun p hp => by rw [s.rest p (by omega)]; exact h.rest p hp, permIn_trans _ _ _ _ _ h.perm (s.perm a b (by omega) (by omega) (by omega))⟩
  by_cases c : m - i ≤ p ∧ p < m
  · have e1 := s.lo (p - (m - i)) (by omega)
    rw [show m - i + (p - (m - i)) = p from by omega] at e1
    rw [e1, h.in1 _ (by omega)]
    congr 1; omega
  · by_cases c' : m ≤ p ∧ p < m + i
    · have e1 := s.hi (p - m) (by omega)
      rw [show m + (p - m) = p from by omega] at e1
      rw [e1, h.in2 _ (by omega)]
      congr 1; omega
    · rw [s.rest p (by omega)]; exact h.out p p1 p2 (by omega)

/-! ### the merge -/
/-- what is known of the order: where u stood before v, 'less v u' decides between the two -/
structure Ord (lt : α → α → Bool) (R V : α → α → Prop) : Prop where
  trans : ∀ x y z, R x y → R y z → R x z
  yes : ∀ u v, V u v → lt v u = true → R v u
  no : ∀ u v, V u v → lt v u = false → R u v
/-- in order on [a, b) -/
def Srt (R : α → α → Prop) (d : Array α) (a b : Nat) : Prop := ∀ p q, a ≤ p → p < q → q < b → R d[p]! d[q]!
def Crs (V : α → α → Prop) (d : Array α) (a m b : Nat) : Prop := ∀ p q, a ≤ p → p < m → m ≤ q → q < b → V d[p]! d[q]!
structure Mrg (R : α → α → Prop) (d e : Array α) (a b : Nat) : Prop where
  perm : PermIn a b d e
  srt : Srt R e a b
section
variable {lt : α → α → Bool} {R V : α → α → Prop} {d : Array α} {a m b : Nat}
theorem Srt.sub (h : Srt R d a b) {x y : Nat} (h1 : a ≤ x) (h2 : y ≤ b) : Srt R d x y := fun p q p1 p2 p3 => h p q (by omega) p2 (by omega)
theorem perm_same {e : Array α} (h : PermIn a b d e) {p : Nat} (hp : p < a ∨ b ≤ p) : e[p]! = d[p]! := h.2.1 p hp
/-- what holds between all of two ranges holds behind a permutation of each -/
theorem cross_perm {Q : α → α → Prop} {e : Array α} {x m y : Nat} (hy : y ≤ d.size) (_h1 : x ≤ m) (_h2 : m ≤ y) (h : ∀ p q, x ≤ p → p < m → m ≤ q → q < y → Q d[p]! d[q]!) {e1 : Array α} (p1 : PermIn x m d e1) (p2 : PermIn m y e1 e) :
    ∀ p q, x ≤ p → p < m → m ≤ q → q < y → Q e[p]! e[q]! := by
  have hz := p1.1
  have s1 : ∀ q, m ≤ q → q < y → ∀ p, x ≤ p → p < m → Q e1[p]! e1[q]! := fun q q1 q2 => by
    rw [perm_same p1 (p := q) (by omega)]
    exact permIn_all d e1 x m (fun u => Q u d[q]!) (by omega) p1 (fun p a1 a2 => h p q a1 a2 q1 q2)
  intro p q a1 a2 a3 a4
  rw [perm_same p2 (p := p) (by omega)]
  exact permIn_all e1 e m y (fun u => Q e1[p]! u) (by omega) p2 (fun q' c1 c2 => s1 q' c1 c2 p a1 a2) q a3 a4

/-- one element on the left goes to its place i - 1: behind k swaps it stands at a + k -/
structure MovU (d e : Array α) (a b k : Nat) : Prop where
  size : e.size = d.size
  before : ∀ p, a ≤ p → p < a + k → e[p]! = d[p + 1]!
  at_ : e[a + k]! = d[a]!
  rest : ∀ p, p < a ∨ a + k < p → e[p]! = d[p]!
  perm : PermIn a b d e
theorem MovU.zero (d : Array α) (a b : Nat) : MovU d d a b 0 := ⟨rfl, fun p _ _ => by omega, rfl, fun _ _ => rfl, permIn_refl _ _ _⟩
theorem MovU.succ {e : Array α} {k : Nat} (h : MovU d e a b k) (hk : a + (k + 1) < b) (hs : b ≤ d.size) : MovU d (swp e (a + k) (a + k + 1)) a b (k + 1) := by
  have hz := h.size
  refine ⟨by rw [size_swp]; exact h.size, fun p p1 p2 => ?_, ?_, fun p hp => ?_, permIn_trans _ _ _ _ _ h.perm (swp_permIn _ a b _ _ (by omega) (by omega) (by omega) (by omega) (by omega))⟩
  · by_cases c : p = a + k
    · subst c
      rw [swp_left _ _ _ (by omega) (by omega), h.rest _ (by omega)]
    · rw [swp_other _ _ _ _ (by omega) (by omega)]; exact h.before p p1 (by omega)
  · rw [show a + (k + 1) = a + k + 1 from by omega, swp_right _ _ _ (by omega)]; exact h.at_
  · rw [swp_other _ _ _ _ (by omega) (by omega)]; exact h.rest p (by omega)
theorem MovU.done (o : Ord lt R V) {e : Array α} {i : Nat} (h : MovU d e a b (i - 1 - a)) (hab : a + 1 ≤ i) (hib : i ≤ b) (_hs : b ≤ d.size) (hr : Srt R d (a + 1) b) (hx : Crs V d a (a + 1) b)
    (lo : i = a + 1 ∨ lt d[i - 1]! d[a]! = true) (hi : i = b ∨ lt d[i]! d[a]! = false) : Mrg R d e a b := by
  refine ⟨h.perm, fun p q p1 p2 p3 => ?_⟩
  have up : ∀ x, a + 1 ≤ x → x < i → R d[x]! d[a]! := fun x x1 x2 => by
    rcases lo with l | l
    · omega
    · have e1 := o.yes _ _ (hx a (i - 1) (by omega) (by omega) (by omega) (by omega)) l
      by_cases c : x = i - 1
      · rw [c]; exact e1
      · exact o.trans _ _ _ (hr x (i - 1) x1 (by omega) (by omega)) e1
  have dn : ∀ x, i ≤ x → x < b → R d[a]! d[x]! := fun x x1 x2 => by
    rcases hi with l | l
    · omega
    · have e1 := o.no _ _ (hx a i (by omega) (by omega) (by omega) (by omega)) l
      by_cases c : x = i
      · rw [c]; exact e1
      · exact o.trans _ _ _ e1 (hr i x (by omega) (by omega) (by omega))
  have pl : ∀ x, a ≤ x → x < b → (x < i - 1 → e[x]! = d[x + 1]!) ∧ (x = i - 1 → e[x]! = d[a]!) ∧ (i ≤ x → e[x]! = d[x]!) := fun x x1 x2 =>
    ⟨fun c => h.before x x1 (by omega), fun c => by rw [← h.at_]; exact gix (by omega), fun c => h.rest x (by omega)⟩
  obtain ⟨pa, pb, pc⟩ := pl p p1 (by omega)
  obtain ⟨qa, qb, qc⟩ := pl q (by omega) p3
  rcases Nat.lt_trichotomy p (i - 1) with c | c | c
  · rw [pa c]
    rcases Nat.lt_trichotomy q (i - 1) with c' | c' | c'
    · rw [qa c']; exact hr _ _ (by omega) (by omega) (by omega)
    · rw [qb c']; exact up _ (by omega) (by omega)
    · rw [qc (by omega)]; exact hr _ _ (by omega) (by omega) (by omega)
  · rw [pb c, qc (by omega)]; exact dn _ (by omega) p3
  · rw [pc (by omega), qc (by omega)]; exact hr _ _ (by omega) (by omega) (by omega)

/-- one element on the right goes down to its place i: behind k swaps it stands at m - k -/
structure MovD (d e : Array α) (a m k : Nat) : Prop where
  size : e.size = d.size
  behind : ∀ p, m - k < p → p ≤ m → e[p]! = d[p - 1]!
  at_ : e[m - k]! = d[m]!
  rest : ∀ p, p < m - k ∨ m < p → e[p]! = d[p]!
  perm : PermIn a (m + 1) d e
theorem MovD.zero (d : Array α) (a m : Nat) : MovD d d a m 0 := ⟨rfl, fun p _ _ => by omega, rfl, fun _ _ => rfl, permIn_refl _ _ _⟩
theorem MovD.succ {e : Array α} {k : Nat} (h : MovD d e a m k) (hk : a + (k + 1) ≤ m) (hs : m + 1 ≤ d.size) : MovD d (swp e (m - k) (m - k - 1)) a m (k + 1) := by
  have hz := h.size
  refine ⟨by rw [size_swp]; exact h.size, fun p p1 p2 => ?_, ?_, fun p hp => ?_, permIn_trans _ _ _ _ _ h.perm (swp_permIn _ a (m + 1) _ _ (by omega) (by omega) (by omega) (by omega) (by omega))⟩
  · by_cases c : p = m - k
    · subst c
      rw [swp_left _ _ _ (by omega) (by omega), h.rest _ (by omega)]
    · rw [swp_other _ _ _ _ (by omega) (by omega)]; exact h.behind p (by omega) p2
  · rw [show m - (k + 1) = m - k - 1 from by omega, swp_right _ _ _ (by omega)]; exact h.at_
  · rw [swp_other _ _ _ _ (by omega) (by omega)]; exact h.rest p (by omega)
theorem MovD.done (o : Ord lt R V) {e : Array α} {i : Nat} (h : MovD d e a m (m - i)) (hai : a ≤ i) (him : i ≤ m) (_hs : m + 1 ≤ d.size) (hl : Srt R d a m) (hx : Crs V d a m (m + 1))
    (lo : i = a ∨ lt d[m]! d[i - 1]! = false) (hi : i = m ∨ lt d[m]! d[i]! = true) : Mrg R d e a (m + 1) := by
  refine ⟨h.perm, fun p q p1 p2 p3 => ?_⟩
  have dn : ∀ x, a ≤ x → x < i → R d[x]! d[m]! := fun x x1 x2 => by
    rcases lo with l | l
    · omega
    · have e1 := o.no _ _ (hx (i - 1) m (by omega) (by omega) (by omega) (by omega)) l
      by_cases c : x = i - 1
      · rw [c]; exact e1
      · exact o.trans _ _ _ (hl x (i - 1) x1 (by omega) (by omega)) e1
  have up : ∀ x, i ≤ x → x < m → R d[m]! d[x]! := fun x x1 x2 => by
    rcases hi with l | l
    · omega
    · have e1 := o.yes _ _ (hx i m (by omega) (by omega) (by omega) (by omega)) l
      by_cases c : x = i
      · rw [c]; exact e1
      · exact o.trans _ _ _ e1 (hl i x (by omega) (by omega) (by omega))
  have pl : ∀ x, a ≤ x → x ≤ m → (x < i → e[x]! = d[x]!) ∧ (x = i → e[x]! = d[m]!) ∧ (i < x → e[x]! = d[x - 1]!) := fun x x1 x2 =>
    ⟨fun c => h.rest x (by omega), fun c => by rw [← h.at_]; exact gix (by omega), fun c => h.behind x (by omega) x2⟩
  obtain ⟨pa, pb, pc⟩ := pl p p1 (by omega)
  obtain ⟨qa, qb, qc⟩ := pl q (by omega) (by omega)
  rcases Nat.lt_trichotomy p i with c | c | c
  · rw [pa c]
    rcases Nat.lt_trichotomy q i with c' | c' | c'
    · rw [qa c']; exact hl _ _ (by omega) (by omega) (by omega)
    · rw [qb c']; exact dn _ (by omega) (by omega)
    · rw [qc (by omega)]; exact hl _ _ (by omega) (by omega) (by omega)
  · rw [pb c, qc (by omega)]; exact up _ (by omega) (by omega)
  · rw [pc (by omega), qc (by omega)]; exact hl _ _ (by omega) (by omega) (by omega)

/-- the place at which the two halves are cut, found by bisection -/
structure CutAt (lt : α → α → Bool) (d : Array α) (a m b start : Nat) : Prop where
  s1 : a ≤ start
  s2 : start ≤ m
  s3 : start ≤ (a + b) / 2
  s4 : m ≤ (a + b) / 2 + m - start
  s5 : (a + b) / 2 + m - start ≤ b
  lo : start = a ∨ (a + b) / 2 + m - start = b ∨ lt d[(a + b) / 2 + m - 1 - (start - 1)]! d[start - 1]! = false
  hi : start = m ∨ (a + b) / 2 + m - start = m ∨ lt d[(a + b) / 2 + m - 1 - start]! d[start]! = true
/-- behind the rotation the lesser half stands in front of the middle, the greater one behind it; each is two runs -/
structure Half (R V : α → α → Prop) (d e : Array α) (a m b start : Nat) : Prop where
  size : e.size = d.size
  perm : PermIn a b d e
  l1 : Srt R e a start
  l2 : Srt R e start ((a + b) / 2)
  r1 : Srt R e ((a + b) / 2) ((a + b) / 2 + m - start)
  r2 : Srt R e ((a + b) / 2 + m - start) b
  x1 : Crs V e a start ((a + b) / 2)
  x2 : Crs V e ((a + b) / 2) ((a + b) / 2 + m - start) b
  les : ∀ p q, a ≤ p → p < (a + b) / 2 → (a + b) / 2 ≤ q → q < b → R e[p]! e[q]!
theorem Half.of (o : Ord lt R V) {e : Array α} {start : Nat} (c : CutAt lt d a m b start) (h1 : a < m) (h2 : m < b) (_hs : b ≤ d.size) (hl : Srt R d a m) (hr : Srt R d m b) (hx : Crs V d a m b)
    (hz : e.size = d.size) (hp : PermIn a b d e) (he : ∀ p, a ≤ p → p < b → e[p]! = if p < start then d[p]! else if p < (a + b) / 2 then d[m + (p - start)]! else if p < (a + b) / 2 + m - start then d[p - ((a + b) / 2 - start)]! else d[p]!) :
    Half R V d e a m b start := by
  obtain ⟨s1, s2, s3, s4, s5, lo, hi⟩ := c
  have e1 : ∀ p, a ≤ p → p < start → e[p]! = d[p]! := fun p p1 p2 => by rw [he p p1 (by omega), if_pos p2]
  have e2 : ∀ p, start ≤ p → p < (a + b) / 2 → e[p]! = d[m + (p - start)]! := fun p p1 p2 => by rw [he p (by omega) (by omega), if_neg (by omega), if_pos p2]
  have e3 : ∀ p, (a + b) / 2 ≤ p → p < (a + b) / 2 + m - start → e[p]! = d[p - ((a + b) / 2 - start)]! := fun p p1 p2 => by rw [he p (by omega) (by omega), if_neg (by omega), if_neg (by omega), if_pos p2]
  have e4 : ∀ p, (a + b) / 2 + m - start ≤ p → p < b → e[p]! = d[p]! := fun p p1 p2 => by rw [he p (by omega) p2, if_neg (by omega), if_neg (by omega), if_neg (by omega)]
  -- the left part's left run lies before the right part's right run
  have f1 : ∀ p q, a ≤ p → p < start → (a + b) / 2 + m - start ≤ q → q < b → R d[p]! d[q]! := fun p q p1 p2 q1 q2 => by
    rcases lo with l | l | l
    · omega
    · omega
    · have g := o.no _ _ (hx (start - 1) ((a + b) / 2 + m - 1 - (start - 1)) (by omega) (by omega) (by omega) (by omega)) l
      have g1 : R d[p]! d[(a + b) / 2 + m - 1 - (start - 1)]! := by
        by_cases c : p = start - 1
        · rw [c]; exact g
        · exact o.trans _ _ _ (hl p (start - 1) p1 (by omega) (by omega)) g
      by_cases c : q = (a + b) / 2 + m - 1 - (start - 1)
      · rw [c]; exact g1
      · exact o.trans _ _ _ g1 (hr _ q (by omega) (by omega) q2)
  have f2 : ∀ p q, m ≤ p → p < (a + b) / 2 + m - start → start ≤ q → q < m → R d[p]! d[q]! := fun p q p1 p2 q1 q2 => by
    rcases hi with l | l | l
    · omega
    · omega
    · have g := o.yes _ _ (hx start ((a + b) / 2 + m - 1 - start) (by omega) (by omega) (by omega) (by omega)) l
      have g1 : R d[p]! d[start]! := by
        by_cases c : p = (a + b) / 2 + m - 1 - start
        · rw [c]; exact g
        · exact o.trans _ _ _ (hr p _ p1 (by omega) (by omega)) g
      by_cases c : q = start
      · rw [c]; exact g1
      · exact o.trans _ _ _ g1 (hl _ q (by omega) (by omega) q2)
  refine ⟨hz, hp, fun p q p1 p2 p3 => ?_, fun p q p1 p2 p3 => ?_, fun p q p1 p2 p3 => ?_, fun p q p1 p2 p3 => ?_, fun p q p1 p2 p3 p4 => ?_, fun p q p1 p2 p3 p4 => ?_, fun p q p1 p2 p3 p4 => ?_⟩
  · rw [e1 p p1 (by omega), e1 q (by omega) p3]; exact hl p q p1 p2 (by omega)
  · rw [e2 p p1 (by omega), e2 q (by omega) p3]; exact hr _ _ (by omega) (by omega) (by omega)
  · rw [e3 p p1 (by omega), e3 q (by omega) p3]; exact hl _ _ (by omega) (by omega) (by omega)
  · rw [e4 p p1 (by omega), e4 q (by omega) p3]; exact hr _ _ (by omega) (by omega) (by omega)
  · rw [e1 p p1 p2, e2 q p3 p4]; exact hx _ _ (by omega) (by omega) (by omega) (by omega)
  · rw [e3 p p1 p2, e4 q p3 p4]; exact hx _ _ (by omega) (by omega) (by omega) (by omega)
  · rcases Nat.lt_or_ge p start with c1 | c1 <;> rcases Nat.lt_or_ge q ((a + b) / 2 + m - start) with c2 | c2
    · rw [e1 p p1 c1, e3 q p3 c2]; exact hl _ _ (by omega) (by omega) (by omega)
    · rw [e1 p p1 c1, e4 q c2 p4]; exact f1 _ _ p1 c1 c2 p4
    · rw [e2 p c1 p2, e3 q p3 c2]; exact f2 _ _ (by omega) (by omega) (by omega) (by omega)
    · rw [e2 p c1 p2, e4 q c2 p4]; exact hr _ _ (by omega) (by omega) (by omega)
/-- a rotation of the two inner runs -/
theorem Half.rot (o : Ord lt R V) {e : Array α} {start : Nat} (c : CutAt lt d a m b start) (h1 : a < m) (h2 : m < b) (hs : b ≤ d.size) (hl : Srt R d a m) (hr : Srt R d m b) (hx : Crs V d a m b)
    (r : Rot d e start m ((a + b) / 2 + m - start)) : Half R V d e a m b start := by
  have s1 := c.s1
  have s2 := c.s2
  have s3 := c.s3
  have s4 := c.s4
  have s5 := c.s5
  refine Half.of o c h1 h2 hs hl hr hx r.size (permIn_mono _ _ _ _ _ _ s1 s5 hs r.perm) fun p p1 p2 => ?_
  by_cases c1 : p < start
  · rw [if_pos c1]; exact r.rest p (.inl c1)
  · rw [if_neg c1]
    by_cases c2 : (a + b) / 2 + m - start ≤ p
    · rw [if_neg (by omega), if_neg (by omega)]; exact r.rest p (.inr c2)
    · rw [r.all p (by omega) (by omega)]
      unfold rotF
      by_cases c3 : p < (a + b) / 2
      · rw [if_pos (by omega), if_pos c3]
      · rw [if_neg (by omega), if_neg c3, if_pos (by omega)]; exact gix (by omega)
/-- one of the inner runs is empty: nothing is rotated -/
theorem Half.none (o : Ord lt R V) {start : Nat} (c : CutAt lt d a m b start) (h1 : a < m) (h2 : m < b) (hs : b ≤ d.size) (hl : Srt R d a m) (hr : Srt R d m b) (hx : Crs V d a m b)
    (hn : start = m ∨ (a + b) / 2 + m - start = m) : Half R V d d a m b start := by
  have s1 := c.s1
  have s2 := c.s2
  have s3 := c.s3
  have s4 := c.s4
  have s5 := c.s5
  refine Half.of o c h1 h2 hs hl hr hx rfl (permIn_refl _ _ _) fun p p1 p2 => ?_
  by_cases c1 : p < start
  · rw [if_pos c1]
  · rw [if_neg c1]
    by_cases c3 : p < (a + b) / 2
    · rw [if_pos c3]; exact gix (by omega)
    · rw [if_neg c3]
      by_cases c2 : p < (a + b) / 2 + m - start
      · rw [if_pos c2]; exact gix (by omega)
      · rw [if_neg c2]
/-- each half merged: all merged -/
theorem Half.done {e e1 e2 : Array α} {start : Nat} (h : Half R V d e a m b start) (h1 : a < m) (h2 : m < b) (hs : b ≤ d.size) (m1 : Mrg R e e1 a ((a + b) / 2)) (m2 : Mrg R e1 e2 ((a + b) / 2) b) : Mrg R d e2 a b := by
  have hz := h.size
  have hz1 := m1.perm.1
  have hz2 := m2.perm.1
  refine ⟨permIn_trans _ _ _ _ _ h.perm (permIn_trans _ _ _ _ _ (permIn_mono _ _ _ _ _ _ (Nat.le_refl _) (by omega) (by omega) m1.perm) (permIn_mono _ _ _ _ _ _ (by omega) (Nat.le_refl _) (by omega) m2.perm)), fun p q p1 p2 p3 => ?_⟩
  have hc := cross_perm (Q := R) (d := e) (by omega) (by omega) (by omega) h.les m1.perm m2.perm
  rcases Nat.lt_or_ge q ((a + b) / 2) with c | c
  · rw [perm_same m2.perm (p := p) (by omega), perm_same m2.perm (p := q) (by omega)]; exact m1.srt p q p1 p2 c
  · rcases Nat.lt_or_ge p ((a + b) / 2) with c' | c'
    · exact hc p q p1 c' c p3
    · exact m2.srt p q c' p2 p3
/-- a half of which one run is empty is in order as it stands -/
theorem Half.left {e : Array α} {start : Nat} (h : Half R V d e a m b start) (hn : start = a ∨ start = (a + b) / 2) : Mrg R e e a ((a + b) / 2) := by
  refine ⟨permIn_refl _ _ _, ?_⟩
  rcases hn with c | c
  · have := h.l2; rw [c] at this; exact this
  · have := h.l1; rw [c] at this; exact this
theorem Half.right {e e1 : Array α} {start : Nat} (h : Half R V d e a m b start) (p1 : PermIn a ((a + b) / 2) e e1) (hn : (a + b) / 2 + m - start = b ∨ (a + b) / 2 + m - start = (a + b) / 2) : Mrg R e1 e1 ((a + b) / 2) b := by
  refine ⟨permIn_refl _ _ _, fun p q a1 a2 a3 => ?_⟩
  rw [perm_same p1 (p := p) (by omega), perm_same p1 (p := q) (by omega)]
  rcases hn with c | c
  · have := h.r1; rw [c] at this; exact this p q a1 a2 a3
  · have := h.r2; rw [c] at this; exact this p q a1 a2 a3
end
end

end Go.Proofs.Ytgbblcbpmpokdaa

/- Walks over functions of this seat, by contract. Conditions: those that each theorem states. -/
import Derived.Test.YtgbblcbpmpokdaaR1
import Derived.Test.YtgbblcbpmpokdaaTi
namespace Go.Proofs.Ytgbblcbpmpokdaa
open Go.RowKit Go.Sort

def gmax (xs : List Int) : Int := xs.foldl max (xs.headD 0)
theorem foldl_max_ge (xs : List Int) (a : Int) : a ≤ xs.foldl max a ∧ ∀ x ∈ xs, x ≤ xs.foldl max a := by
  induction xs generalizing a with
  | nil => simp
  | cons y ys ih =>
    obtain ⟨h1, h2⟩ := ih (max a y)
    simp only [List.foldl_cons, List.mem_cons]
    refine ⟨by omega, ?_⟩
    rintro x (rfl | hx)
    · omega
    · exact h2 x hx
theorem foldl_max_mem (xs : List Int) (a : Int) : xs.foldl max a = a ∨ xs.foldl max a ∈ xs := by
  induction xs generalizing a with
  | nil => simp
  | cons y ys ih =>
    simp only [List.foldl_cons, List.mem_cons]
    rcases ih (max a y) with h | h
    · rw [h]; rcases Int.le_total a y with h1 | h1
      · right; left; omega
      · left; omega
    · right; right; exact h
theorem gmax_ge {xs : List Int} {k : Nat} {x : Int} (h : xs[k]? = some x) : x ≤ gmax xs := (foldl_max_ge xs _).2 x (List.mem_of_getElem? h)
theorem gmax_mem {xs : List Int} (h : 0 < xs.length) : gmax xs ∈ xs := by
  cases xs with
  | nil => simp at h
  | cons y ys =>
    rcases foldl_max_mem (y :: ys) y with h | h
    · have : gmax (y :: ys) = y := h
      rw [this]; exact List.mem_cons.2 (.inl rfl)
    · exact h
theorem idxs_first {p : Nat → Bool} {n q : Nat} (hq : q < n) (h : p q = true) (hlt : ∀ j, j < q → p j = false) : (idxs p n)[0]? = some (q : Int) := by
  have h0 : ∀ k, k ≤ q → idxs p k = [] := by
    intro k
    induction k with
    | zero => intro _; rfl
    | succ k ih => intro hk; rw [idxs_no (hlt k (by omega)), ih (by omega)]
  have h1 : ∀ d, (idxs p (q + 1 + d))[0]? = some (q : Int) := by
    intro d
    induction d with
    | zero => rw [Nat.add_zero, idxs_yes h, h0 q (Nat.le_refl _)]; rfl
    | succ d ih =>
      rw [← Nat.add_assoc]
      cases hp : p (q + 1 + d) with
      | false => rw [idxs_no hp]; exact ih
      | true =>
        rw [idxs_yes hp]
        have : 0 < (idxs p (q + 1 + d)).length := (List.getElem?_eq_some_iff.1 ih).1
        rw [List.getElem?_append_left this]; exact ih
  have := h1 (n - (q + 1))
  rwa [show q + 1 + (n - (q + 1)) = n by omega] at this
/-- p is the first place of a greatest one below k -/
def firstMax (xs : List Int) (k p : Nat) : Prop := p < k ∧ ∃ m, xs[p]? = some m ∧ (∀ j x, j < k → xs[j]? = some x → x ≤ m) ∧ ∀ j x, j < p → xs[j]? = some x → x < m
theorem firstMax_idxs {xs : List Int} {n p : Nat} (h : firstMax xs n p) (hn : xs.length = n) : (idxs (fun i => xs[i]? == some (gmax xs)) n)[0]? = some (p : Int) := by
  obtain ⟨hp, m, hm, h1, h2⟩ := h
  have hg : gmax xs = m := by
    obtain ⟨k, hk, hx⟩ := List.mem_iff_getElem.1 (gmax_mem (xs := xs) (by omega))
    have := h1 k _ (by omega) (by rw [List.getElem?_eq_getElem hk, hx])
    have := gmax_ge hm
    omega
  refine idxs_first hp (by simp [hm, hg]) fun j hj => ?_
  have hjl : j < xs.length := by have := (List.getElem?_eq_some_iff.1 hm).1; omega
  have := h2 j _ hj (List.getElem?_eq_getElem hjl)
  simp [List.getElem?_eq_getElem hjl, hg]; omega
theorem max_def_ (a b : Int) : max a b = if a < b then b else a := by
  split <;> omega
def isum (xs : List Int) : Int := sumBy (fun x => x) xs
def shares (T s : Int) (ws : List Int) : List Int := ws.map fun x => T * x / s
def rests (T s : Int) (ws : List Int) : List Int := ws.map fun x => T * x % s
def leftOf (T s : Int) (ws : List Int) : Int := T - isum (shares T s ws)
def incs (out L : List Int) : List Int := L.foldl (fun o i => o.set i.toNat ((o[i.toNat]?).getD 0 + 1)) out
def zaps (r L : List Int) : List Int := L.foldl (fun r i => r.set i.toNat (-1)) r
def rK (R : List Int) (i : Int) : Int := -((R[i.toNat]?).getD 0)
def all_ (n : Nat) : List Int := idxs (fun _ => true) n
def ordD (R : List Int) : List Int := sortI (rK R) (all_ R.length)
def dues (T s : Int) (ws : List Int) : List Int := incs (shares T s ws) ((ordD (rests T s ws)).take (leftOf T s ws).toNat)
theorem all_mem {n : Nat} {x : Int} : x ∈ all_ n ↔ 0 ≤ x ∧ x < n := by
  unfold all_ idxs
  rw [List.filter_eq_self.2 (fun _ _ => rfl)]
  simp only [List.mem_map, List.mem_range]
  constructor
  · rintro ⟨a, h, rfl⟩; exact ⟨Int.natCast_nonneg a, Int.ofNat_lt.2 h⟩
  · rintro ⟨h0, h1⟩; exact ⟨x.toNat, by omega, Int.toNat_of_nonneg h0⟩
theorem all_len (n : Nat) : (all_ n).length = n := by
  unfold all_ idxs
  rw [List.filter_eq_self.2 (fun _ _ => rfl)]; simp
theorem all_ord (n : Nat) : (all_ n).Pairwise (· < ·) := by
  unfold all_ idxs
  rw [List.pairwise_map]
  refine (List.Pairwise.filter _ List.pairwise_lt_range).imp ?_
  intro a b h
  exact Int.ofNat_lt.2 h
theorem shares_len (T s : Int) (ws : List Int) : (shares T s ws).length = ws.length := by simp [shares]
theorem rests_len (T s : Int) (ws : List Int) : (rests T s ws).length = ws.length := by simp [rests]
theorem ordD_spec (R : List Int) : (ordD R).Pairwise (kR (rK R)) ∧ ∀ y, y ∈ ordD R ↔ y ∈ all_ R.length := sortI_order (all_ord _)
theorem ordD_len (R : List Int) : (ordD R).length = R.length := by
  rw [ordD, sortI, sortI_len, all_len, List.length_nil, Nat.zero_add]
theorem ordD_in (R : List Int) : ∀ x ∈ ordD R, 0 ≤ x ∧ x < R.length := fun x hx => all_mem.1 (((ordD_spec R).2 x).1 hx)
theorem zaps_len : ∀ (L r : List Int), (zaps r L).length = r.length
  | [], _ => rfl
  | i :: L, r => by
    show (zaps (r.set i.toNat (-1)) L).length = _
    rw [zaps_len L, List.length_set]
theorem zaps_get : ∀ (L r : List Int) (j : Nat), j < r.length → (∀ x ∈ L, 0 ≤ x) → (zaps r L)[j]? = if (j : Int) ∈ L then some (-1) else r[j]?
  | [], r, j, _, _ => by simp [zaps]
  | i :: L, r, j, hj, h => by
    show (zaps (r.set i.toNat (-1)) L)[j]? = _
    have hi := h i (by simp)
    rw [zaps_get L _ j (by rw [List.length_set]; exact hj) (fun x hx => h x (List.mem_cons_of_mem _ hx))]
    by_cases h1 : (j : Int) ∈ L
    · rw [if_pos h1, if_pos (List.mem_cons_of_mem _ h1)]
    · rw [if_neg h1]
      by_cases h2 : (j : Int) = i
      · rw [if_pos (by simp [h2]), List.getElem?_set, if_pos (by omega), if_pos (by omega)]
      · rw [if_neg (by simp [h1, h2]), List.getElem?_set, if_neg (by omega)]
theorem firstMax_only {xs : List Int} {k p q : Nat} (h1 : firstMax xs k p) (h2 : firstMax xs k q) : p = q := by
  obtain ⟨a1, m1, b1, c1, d1⟩ := h1
  obtain ⟨a2, m2, b2, c2, d2⟩ := h2
  have e1 := c1 q m2 a2 b2
  have e2 := c2 p m1 a1 b1
  rcases Nat.lt_trichotomy p q with h | h | h
  · have := d2 p m1 h b1; omega
  · exact h
  · have := d1 q m2 h b2; omega
/-- the first greatest of what is left is the next one in the order -/
theorem ordD_max {R : List Int} (hR : ∀ x ∈ R, 0 ≤ x) {k : Nat} {y : Int} (hy : (ordD R)[k]? = some y) : firstMax (zaps R ((ordD R).take k)) R.length y.toNat := by
  obtain ⟨hk, hye⟩ := List.getElem?_eq_some_iff.1 hy
  obtain ⟨y0, y1⟩ := ordD_in R y (List.mem_of_getElem? hy)
  have hpw := List.pairwise_iff_getElem.1 (ordD_spec R).1
  have hz := fun (j : Nat) hj => zaps_get ((ordD R).take k) R j hj (fun x hx => (ordD_in R x (List.mem_of_mem_take hx)).1)
  have hnot : ¬ ((y.toNat : Nat) : Int) ∈ (ordD R).take k := by
    intro hm
    rw [Int.toNat_of_nonneg y0] at hm
    obtain ⟨t, ht⟩ := List.getElem?_of_mem hm
    have htl := (List.getElem?_eq_some_iff.1 ht).1
    rw [List.length_take] at htl
    rw [List.getElem?_take_of_lt (by omega)] at ht
    have h1 := hpw t k (by omega) hk (by omega)
    rw [(List.getElem?_eq_some_iff.1 ht).2, hye] at h1
    exact kR_irrefl h1
  have hyl : y.toNat < R.length := by omega
  have hRy : R[y.toNat]? = some (R[y.toNat]) := List.getElem?_eq_getElem hyl
  have hm0 := hR _ (List.getElem_mem hyl)
  have key : ∀ (j : Nat) (x : Int), j < R.length → (zaps R ((ordD R).take k))[j]? = some x → x = -1 ∨ (j = y.toNat ∧ x = R[y.toNat]) ∨ (x < R[y.toNat] ∨ (x = R[y.toNat] ∧ y < (j : Int))) := by
    intro j x hj hx
    rw [hz j hj] at hx
    by_cases hm : (j : Int) ∈ (ordD R).take k
    · rw [if_pos hm] at hx; injection hx with hx; exact .inl hx.symm
    · rw [if_neg hm] at hx
      have hjm : (j : Int) ∈ ordD R := ((ordD_spec R).2 _).2 (all_mem.2 ⟨by omega, by omega⟩)
      obtain ⟨t, ht⟩ := List.getElem?_of_mem hjm
      obtain ⟨htl, hte⟩ := List.getElem?_eq_some_iff.1 ht
      have htk : k ≤ t := by
        rcases Nat.lt_or_ge t k with h | h
        · exact absurd (List.mem_of_getElem? (show ((ordD R).take k)[t]? = some (j : Int) from by rw [List.getElem?_take_of_lt h]; exact ht)) hm
        · exact h
      by_cases htk' : t = k
      · subst htk'
        rw [hye] at hte
        have hjy : j = y.toNat := by omega
        subst hjy
        rw [hRy] at hx; injection hx with hx
        exact .inr (.inl ⟨rfl, hx.symm⟩)
      · have h1 := hpw k t hk htl (by omega)
        rw [hye, hte] at h1
        unfold kR rK at h1
        rw [Int.toNat_natCast, hx, hRy] at h1
        simp only [Option.getD_some] at h1
        exact .inr (.inr (by omega))
  refine ⟨hyl, R[y.toNat], ?_, fun j x hj hx => ?_, fun j x hj hx => ?_⟩
  · rw [hz _ hyl, if_neg hnot, hRy]
  · rcases key j x hj hx with h | ⟨_, h⟩ | h <;> omega
  · rcases key j x (by omega) hx with h | ⟨h, _⟩ | h <;> omega
theorem zaps_next {R : List Int} {k : Nat} {y : Int} (hy : (ordD R)[k]? = some y) : zaps R ((ordD R).take (k + 1)) = (zaps R ((ordD R).take k)).set y.toNat (-1) := by
  obtain ⟨hk, he⟩ := List.getElem?_eq_some_iff.1 hy
  rw [List.take_succ_eq_append_getElem hk, zaps, List.foldl_append, he]; rfl
theorem incs_next {out L : List Int} {k : Nat} {y : Int} (hy : L[k]? = some y) : incs out (L.take (k + 1)) = (incs out (L.take k)).set y.toNat (((incs out (L.take k))[y.toNat]?).getD 0 + 1) := by
  obtain ⟨hk, he⟩ := List.getElem?_eq_some_iff.1 hy
  rw [List.take_succ_eq_append_getElem hk, incs, List.foldl_append, he]; rfl
theorem incs_len : ∀ (L out : List Int), (incs out L).length = out.length
  | [], _ => rfl
  | i :: L, out => by
    show (incs (out.set i.toNat _) L).length = _
    rw [incs_len L, List.length_set]
/-! ### bounds -/
theorem share_sum (T s : Int) : ∀ ws : List Int, T * isum ws = isum (shares T s ws) * s + isum (rests T s ws)
  | [] => by simp [isum, sumBy, shares, rests]
  | x :: ws => by
    have ih := share_sum T s ws
    have e1 : isum (x :: ws) = x + isum ws := by simp [isum, sumBy]
    have e2 : isum (shares T s (x :: ws)) = T * x / s + isum (shares T s ws) := by simp [isum, sumBy, shares]
    have e3 : isum (rests T s (x :: ws)) = T * x % s + isum (rests T s ws) := by simp [isum, sumBy, rests]
    have e4 := Int.mul_ediv_add_emod (T * x) s
    rw [e1, e2, e3, Int.mul_add, ih, Int.add_mul, Int.mul_comm (T * x / s) s]
    omega
theorem rest_sum {T s : Int} (hs : 0 < s) : ∀ ws : List Int, 0 ≤ isum (rests T s ws) ∧ isum (rests T s ws) ≤ ws.length * s
  | [] => by simp [isum, sumBy, rests]
  | x :: ws => by
    have ih := rest_sum (T := T) hs ws
    have e3 : isum (rests T s (x :: ws)) = T * x % s + isum (rests T s ws) := by simp [isum, sumBy, rests]
    have h1 := Int.emod_nonneg (T * x) (show s ≠ 0 by omega)
    have h2 := Int.emod_lt_of_pos (T * x) hs
    rw [e3, List.length_cons, Int.natCast_add, Int.add_mul]
    omega
theorem left_bd {T s : Int} {ws : List Int} (hs : 0 < s) (hsum : isum ws = s) : 0 ≤ leftOf T s ws ∧ leftOf T s ws ≤ ws.length := by
  have h1 := share_sum T s ws
  have h2 := rest_sum (T := T) hs ws
  have h3 : leftOf T s ws * s = isum (rests T s ws) := by
    rw [leftOf, Int.sub_mul]; rw [hsum] at h1; omega
  constructor
  · refine Int.le_of_mul_le_mul_right (a := s) ?_ hs
    rw [Int.zero_mul, h3]; exact h2.1
  · refine Int.le_of_mul_le_mul_right (a := s) ?_ hs
    rw [h3]; exact h2.2

end Go.Proofs.Ytgbblcbpmpokdaa

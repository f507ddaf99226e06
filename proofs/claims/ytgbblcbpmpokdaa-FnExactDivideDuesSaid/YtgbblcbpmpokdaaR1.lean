/- Walks over functions of this seat, by contract. Conditions: those that each theorem states. -/
import Derived.Test.YtgbblcbpmpokdaaD7
import Derived.Test.YtgbblcbpmpokdaaKey
namespace Go.Proofs.Ytgbblcbpmpokdaa
open Go.RowKit Go.Sort

theorem to_fin {N : Nat} : ∀ (xs : List Int), inDef N xs → ∃ d : Array (Fin N), d.toList.map fI = xs
  | [], _ => ⟨#[], rfl⟩
  | x :: xs, h => by
    obtain ⟨d, hd⟩ := to_fin xs fun y hy => h y (List.mem_cons_of_mem _ hy)
    obtain ⟨h0, h1⟩ := h x (by simp)
    refine ⟨(⟨x.toNat, by omega⟩ :: d.toList).toArray, ?_⟩
    rw [List.toList_toArray, List.map_cons, hd]
    congr 1
    show ((x.toNat : Nat) : Int) = x
    omega
theorem inDef_more {n m : Nat} {xs : List Int} (h : inDef n xs) (hm : n ≤ m) : inDef m xs := fun x hx => by
  have := h x hx; omega
def mK (es : List Q4) (s : Int) (x : Int) : Int := s * metreOf es x
theorem mK_pos (es : List Q4) (x : Int) : mK es 1 x = metreOf es x := Int.one_mul _
theorem mK_neg (es : List Q4) (x : Int) : mK es (-1) x = -metreOf es x := by unfold mK; omega
def lowP (es : List Q4) (f x : Int) : Bool := decide (metreOf es x < f)
def partL (es : List Q4) (f : Int) (b : Bool) (xs : List Int) : List Int := xs.filter fun x => lowP es f x == b
theorem part_yes {es : List Q4} {f : Int} {b : Bool} {xs : List Int} {k : Nat} {x : Int} (hx : xs[k]? = some x) (h : lowP es f x = b) : partL es f b (xs.take (k + 1)) = partL es f b (xs.take k) ++ [x] := by
  obtain ⟨hk, he⟩ := List.getElem?_eq_some_iff.1 hx
  rw [List.take_succ_eq_append_getElem hk, partL, List.filter_append, he]
  congr 1
  rw [List.filter_cons, if_pos (by simp [h])]; rfl
theorem part_no {es : List Q4} {f : Int} {b : Bool} {xs : List Int} {k : Nat} {x : Int} (hx : xs[k]? = some x) (h : lowP es f x ≠ b) : partL es f b (xs.take (k + 1)) = partL es f b (xs.take k) := by
  obtain ⟨hk, he⟩ := List.getElem?_eq_some_iff.1 hx
  rw [List.take_succ_eq_append_getElem hk, partL, List.filter_append, he]
  rw [List.filter_cons, if_neg (by simpa using h)]
  simp [partL]
theorem part_len (es : List Q4) (f : Int) (b : Bool) (xs : List Int) : (partL es f b xs).length ≤ xs.length := List.length_filter_le _ _
theorem part_mem {es : List Q4} {f : Int} {b : Bool} {xs : List Int} {x : Int} (h : x ∈ partL es f b xs) : x ∈ xs := (List.mem_filter.1 h).1
theorem part_ord {es : List Q4} {f : Int} {b : Bool} {xs : List Int} (h : xs.Pairwise (· < ·)) : (partL es f b xs).Pairwise (· < ·) := h.filter _
theorem idxs_ord (p : Nat → Bool) (n : Nat) : (idxs p n).Pairwise (· < ·) := by
  unfold idxs
  rw [List.pairwise_map]
  refine (List.Pairwise.filter p List.pairwise_lt_range).imp ?_
  intro a b h
  exact Int.ofNat_lt.2 h
theorem open_ord (es : List Q4) (day : Int) : (openIdx es day).Pairwise (· < ·) := idxs_ord _ _
def wayOf (es : List Q4) (day f : Int) (b : Bool) : List Int := sortI (mK es (if b then -1 else 1)) (partL es f b (openIdx es day))
def oneOf (es : List Q4) (day f : Int) : List Int := wayOf es day f true ++ wayOf es day f false
def twoOf (es : List Q4) (day f : Int) : List Int := wayOf es day f false ++ wayOf es day f true
def bestOf (es : List Q4) (day f : Int) : List Int := if (routeFold es f (twoOf es day f)).1 < (routeFold es f (oneOf es day f)).1 then twoOf es day f else oneOf es day f
def roCode (es : List Q4) (day f : Int) : Int := if dcode es day ≠ 0 then dcode es day else if inR f 0 300000 = false then 2 else 0
def roOut (es : List Q4) (day f : Int) : List Int := if roCode es day f = 0 then bestOf es day f else []
theorem roOut_neg {es : List Q4} {day f : Int} (h : roCode es day f ≠ 0) : roOut es day f = [] := if_neg h
theorem roOut_pos {es : List Q4} {day f : Int} (h : roCode es day f = 0) : roOut es day f = bestOf es day f := if_pos h
theorem sortI_len0 (K : Int → Int) (xs : List Int) : (sortI K xs).length = xs.length := by
  rw [sortI, sortI_len, List.length_nil, Nat.zero_add]
theorem fold_mem (K : Int → Int) : ∀ (xs L : List Int) (y : Int), y ∈ xs.foldl (insI K) L ↔ y ∈ L ∨ y ∈ xs
  | [], L, y => by simp
  | x :: xs, L, y => by
    rw [List.foldl_cons, fold_mem K xs, insI_mem, List.mem_cons]
    constructor
    · rintro ((h | h) | h)
      · exact .inr (.inl h)
      · exact .inl h
      · exact .inr (.inr h)
    · rintro (h | h | h)
      · exact .inl (.inr h)
      · exact .inl (.inl h)
      · exact .inr h
theorem sortI_mem {K : Int → Int} {xs : List Int} {y : Int} : y ∈ sortI K xs ↔ y ∈ xs := by
  rw [sortI, fold_mem]; simp
theorem open_in (es : List Q4) (day : Int) (n : Nat) (hn : es.length = n) : inDef n (openIdx es day) := fun x hx => by
  obtain ⟨k, rfl, hk, _⟩ := idxs_mem hx
  omega
theorem way_in (es : List Q4) (day f : Int) (b : Bool) (n : Nat) (hn : es.length = n) : inDef n (wayOf es day f b) := fun x hx => open_in es day n hn x (part_mem (sortI_mem.1 hx))
theorem way_len (es : List Q4) (day f : Int) (b : Bool) : (wayOf es day f b).length ≤ es.length := by
  unfold wayOf
  rw [sortI_len0]
  exact Nat.le_trans (part_len _ _ _ _) (idxs_len _ _)
theorem inDef_app {n : Nat} {a b : List Int} (ha : inDef n a) (hb : inDef n b) : inDef n (a ++ b) := fun x hx => by
  rcases List.mem_append.1 hx with h | h
  · exact ha x h
  · exact hb x h

end Go.Proofs.Ytgbblcbpmpokdaa

/- Walks over functions of this seat, by contract. Conditions: those that each theorem states. -/
import Derived.Test.YtiibamemkmffoaaP5
import Derived.Test.YtiibamemkmffoaaApp
namespace Go.Proofs.Ytiibamemkmffoaa
open Go.RowKit Go.Sort

set_option maxHeartbeats 400000 in
theorem impl_indicesWhere (g : Nat) (caps : Array Value) (n : Nat) (p : Nat → Bool) (w : World) (hmax : n ≤ 1048576) (hcall : ∀ args W, (callFunc g args).run Try.prog W = .ok (.enter g args) W)
    (hso : ∀ (i : Nat) (W : World), i < n → Below w.heap.size w W → Calls Try.prog g (#[.int .i64 i] ++ caps) W fun e w' => e = .returned (.bool (p i)) ∧ Below W.heap.size W w') :
    Calls Try.prog 57 #[.int .i64 n, .func (.func g) #[] caps] w fun e w' => ∃ v, e = .returned v ∧ Own w' w.heap.size 2 1 icell v (idxs p n) ∧ Below w.heap.size w w' := by
  obtain ⟨i0, hi, hz0, hz1, hz2⟩ := info_parts info_i64
  have HSO := Lib.hid hso
  clear hso
  go_enter Try.func57, Try.ntmps57
  go_wp2
  go_loopw [5, 6] (fun v i wr => ∃ k : Nat, k ≤ n ∧ i = .int .i64 k ∧ Own wr w.heap.size 2 1 icell v (idxs p k) ∧ Below w.heap.size w wr) (fun _ i _ => n - (intOf i).toNat)
  case atStart => exact ⟨0, by omega, rfl, own_new_empty _ _ _ _ _ (Nat.le_refl _), below_al (Below.refl _ _) _⟩
  case round =>
    obtain ⟨k, hk, rfl, hown, hbel⟩ := hrel
    have Hown := Lib.hid hown
    have hll := idxs_len p k
    clear hown
    by_cases hlt : k < n
    · go_wp2_with (first
        | (at_builtin; refine wpList_push rfl _ _ 34 rfl w.heap.size 2 i0 (.int .i64 0) 1 8 Try.underlying34 hi hz0 hz1 hz2 rfl (by omega) icell_len (fun e u hu => by simp [icell] at hu; subst hu; rfl) _ _ (k : Int) rfl (Hown.out.below hb1 (Nat.le_refl _)) _ rfl _ rfl (by first | rfl | simp) (by omega) (by omega) (by have := hbel.size; have := hb1.size; omega) ?_; intro v2 w2 ho2 hg2; have hbel2 := own_grown (below_then hbel hb1) (Hown.out.below hb1 (Nat.le_refl _)) (Nat.le_refl _) (Nat.le_trans hbel.size hb1.size) hg2; have Ho2 := Lib.hid ho2; clear ho2)
        | (refine (HSO.out k _ hlt hbel).mono ?_; rintro e w1 ⟨rfl, hb1⟩))
      · have hp : p k = true := by assumption
        go_roundw
        case rel => exact ⟨k + 1, by omega, by go_num, by rw [idxs_yes hp]; exact Ho2.out, hbel2⟩
        case measure => simp [intOf]; omega
      · have hp : p k = false := by assumption
        go_roundw
        case rel => exact ⟨k + 1, by omega, by go_num, by rw [idxs_no hp]; exact Hown.out.below hb1 (Nat.le_refl _), below_then hbel hb1⟩
        case measure => simp [intOf]; omega
    · go_wp2
      go_ret
      have hkn : k = n := by omega
      subst hkn
      exact ⟨_, rfl, Hown.out, hbel⟩
def gmax (xs : List Int) : Int := xs.foldl max (xs.headD 0)
theorem foldl_max_ge (xs : List Int) (a : Int) : a ≤ xs.foldl max a ∧ ∀ x ∈ xs, x ≤ xs.foldl max a := by
  induction xs generalizing a with
  | nil => simp
  | cons y ys ih =>
    obtain ⟨h1, h2⟩ := ih (max a y)
    simp only [List.foldl_cons, List.mem_cons]
    refine ⟨by omega, ?_⟩
    rintro x (rfl | hx)
    · omega
    · exact h2 x hx
theorem foldl_max_mem (xs : List Int) (a : Int) : xs.foldl max a = a ∨ xs.foldl max a ∈ xs := by
  induction xs generalizing a with
  | nil => simp
  | cons y ys ih =>
    simp only [List.foldl_cons, List.mem_cons]
    rcases ih (max a y) with h | h
    · rw [h]; rcases Int.le_total a y with h1 | h1
      · right; left; omega
      · left; omega
    · right; right; exact h
theorem gmax_ge {xs : List Int} {k : Nat} {x : Int} (h : xs[k]? = some x) : x ≤ gmax xs := (foldl_max_ge xs _).2 x (List.mem_of_getElem? h)
theorem gmax_mem {xs : List Int} (h : 0 < xs.length) : gmax xs ∈ xs := by
  cases xs with
  | nil => simp at h
  | cons y ys =>
    rcases foldl_max_mem (y :: ys) y with h | h
    · have : gmax (y :: ys) = y := h
      rw [this]; exact List.mem_cons.2 (.inl rfl)
    · exact h
theorem idxs_first {p : Nat → Bool} {n q : Nat} (hq : q < n) (h : p q = true) (hlt : ∀ j, j < q → p j = false) : (idxs p n)[0]? = some (q : Int) := by
  have h0 : ∀ k, k ≤ q → idxs p k = [] := by
    intro k
    induction k with
    | zero => intro _; rfl
    | succ k ih => intro hk; rw [idxs_no (hlt k (by omega)), ih (by omega)]
  have h1 : ∀ d, (idxs p (q + 1 + d))[0]? = some (q : Int) := by
    intro d
    induction d with
    | zero => rw [Nat.add_zero, idxs_yes h, h0 q (Nat.le_refl _)]; rfl
    | succ d ih =>
      rw [← Nat.add_assoc]
      cases hp : p (q + 1 + d) with
      | false => rw [idxs_no hp]; exact ih
      | true =>
        rw [idxs_yes hp]
        have : 0 < (idxs p (q + 1 + d)).length := (List.getElem?_eq_some_iff.1 ih).1
        rw [List.getElem?_append_left this]; exact ih
  have := h1 (n - (q + 1))
  rwa [show q + 1 + (n - (q + 1)) = n by omega] at this
/-- p is the first place of a greatest one below k -/
def firstMax (xs : List Int) (k p : Nat) : Prop := p < k ∧ ∃ m, xs[p]? = some m ∧ (∀ j x, j < k → xs[j]? = some x → x ≤ m) ∧ ∀ j x, j < p → xs[j]? = some x → x < m
theorem firstMax_idxs {xs : List Int} {n p : Nat} (h : firstMax xs n p) (hn : xs.length = n) : (idxs (fun i => xs[i]? == some (gmax xs)) n)[0]? = some (p : Int) := by
  obtain ⟨hp, m, hm, h1, h2⟩ := h
  have hg : gmax xs = m := by
    obtain ⟨k, hk, hx⟩ := List.mem_iff_getElem.1 (gmax_mem (xs := xs) (by omega))
    have := h1 k _ (by omega) (by rw [List.getElem?_eq_getElem hk, hx])
    have := gmax_ge hm
    omega
  refine idxs_first hp (by simp [hm, hg]) fun j hj => ?_
  have hjl : j < xs.length := by have := (List.getElem?_eq_some_iff.1 hm).1; omega
  have := h2 j _ hj (List.getElem?_eq_getElem hjl)
  simp [List.getElem?_eq_getElem hjl, hg]; omega
theorem max_def_ (a b : Int) : max a b = if a < b then b else a := by
  split <;> omega
set_option maxHeartbeats 400000 in
theorem impl_greatest (A : Option Addr) (n c : Nat) (xs : List Int) (w : World) (hmax : n ≤ 1048576) (hpos : 0 < n) (h : Sl w w.heap.size 1 icell A n xs) :
    Calls Try.prog 59 #[.slice A n c] w fun e w' => e = .returned (.int .i64 (gmax xs)) ∧ Below w.heap.size w w' := by
  have Hn := Lib.hid h.len
  obtain ⟨b, off, rfl, hb, H⟩ := h.at_ hpos
  obtain ⟨x0, hx0⟩ := h.get hpos
  have c0 := H.i1 hx0
  simp only [Nat.add_zero] at c0
  have hhd : xs.headD 0 = x0 := by cases xs with | nil => simp at hx0 | cons y ys => simpa using hx0
  have Hhd := Lib.hid hhd
  clear hhd hx0
  go_enter Try.func59, Try.ntmps59
  go_wp2
  go_loopw [3, 11] (fun m i wr => ∃ (k : Nat) (s : Int), k ≤ n ∧ i = .int .i64 k ∧ m = .int .i64 s ∧ Hid (s = (xs.take k).foldl max x0) ∧ Below w.heap.size w wr) (fun _ i _ => n - (intOf i).toNat)
  case atStart => exact ⟨0, x0, by omega, rfl, rfl, Lib.hid rfl, Below.refl _ _⟩
  case round =>
    obtain ⟨k, s, hk, rfl, rfl, Hs, hbel⟩ := hrel
    by_cases hlt : k < n
    · obtain ⟨e, he⟩ := h.get hlt
      have c1 := (H.below hbel hb).i1 he
      have He := Lib.hid he
      clear he
      go_wp2
      go_roundw
      case rel =>
        refine ⟨k + 1, _, by omega, by go_num, rfl, Lib.hid ?_, hbel⟩
        obtain ⟨hk', hx'⟩ := List.getElem?_eq_some_iff.1 He.out
        rw [List.take_succ_eq_append_getElem hk', List.foldl_append, ← Hs.out, hx']
        simp only [List.foldl_cons, List.foldl_nil]
        first | rfl | (rw [max_def_]) | (rw [max_def_]; split <;> omega)
      case measure => simp [intOf]; omega
    · go_wp2
      go_ret
      have hkn : k = n := by omega
      subst hkn
      have hl : List.take k xs = xs := List.take_of_length_le (by rw [Hn.out]; omega)
      exact ⟨ret_int (by rw [gmax, Hhd.out, Hs.out, hl]), hbel⟩

end Go.Proofs.Ytiibamemkmffoaa

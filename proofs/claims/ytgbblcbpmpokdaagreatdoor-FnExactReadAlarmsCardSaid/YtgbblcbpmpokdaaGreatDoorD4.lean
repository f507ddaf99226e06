/- Walks over functions of this seat, by contract. Conditions: those that each theorem states. -/
import Derived.Test.YtgbblcbpmpokdaaGreatDoorD2
import Derived.IntWalk
namespace Go.Proofs.YtgbblcbpmpokdaaGreatDoor
open Go.RowKit Go.Sort

theorem impl_size_int64 (A : Option Addr) (n c : Nat) (w : World) (_hn : n ≤ 9223372036854775807) : Calls Tryz.prog 30 #[.slice A n c] w fun e w' => e = .returned (.int .i64 n) ∧ w = w' := by
  go_enter Tryz.func30, Tryz.ntmps30
  go_wp2
  go_ret
  exact ⟨rfl, rfl⟩
def gmax (xs : List Int) : Int := xs.foldl max (xs.headD 0)
theorem foldl_max_ge (xs : List Int) (a : Int) : a ≤ xs.foldl max a ∧ ∀ x ∈ xs, x ≤ xs.foldl max a := by
  induction xs generalizing a with
  | nil => simp
  | cons y ys ih =>
    obtain ⟨h1, h2⟩ := ih (max a y)
    simp only [List.foldl_cons, List.mem_cons]
    refine ⟨by omega, ?_⟩
    rintro x (rfl | hx)
    · omega
    · exact h2 x hx
theorem foldl_max_mem (xs : List Int) (a : Int) : xs.foldl max a = a ∨ xs.foldl max a ∈ xs := by
  induction xs generalizing a with
  | nil => simp
  | cons y ys ih =>
    simp only [List.foldl_cons, List.mem_cons]
    rcases ih (max a y) with h | h
    · rw [h]; rcases Int.le_total a y with h1 | h1
      · right; left; omega
      · left; omega
    · right; right; exact h
theorem gmax_ge {xs : List Int} {k : Nat} {x : Int} (h : xs[k]? = some x) : x ≤ gmax xs := (foldl_max_ge xs _).2 x (List.mem_of_getElem? h)
theorem gmax_mem {xs : List Int} (h : 0 < xs.length) : gmax xs ∈ xs := by
  cases xs with
  | nil => simp at h
  | cons y ys =>
    rcases foldl_max_mem (y :: ys) y with h | h
    · have : gmax (y :: ys) = y := h
      rw [this]; exact List.mem_cons.2 (.inl rfl)
    · exact h
theorem idxs_first {p : Nat → Bool} {n q : Nat} (hq : q < n) (h : p q = true) (hlt : ∀ j, j < q → p j = false) : (idxs p n)[0]? = some (q : Int) := by
  have h0 : ∀ k, k ≤ q → idxs p k = [] := by
    intro k
    induction k with
    | zero => intro _; rfl
    | succ k ih => intro hk; rw [idxs_no (hlt k (by omega)), ih (by omega)]
  have h1 : ∀ d, (idxs p (q + 1 + d))[0]? = some (q : Int) := by
    intro d
    induction d with
    | zero => rw [Nat.add_zero, idxs_yes h, h0 q (Nat.le_refl _)]; rfl
    | succ d ih =>
      rw [← Nat.add_assoc]
      cases hp : p (q + 1 + d) with
      | false => rw [idxs_no hp]; exact ih
      | true =>
        rw [idxs_yes hp]
        have : 0 < (idxs p (q + 1 + d)).length := (List.getElem?_eq_some_iff.1 ih).1
        rw [List.getElem?_append_left this]; exact ih
  have := h1 (n - (q + 1))
  rwa [show q + 1 + (n - (q + 1)) = n by omega] at this
/-- p is the first place of a greatest one below k -/
def firstMax (xs : List Int) (k p : Nat) : Prop := p < k ∧ ∃ m, xs[p]? = some m ∧ (∀ j x, j < k → xs[j]? = some x → x ≤ m) ∧ ∀ j x, j < p → xs[j]? = some x → x < m
theorem firstMax_idxs {xs : List Int} {n p : Nat} (h : firstMax xs n p) (hn : xs.length = n) : (idxs (fun i => xs[i]? == some (gmax xs)) n)[0]? = some (p : Int) := by
  obtain ⟨hp, m, hm, h1, h2⟩ := h
  have hg : gmax xs = m := by
    obtain ⟨k, hk, hx⟩ := List.mem_iff_getElem.1 (gmax_mem (xs := xs) (by omega))
    have := h1 k _ (by omega) (by rw [List.getElem?_eq_getElem hk, hx])
    have := gmax_ge hm
    omega
  refine idxs_first hp (by simp [hm, hg]) fun j hj => ?_
  have hjl : j < xs.length := by have := (List.getElem?_eq_some_iff.1 hm).1; omega
  have := h2 j _ hj (List.getElem?_eq_getElem hjl)
  simp [List.getElem?_eq_getElem hjl, hg]; omega
theorem max_def_ (a b : Int) : max a b = if a < b then b else a := by
  split <;> omega
def hasB (xs : List Int) (x : Int) : Bool := xs.any (fun y => y == x)
theorem hasB_yes {xs : List Int} {x : Int} {k : Nat} {y : Int} (h : xs[k]? = some y) (e : (y == x) = true) : hasB xs x = true := by
  rw [hasB, List.any_eq_true]; exact ⟨y, List.mem_of_getElem? h, e⟩
theorem hasB_no {xs : List Int} {x : Int} (h : ∀ (k : Nat) y, xs[k]? = some y → (y == x) = false) : hasB xs x = false := by
  rw [hasB, List.any_eq_false]
  intro y hy
  obtain ⟨k, hk, rfl⟩ := List.mem_iff_getElem.1 hy
  have := h k _ (List.getElem?_eq_getElem hk)
  simp [this]
theorem hasB_iff {xs : List Int} {x : Int} : hasB xs x = true ↔ x ∈ xs := by
  rw [hasB, List.any_eq_true]
  constructor
  · rintro ⟨y, hy, e⟩
    have : y = x := by simpa using e
    exact this ▸ hy
  · intro h; exact ⟨x, h, by simp⟩
def absI (x : Int) : Int := if x < 0 then -x else x
theorem impl_abs (x : Int) (h1 : -1000000000000 ≤ x) (h2 : x ≤ 1000000000000) (w : World) : Calls Tryz.prog 49 #[.int .i64 x] w fun e w' => e = .returned (.int .i64 (absI x)) ∧ w = w' := by
  go_enter Tryz.func49, Tryz.ntmps49
  go_wp2
  all_goals (go_ret; exact ⟨ret_int (by unfold absI; (repeat' split) <;> omega), rfl⟩)
theorem spec_l02Size (x : Int) (h1 : -1000000000000 ≤ x) (h2 : x ≤ 1000000000000) (w : World) : Calls Tryz.prog 33 #[.int .i64 x] w fun e w' => e = .returned (.int .i64 (absI x)) ∧ w = w' := by
  go_enter Tryz.func33, Tryz.ntmps33
  go_wp2
  all_goals (go_ret; exact ⟨ret_int (by unfold absI; (repeat' split) <;> omega), rfl⟩)
section
variable {p : Q4 → Bool} {es : List Q4}
theorem fi_at {k : Nat} {e : Q4} (h : ∀ j x, j < k → es[j]? = some x → p x = false) (he : es[k]? = some e) (hp : p e = true) : es.findIdx p = k := by
  obtain ⟨hk, hx⟩ := List.getElem?_eq_some_iff.1 he
  rw [List.findIdx_eq hk]
  exact ⟨by rw [hx]; exact hp, fun j hj => h j _ hj (List.getElem?_eq_getElem _)⟩
theorem fi_none (h : ∀ (j : Nat) x, es[j]? = some x → p x = false) : es.findIdx p = es.length := by
  rw [List.findIdx_eq_length]
  intro x hx
  obtain ⟨k, hk, rfl⟩ := List.mem_iff_getElem.1 hx
  exact h k _ (List.getElem?_eq_getElem hk)
theorem fi_get (h : es.findIdx p < es.length) : ∃ e, es[es.findIdx p]? = some e ∧ p e = true :=
  ⟨es[es.findIdx p], List.getElem?_eq_getElem h, List.findIdx_getElem⟩
theorem fi_lt {j : Nat} {x : Q4} (hj : j < es.findIdx p) (hx : es[j]? = some x) : p x = false := by
  obtain ⟨hk, rfl⟩ := List.getElem?_eq_some_iff.1 hx
  simpa using List.not_of_lt_findIdx hj
end
def idIs (id : Int) (q : Q4) : Bool := q.a == id
def idGe (id : Int) (q : Q4) : Bool := decide (id ≤ q.a)
/-- the place of an id, the length where it is not there -/
def fnd (es : List Q4) (id : Int) : Nat := es.findIdx (idIs id)
def fndR (es : List Q4) (id : Int) : Int := if fnd es id < es.length then fnd es id else -1
/-- the first place that is not below an id -/
def pat (es : List Q4) (id : Int) : Nat := es.findIdx (idGe id)
def thr (es : List Q4) (id : Int) : Bool := (es[pat es id]?).any (idIs id)
theorem fnd_le (es : List Q4) (id : Int) : fnd es id ≤ es.length := List.findIdx_le_length
theorem pat_le (es : List Q4) (id : Int) : pat es id ≤ es.length := List.findIdx_le_length
/-- the ids rise -/
def rising (es : List Q4) : Prop := ∀ (i j : Nat) x y, i < j → es[i]? = some x → es[j]? = some y → x.a < y.a
theorem rising_of {es : List Q4} (h : ∀ (k : Nat) e e', es[k]? = some e → es[k+1]? = some e' → e.a < e'.a) : rising es := by
  intro i j
  induction j with
  | zero => intro x y hij; omega
  | succ j ih =>
    intro x y hij hx hy
    have hj : j < es.length := by have := (List.getElem?_eq_some_iff.1 hy).1; omega
    have h1 := h j _ y (List.getElem?_eq_getElem hj) hy
    rcases Nat.lt_or_ge i j with h2 | h2
    · have := ih x _ h2 hx (List.getElem?_eq_getElem hj); omega
    · have : i = j := by omega
      subst this
      rw [List.getElem?_eq_getElem hj] at hx; injection hx with hx; subst hx; exact h1
theorem thr_fnd {es : List Q4} {id : Int} (h : rising es) : thr es id = decide (fnd es id < es.length) := by
  by_cases hf : fnd es id < es.length
  · obtain ⟨e, he, hp⟩ := fi_get hf
    have hid : e.a = id := by simpa [idIs] using hp
    have : pat es id = fnd es id := fi_at (fun j x hj hx => by
      have := h j _ x e hj hx he
      simp [idGe]; omega) he (by simp [idGe, hid])
    rw [thr, this]
    have he' : es[fnd es id]? = some e := he
    rw [he']; simp [hp, hf]
  · have hn : ∀ (j : Nat) x, es[j]? = some x → idIs id x = false := fun j x hx => fi_lt (p := idIs id) (by
      have := (List.getElem?_eq_some_iff.1 hx).1
      have e1 : es.findIdx (idIs id) = fnd es id := rfl
      omega) hx
    have : thr es id = false := by
      unfold thr
      cases hx : es[pat es id]? with
      | none => rfl
      | some e => exact hn _ e hx
    rw [this]; simp [hf]
theorem pat_fnd {es : List Q4} {id : Int} (h : rising es) (hf : fnd es id < es.length) : pat es id = fnd es id := by
  obtain ⟨e, he, hp⟩ := fi_get hf
  have hid : e.a = id := by simpa [idIs] using hp
  exact fi_at (fun j x hj hx => by
    have := h j _ x e hj hx he
    simp [idGe]; omega) he (by simp [idGe, hid])
def lvl (n : Int) : Bool := inR n (-2000) 2000
def iLt (a b : Int) : Bool := decide (a < b)
def alarmsOk (es : List Int) : Bool := inR es.length 1 5 && okList lvl iLt es
/-- is the k-th alarm at or below the level -/
def stP (es : List Int) (x : Int) (k : Nat) : Bool := match es[k]? with | some e => decide (e ≤ x) | none => false
theorem stP_at {es : List Int} {x e : Int} {k : Nat} (h : es[k]? = some e) : stP es x k = decide (e ≤ x) := by rw [stP, h]
def stN (es : List Int) (x : Int) (k : Nat) : Nat := (idxs (stP es x) k).length
def stg (es : List Int) (x : Int) : Nat := stN es x es.length
theorem stN_le (es : List Int) (x : Int) (k : Nat) : stN es x k ≤ k := idxs_len _ _
theorem stN_zero (es : List Int) (x : Int) : stN es x 0 = 0 := rfl
theorem stN_yes {es : List Int} {x : Int} {k : Nat} (h : stP es x k = true) : stN es x (k + 1) = stN es x k + 1 := by simp [stN, idxs_yes h]
theorem stN_no {es : List Int} {x : Int} {k : Nat} (h : stP es x k = false) : stN es x (k + 1) = stN es x k := by simp [stN, idxs_no h]
def alCode (es ls : List Int) (hold : Int) : Int := if alarmsOk es = false then 1 else if ls.all lvl = false ∨ 200 < ls.length then 2 else if inR hold 0 100 = false then 2 else 0
/-- the stage of the k-th level -/
def sAt (es ls : List Int) (k : Nat) : Int := match ls[k]? with | some x => (stg es x : Int) | none => 0
theorem sAt_get {es ls : List Int} {k : Nat} {x : Int} (h : ls[k]? = some x) : sAt es ls k = (stg es x : Int) := by rw [sAt, h]
theorem sAt_bd (es ls : List Int) (k : Nat) : 0 ≤ sAt es ls k ∧ sAt es ls k ≤ es.length := by
  unfold sAt; split
  · have := stN_le es (by assumption) es.length; unfold stg; omega
  · omega
/-- the greatest of b and S lo .. S (lo + d - 1) -/
def mxS (S : Nat → Int) (lo : Nat) (b : Int) : Nat → Int
  | 0 => b
  | d + 1 => if mxS S lo b d > S (lo + d) then mxS S lo b d else S (lo + d)
theorem mxS_succ (S : Nat → Int) (lo : Nat) (b : Int) (d : Nat) : mxS S lo b (d + 1) = if mxS S lo b d > S (lo + d) then mxS S lo b d else S (lo + d) := rfl
theorem mxS_ge (S : Nat → Int) (lo : Nat) (b : Int) : ∀ d, b ≤ mxS S lo b d ∧ ∀ j, j < d → S (lo + j) ≤ mxS S lo b d := by
  intro d
  induction d with
  | zero => exact ⟨Int.le_refl _, fun j hj => by omega⟩
  | succ d ih =>
    rw [mxS_succ]
    refine ⟨by split <;> omega, fun j hj => ?_⟩
    rcases Nat.lt_or_ge j d with h | h
    · have := ih.2 j h; split <;> omega
    · have : j = d := by omega
      subst this; split <;> omega
theorem mxS_mem (S : Nat → Int) (lo : Nat) (b : Int) : ∀ d, mxS S lo b d = b ∨ ∃ j, j < d ∧ mxS S lo b d = S (lo + j) := by
  intro d
  induction d with
  | zero => exact .inl rfl
  | succ d ih =>
    rw [mxS_succ]
    split
    · rcases ih with h | ⟨j, hj, h⟩
      · exact .inl h
      · exact .inr ⟨j, by omega, h⟩
    · exact .inr ⟨d, by omega, rfl⟩
theorem mxS_bd {S : Nat → Int} {lo : Nat} {b B : Int} (hS : ∀ k, 0 ≤ S k ∧ S k ≤ B) (h0 : 0 ≤ b) (h1 : b ≤ B) (d : Nat) : 0 ≤ mxS S lo b d ∧ mxS S lo b d ≤ B := by
  have := (mxS_ge S lo b d).1
  rcases mxS_mem S lo b d with h | ⟨j, _, h⟩
  · omega
  · have := hS (lo + j); omega
/-- one hour on -/
def nxt (S : Nat → Int) (hold k : Nat) (now : Int) : Int := if now ≤ S k then S k else if hold ≤ k then (if now < mxS S (k - hold) (S k) hold then now else mxS S (k - hold) (S k) hold) else now
def nowA (S : Nat → Int) (hold : Nat) : Nat → Int
  | 0 => 0
  | k + 1 => nxt S hold k (nowA S hold k)
theorem nowA_succ (S : Nat → Int) (hold k : Nat) : nowA S hold (k + 1) = nxt S hold k (nowA S hold k) := rfl
theorem nxt_bd {S : Nat → Int} {hold k : Nat} {now B : Int} (hS : ∀ k, 0 ≤ S k ∧ S k ≤ B) (h0 : 0 ≤ now) (h1 : now ≤ B) : 0 ≤ nxt S hold k now ∧ nxt S hold k now ≤ B := by
  have := hS k
  have := mxS_bd (lo := k - hold) hS (hS k).1 (hS k).2 hold
  unfold nxt; split
  · omega
  · split
    · split <;> omega
    · omega
theorem nowA_bd {S : Nat → Int} {hold : Nat} {B : Int} (hB : 0 ≤ B) (hS : ∀ k, 0 ≤ S k ∧ S k ≤ B) (k : Nat) : 0 ≤ nowA S hold k ∧ nowA S hold k ≤ B := by
  induction k with
  | zero => exact ⟨Int.le_refl _, hB⟩
  | succ k ih => rw [nowA_succ]; exact nxt_bd hS ih.1 ih.2
def stagesTo (S : Nat → Int) (hold k : Nat) : List Int := (List.range k).map fun j => nowA S hold (j + 1)
theorem stagesTo_len (S : Nat → Int) (hold k : Nat) : (stagesTo S hold k).length = k := by simp [stagesTo]
theorem stagesTo_succ (S : Nat → Int) (hold k : Nat) : stagesTo S hold (k + 1) = stagesTo S hold k ++ [nowA S hold (k + 1)] := by simp [stagesTo, List.range_succ]
theorem stagesTo_get {S : Nat → Int} {hold k j : Nat} (h : j < k) : (stagesTo S hold k)[j]? = some (nowA S hold (j + 1)) := by simp [stagesTo, h]
def sTo (S : Nat → Int) (k : Nat) : List Int := (List.range k).map S
theorem sTo_len (S : Nat → Int) (k : Nat) : (sTo S k).length = k := by simp [sTo]
theorem sTo_succ (S : Nat → Int) (k : Nat) : sTo S (k + 1) = sTo S k ++ [S k] := by simp [sTo, List.range_succ]
theorem sTo_get {S : Nat → Int} {k j : Nat} (h : j < k) : (sTo S k)[j]? = some (S j) := by simp [sTo, h]
theorem gmax_sTo (S : Nat → Int) (hold k : Nat) (h : hold ≤ k) : gmax ((sTo S (k + 1)).drop (k - hold)) = mxS S (k - hold) (S k) hold := by
  have hg : ∀ j, k - hold ≤ j → j ≤ k → ((sTo S (k + 1)).drop (k - hold))[j - (k - hold)]? = some (S j) := fun j h1 h2 => by
    rw [List.getElem?_drop, show k - hold + (j - (k - hold)) = j from by omega]; exact sTo_get (by omega)
  have h1 := gmax_ge (hg k (by omega) (by omega))
  have hl : ((sTo S (k + 1)).drop (k - hold)).length = hold + 1 := by rw [List.length_drop, sTo_len]; omega
  obtain ⟨i, hi, hx⟩ := List.mem_iff_getElem.1 (gmax_mem (xs := (sTo S (k + 1)).drop (k - hold)) (by omega))
  have hi' := hg (k - hold + i) (by omega) (by omega)
  rw [show k - hold + i - (k - hold) = i from by omega, List.getElem?_eq_getElem hi, hx] at hi'
  injection hi' with hi'
  obtain ⟨g1, g2⟩ := mxS_ge S (k - hold) (S k) hold
  apply Int.le_antisymm
  · rw [hi']
    rcases Nat.lt_or_ge i hold with h | h
    · exact g2 i h
    · have : k - hold + i = k := by omega
      rw [this]; exact g1
  · rcases mxS_mem S (k - hold) (S k) hold with h | ⟨j, hj, h⟩
    · rw [h]; exact h1
    · rw [h]; exact gmax_ge (hg (k - hold + j) (by omega) (by omega))
theorem nxt_impl {S : Nat → Int} {hold k : Nat} {now m : Int} (hm : m = max now (S k)) (hk : hold ≤ k) : nxt S hold k now = min m (gmax ((sTo S (k + 1)).drop (k - hold))) := by
  have h1 := (mxS_ge S (k - hold) (S k) hold).1
  rw [gmax_sTo S hold k hk, nxt, hm]
  split
  · omega
  · first | (rw [if_pos hk]; split <;> omega) | (split <;> omega)
theorem nxt_impl0 {S : Nat → Int} {hold k : Nat} {now m : Int} (hm : m = max now (S k)) (hk : k < hold) : nxt S hold k now = m := by
  rw [nxt, hm]
  split
  · omega
  · first | (rw [if_neg (by omega)]; omega) | omega
def alRes (es ls : List Int) (hold : Int) : List Int := if alCode es ls hold = 0 then stagesTo (sAt es ls) hold.toNat ls.length else []
theorem alRes_len (es ls : List Int) (hold : Int) : (alRes es ls hold).length ≤ ls.length := by
  unfold alRes; split <;> simp [stagesTo_len]
def escP (xs : List Int) (k : Nat) : Bool := match xs[k]? with | some x => decide ((if k = 0 then 0 else (xs[k-1]?).getD 0) < x) | none => false
def escRes (es ls : List Int) (hold : Int) : List Int := idxs (escP (alRes es ls hold)) (alRes es ls hold).length
theorem in_r (n lo hi : Int) (r : Bool) (hr : inR n lo hi = r) (w : World) : Calls Tryz.prog 29 #[.int .i64 n, .int .i64 lo, .int .i64 hi] w fun e w' => e = .returned (.bool r) ∧ w = w' := by
  subst hr; exact impl_in n lo hi w
theorem l00In_r (n lo hi : Int) (r : Bool) (hr : inR n lo hi = r) (w : World) : Calls Tryz.prog 17 #[.int .i64 n, .int .i64 lo, .int .i64 hi] w fun e w' => e = .returned (.bool r) ∧ w = w' := by
  subst hr; exact spec_l00In n lo hi w
set_option maxHeartbeats 400000 in
theorem spec_l00Rises (A : Option Addr) (n c : Nat) (es : List Int) (w : World) (hmax : n ≤ 1048576) (h : Sl w w.heap.size 1 icell A n es) :
    Calls Tryz.prog 20 #[.slice A n c, .int .i64 (-2000), .int .i64 2000] w fun e w' => e = .returned (.bool (okList lvl iLt es)) ∧ Below w.heap.size w w' := by
  have Hn := Lib.hid h.len
  go_enter Tryz.func20, Tryz.ntmps20
  go_wp2
  go_loopw [7] (fun i wr => ∃ k : Nat, k ≤ n ∧ i = .int .i64 k ∧ Hid (okTo lvl iLt es k) ∧ Below w.heap.size w wr) (fun i _ => n - (intOf i).toNat)
  case atStart => exact ⟨0, by omega, rfl, Lib.hid okTo_zero, Below.refl _ _⟩
  case round =>
    obtain ⟨k, hk, rfl, Hgood, hbel⟩ := hrel
    by_cases hlt : k < n
    · obtain ⟨b, off, rfl, hb, H⟩ := h.at_ (by omega)
      obtain ⟨e, he⟩ := h.get hlt
      have c0 := (H.below hbel hb).i1c (Nat.lt_of_lt_of_le hb hbel.size) he
      have c1 := (H.below hbel hb).i1 he
      have He := Lib.hid he
      clear he
      rcases Bool.eq_false_or_eq_true (inR e (-2000) 2000) with hl | hl
      · have Hl := Lib.hid hl
        clear hl
        rcases Nat.eq_zero_or_pos k with hk0 | hk0
        · subst hk0
          simp only [Nat.add_zero] at c0 c1
          go_wp2_with fail
          refine wp_region_quiet_below (by kernel_rfl) (by kernel_rfl) ?_
          repeat (go_big_quiet_step (exact Calls.regrown_of (calls_below (l00In_r _ _ _ true Hl.out _))))
          refine wpQuiet_nil ?_
          intro wq hwq
          have hbq := below_then hbel (below_of_class hwq)
          clear hwq c0 c1
          go_wp2_with fail
          go_roundw
          case rel => exact ⟨1, by omega, by go_num, Lib.hid (okTo_succ Hgood.out He.out Hl.out (fun e' h0 _ => absurd h0 (by omega))), hbq⟩
          case measure => simp [intOf]; omega
        · obtain ⟨e', he'⟩ := h.get (k := k - 1) (by omega)
          have d0 := (H.below hbel hb).i1c (Nat.lt_of_lt_of_le hb hbel.size) he'
          have He' := Lib.hid he'
          clear he'
          have hkk : (0 : Int) < (k : Int) := by omega
          rcases Int.lt_or_le e' e with hle | hle
          · go_wp2_with fail
            refine wp_region_quiet_below (by kernel_rfl) (by kernel_rfl) ?_
            repeat (go_big_quiet_step (exact Calls.regrown_of (calls_below (l00In_r _ _ _ true Hl.out _))))
            refine wpQuiet_nil ?_
            intro wq hwq
            have hbq := below_then hbel (below_of_class hwq)
            clear hwq c0 d0 c1
            go_wp2_with fail
            go_roundw
            case rel => exact ⟨k + 1, by omega, by go_num, Lib.hid (okTo_succ Hgood.out He.out Hl.out (fun x _ hx => by rw [He'.out] at hx; injection hx with hx; subst hx; simp [iLt]; omega)), hbq⟩
            case measure => simp [intOf]; omega
          · go_wp2_with fail
            refine wp_region_quiet_below (by kernel_rfl) (by kernel_rfl) ?_
            repeat (go_big_quiet_step (exact Calls.regrown_of (calls_below (l00In_r _ _ _ true Hl.out _))))
            refine wpQuiet_nil ?_
            intro wq hwq
            have hbq := below_then hbel (below_of_class hwq)
            clear hwq c0 d0 c1
            go_wp2_with fail
            go_ret
            exact ⟨ret_bool (by symm; exact okList_no2 (k := k - 1) He'.out (by rw [Nat.sub_add_cancel hk0]; exact He.out) (by simp [iLt]; omega)), hbq⟩
      · have Hl := Lib.hid hl
        clear hl
        go_wp2_with fail
        refine wp_region_quiet_below (by kernel_rfl) (by kernel_rfl) ?_
        repeat (go_big_quiet_step (exact Calls.regrown_of (calls_below (l00In_r _ _ _ false Hl.out _))))
        refine wpQuiet_nil ?_
        intro wq hwq
        have hbq := below_then hbel (below_of_class hwq)
        clear hwq c0 c1
        go_wp2_with fail
        go_ret
        exact ⟨ret_bool (by symm; exact okList_no1 He.out Hl.out), hbq⟩
    · go_wp2
      go_ret
      have hkn : k = n := by omega
      subst hkn
      exact ⟨ret_bool (by rw [okTo_all Hgood.out Hn.out]), hbel⟩
set_option maxHeartbeats 400000 in
theorem impl_rises (A : Option Addr) (n c : Nat) (es : List Int) (w : World) (hmax : n ≤ 1048576) (h : Sl w w.heap.size 1 icell A n es) :
    Calls Tryz.prog 31 #[.slice A n c, .int .i64 (-2000), .int .i64 2000] w fun e w' => e = .returned (.bool (okList lvl iLt es)) ∧ Below w.heap.size w w' := by
  have Hn := Lib.hid h.len
  go_enter Tryz.func31, Tryz.ntmps31
  go_wp2
  go_loopw [11] (fun i wr => ∃ k : Nat, k ≤ n ∧ i = .int .i64 k ∧ Hid (okTo lvl iLt es k) ∧ Below w.heap.size w wr) (fun i _ => n - (intOf i).toNat)
  case atStart => exact ⟨0, by omega, rfl, Lib.hid okTo_zero, Below.refl _ _⟩
  case round =>
    obtain ⟨k, hk, rfl, Hgood, hbel⟩ := hrel
    by_cases hlt : k < n
    · obtain ⟨b, off, rfl, hb, H⟩ := h.at_ (by omega)
      obtain ⟨e, he⟩ := h.get hlt
      have c0 := (H.below hbel hb).i1c (Nat.lt_of_lt_of_le hb hbel.size) he
      have c1 := (H.below hbel hb).i1 he
      have He := Lib.hid he
      clear he
      rcases Bool.eq_false_or_eq_true (inR e (-2000) 2000) with hl | hl
      · have Hl := Lib.hid hl
        clear hl
        rcases Nat.eq_zero_or_pos k with hk0 | hk0
        · subst hk0
          simp only [Nat.add_zero] at c0 c1
          go_wp2_with (go_at_call 29; refine (in_r _ _ _ true Hl.out _).mono ?_; rintro e' w' ⟨rfl, rfl⟩)
          have hbq := hbel
          go_roundw
          case rel => exact ⟨1, by omega, by go_num, Lib.hid (okTo_succ Hgood.out He.out Hl.out (fun e' h0 _ => absurd h0 (by omega))), hbq⟩
          case measure => simp [intOf]; omega
        · obtain ⟨e', he'⟩ := h.get (k := k - 1) (by omega)
          have d0 := (H.below hbel hb).i1 he'
          have He' := Lib.hid he'
          clear he'
          have hkk : (0 : Int) < (k : Int) := by omega
          rcases Int.lt_or_le e' e with hle | hle
          · go_wp2_with (go_at_call 29; refine (in_r _ _ _ true Hl.out _).mono ?_; rintro e' w' ⟨rfl, rfl⟩)
            have hbq := hbel
            go_roundw
            case rel => exact ⟨k + 1, by omega, by go_num, Lib.hid (okTo_succ Hgood.out He.out Hl.out (fun x _ hx => by rw [He'.out] at hx; injection hx with hx; subst hx; simp [iLt]; omega)), hbq⟩
            case measure => simp [intOf]; omega
          · go_wp2_with (go_at_call 29; refine (in_r _ _ _ true Hl.out _).mono ?_; rintro e' w' ⟨rfl, rfl⟩)
            have hbq := hbel
            go_ret
            exact ⟨ret_bool (by symm; exact okList_no2 (k := k - 1) He'.out (by rw [Nat.sub_add_cancel hk0]; exact He.out) (by simp [iLt]; omega)), hbq⟩
      · have Hl := Lib.hid hl
        clear hl
        go_wp2_with (go_at_call 29; refine (in_r _ _ _ false Hl.out _).mono ?_; rintro e' w' ⟨rfl, rfl⟩)
        have hbq := hbel
        go_ret
        exact ⟨ret_bool (by symm; exact okList_no1 He.out Hl.out), hbq⟩
    · go_wp2
      go_ret
      have hkn : k = n := by omega
      subst hkn
      exact ⟨ret_bool (by rw [okTo_all Hgood.out Hn.out]), hbel⟩
theorem impl_ValidLevel (n : Int) (w : World) : Calls Tryz.prog 48 #[.int .i64 n] w fun e w' => e = .returned (.bool (lvl n)) ∧ w = w' := by
  go_enter Tryz.func48, Tryz.ntmps48
  go_wp2_with (go_at_call 29; refine (impl_in _ _ _ _).mono ?_; rintro e w' ⟨rfl, rfl⟩)
  all_goals (go_ret; exact ⟨rfl, rfl⟩)
theorem spec_l02Level (n : Int) (w : World) : Calls Tryz.prog 18 #[.int .i64 n] w fun e w' => e = .returned (.bool (lvl n)) ∧ w = w' := by
  go_enter Tryz.func18, Tryz.ntmps18
  go_wp2_with (go_at_call 17; refine (spec_l00In _ _ _ _).mono ?_; rintro e w' ⟨rfl, rfl⟩)
  all_goals (go_ret; exact ⟨rfl, rfl⟩)
theorem impl_ValidAlarms (A : Option Addr) (n c : Nat) (es : List Int) (w : World) (hmax : n ≤ 1048576) (h : Sl w w.heap.size 1 icell A n es) :
    Calls Tryz.prog 14 #[.slice A n c] w fun e w' => e = .returned (.bool (alarmsOk es)) ∧ Below w.heap.size w w' := by
  have Hn := Lib.hid h.len
  rcases Bool.eq_false_or_eq_true (inR (n : Int) 1 5) with g | g
  · have Ha : Hid (alarmsOk es = okList lvl iLt es) := Lib.hid (by rw [alarmsOk, Hn.out, g, Bool.true_and])
    go_enter Tryz.func14, Tryz.ntmps14
    go_wp2_with (first
      | (go_at_call 30; refine (impl_size_int64 _ _ _ _ (by omega)).mono ?_; rintro e w' ⟨rfl, rfl⟩)
      | (go_at_call 29; refine (impl_in _ _ _ _).mono ?_; rintro e w' ⟨rfl, rfl⟩; rw [g])
      | (go_at_call 31; refine (impl_rises _ _ _ es _ hmax h).mono ?_; rintro e w1 ⟨rfl, hb1⟩))
    all_goals (go_ret; exact ⟨ret_bool (by rw [Ha.out]), hb1⟩)
  · have Ha : Hid (alarmsOk es = false) := Lib.hid (by rw [alarmsOk, Hn.out, g, Bool.false_and])
    go_enter Tryz.func14, Tryz.ntmps14
    go_wp2_with (first
      | (go_at_call 30; refine (impl_size_int64 _ _ _ _ (by omega)).mono ?_; rintro e w' ⟨rfl, rfl⟩)
      | (go_at_call 29; refine (impl_in _ _ _ _).mono ?_; rintro e w' ⟨rfl, rfl⟩; rw [g]))
    all_goals (go_ret; exact ⟨ret_bool (by rw [Ha.out]), Below.refl _ _⟩)
theorem spec_l16Ok (A : Option Addr) (n c : Nat) (es : List Int) (w : World) (hmax : n ≤ 1048576) (h : Sl w w.heap.size 1 icell A n es) :
    Calls Tryz.prog 11 #[.slice A n c] w fun e w' => e = .returned (.bool (alarmsOk es)) ∧ Below w.heap.size w w' := by
  have Hn := Lib.hid h.len
  rcases Bool.eq_false_or_eq_true (inR (n : Int) 1 5) with g | g
  · have Ha : Hid (alarmsOk es = okList lvl iLt es) := Lib.hid (by rw [alarmsOk, Hn.out, g, Bool.true_and])
    go_enter Tryz.func11, Tryz.ntmps11
    go_wp2_with (first
      | (go_at_call 17; refine (spec_l00In _ _ _ _).mono ?_; rintro e w' ⟨rfl, rfl⟩; rw [g])
      | (go_at_call 20; refine (spec_l00Rises _ _ _ es _ hmax h).mono ?_; rintro e w1 ⟨rfl, hb1⟩))
    all_goals (go_ret; exact ⟨ret_bool (by rw [Ha.out]), hb1⟩)
  · have Ha : Hid (alarmsOk es = false) := Lib.hid (by rw [alarmsOk, Hn.out, g, Bool.false_and])
    go_enter Tryz.func11, Tryz.ntmps11
    go_wp2_with (go_at_call 17; refine (spec_l00In _ _ _ _).mono ?_; rintro e w' ⟨rfl, rfl⟩; rw [g])
    all_goals (go_ret; exact ⟨ret_bool (by rw [Ha.out]), Below.refl _ _⟩)
def alC (es ls : List Int) : Int := if alarmsOk es = false then 1 else if ls.all lvl = false ∨ 200 < ls.length then 2 else 0
theorem alCode_eq (es ls : List Int) (hold : Int) : alCode es ls hold = if alC es ls = 0 then (if inR hold 0 100 = true then 0 else 2) else alC es ls := by
  unfold alCode alC
  cases inR hold 0 100 <;> (split <;> first | rfl | (split <;> simp))
theorem add_g (P : Program) {s t : ByteArray} (a b : List UInt8) (hs : s = bs a) (ht : t = bs b) (ha : a.length ≤ 4000000) (hb : b.length ≤ 4000000) (W : World) : (Op.stringOp .add s t).run P W = .ok (.string (bs (a ++ b))) W := by
  subst hs; subst ht
  exact run_string_add_lists (w := W) a b (by omega) (by omega)
theorem add_c (P : Program) {s t : ByteArray} {a b c : List UInt8} (hc : a ++ b = c) (hs : s = bs a) (ht : t = bs b) (ha : a.length ≤ 4000000) (hb : b.length ≤ 4000000) (W : World) : (Op.stringOp .add s t).run P W = .ok (.string (bs c)) W := by
  subst hc; exact add_g P a b hs ht ha hb W
theorem lv_chain (P : Program) (g : UInt8) (G : ByteArray) (hG : G = bs [g]) {D T L : List UInt8} (hL : L = [g] ++ D ++ [46] ++ T ++ [109]) (hD : D.length ≤ 20) (hT : T.length ≤ 40) :
    ∃ P1 P2 P3 : List UInt8, (∀ W, (Op.stringOp .add G (bs D)).run P W = .ok (.string (bs P1)) W) ∧ (∀ W, (Op.stringOp .add (bs P1) ⟨#[46]⟩).run P W = .ok (.string (bs P2)) W) ∧
      (∀ W, (Op.stringOp .add (bs P2) (bs T)).run P W = .ok (.string (bs P3)) W) ∧ (∀ W, (Op.stringOp .add (bs P3) ⟨#[109]⟩).run P W = .ok (.string (bs L)) W) :=
  ⟨[g] ++ D, [g] ++ D ++ [46], [g] ++ D ++ [46] ++ T, add_c P rfl hG rfl (by simp) (by omega), add_c P rfl rfl rfl (by simp; omega) (by simp), add_c P rfl rfl rfl (by simp; omega) (by omega), add_c P hL.symm rfl rfl (by simp; omega) (by simp)⟩
def sgn (n : Int) : UInt8 := if n < 0 then 45 else 43
def two (r : Nat) : List UInt8 := Lib.decDigits (r / 10) ++ Lib.decDigits (r % 10)
def lvL (n : Int) : List UInt8 := [sgn n] ++ Lib.decDigits (n.natAbs / 100) ++ [46] ++ two (n.natAbs % 100) ++ [109]
theorem dd_len {u : Nat} (h : u ≤ 9223372036854775807) : (Lib.decDigits u).length ≤ 20 := by rw [Lib.decDigits_length]; exact Lib.nDigits_le20 u (by omega)
theorem two_len {r : Nat} (h : r < 100) : (two r).length ≤ 40 := by
  unfold two; rw [List.length_append]
  have := dd_len (u := r / 10) (by omega); have := dd_len (u := r % 10) (by omega); omega
theorem dd_one {u : Nat} (h : u < 10) : Lib.decDigits u = [UInt8.ofNat (48 + u)] := by rw [Lib.decDigits, dif_pos h]
theorem hundred {r : Nat} (h : r < 100) : Lib.decDigits (100 + r) = 49 :: two r := by
  rw [Lib.decDigits, dif_neg (by omega), Lib.decDigits, dif_neg (by omega), show (100 + r) / 10 / 10 = 1 by omega, dd_one (by omega), show (100 + r) / 10 % 10 = r / 10 by omega, show (100 + r) % 10 = r % 10 by omega]
  unfold two
  rw [dd_one (u := r / 10) (by omega), dd_one (u := r % 10) (by omega)]; rfl
theorem lvL_len {n : Int} (h : lvl n = true) : (lvL n).length ≤ 64 := by
  have hb := inR_iff.1 h
  unfold lvL
  simp only [List.length_append, List.length_singleton]
  have := dd_len (u := n.natAbs / 100) (by omega); have := two_len (r := n.natAbs % 100) (by omega); omega
theorem spec_l02Two (r : Nat) (h : r < 100) (w : World) : Calls Tryz.prog 34 #[.int .i64 (r : Int)] w fun e w' => e = .returned (.string (bs (two r))) ∧ Below w.heap.size w w' := by
  have e1 : ((r : Int).tdiv 10) = ((r / 10 : Nat) : Int) := by rw [Int.tdiv_eq_ediv_of_nonneg (by omega)]; omega
  have e2 : ((r : Int).tmod 10) = ((r % 10 : Nat) : Int) := by rw [Int.tmod_eq_emod_of_nonneg (by omega)]; omega
  have hm : r % 10 < 10 := Nat.mod_lt _ (by omega)
  have q1 := add_g Tryz.prog (Lib.decDigits (r / 10)) (Lib.decDigits (r % 10)) rfl rfl (by have := dd_len (u := r / 10) (by omega); omega) (by have := dd_len (u := r % 10) (by omega); omega)
  go_enter Tryz.func34, Tryz.ntmps34
  go_wp2_with fail
  refine (spec_l01Dec_pos (r / 10) (by omega) _).mono ?_
  rintro e w1 ⟨rfl, hb1⟩
  go_wp2_with fail
  refine (spec_l01Dec_pos (r % 10) (by omega) _).mono ?_
  rintro e w2 ⟨rfl, hb2⟩
  go_wp2_with fail
  go_ret
  exact ⟨rfl, below_then hb1 hb2⟩
theorem l02Size_u (n : Int) (u : Nat) (hu : n.natAbs = u) (h : u ≤ 2000) (w : World) : Calls Tryz.prog 33 #[.int .i64 n] w fun e w' => e = .returned (.int .i64 (u : Int)) ∧ w = w' := by
  have := spec_l02Size n (by omega) (by omega) w
  rwa [show absI n = (u : Int) from by unfold absI; split <;> omega] at this
theorem abs_u (n : Int) (u : Nat) (hu : n.natAbs = u) (h : u ≤ 2000) (w : World) : Calls Tryz.prog 49 #[.int .i64 n] w fun e w' => e = .returned (.int .i64 (u : Int)) ∧ w = w' := by
  have := impl_abs n (by omega) (by omega) w
  rwa [show absI n = (u : Int) from by unfold absI; split <;> omega] at this
set_option maxHeartbeats 1000000 in
theorem spec_l02Text (n : Int) (hn : lvl n = true) (w : World) : Calls Tryz.prog 19 #[.int .i64 n] w fun e w' => e = .returned (.string (bs (lvL n))) ∧ Below w.heap.size w w' := by
  have hb := inR_iff.1 hn
  obtain ⟨u, hu⟩ : ∃ u, n.natAbs = u := ⟨_, rfl⟩
  have hu2 : u ≤ 2000 := by omega
  have Hu := Lib.hid hu
  have HL : Hid (lvL n = [sgn n] ++ Lib.decDigits (u / 100) ++ [46] ++ two (u % 100) ++ [109]) := Lib.hid (by rw [lvL, hu])
  clear hu hb hn
  have e1 : ((u : Int).tdiv 100) = ((u / 100 : Nat) : Int) := by rw [Int.tdiv_eq_ediv_of_nonneg (by omega)]; omega
  have e2 : ((u : Int).tmod 100) = ((u % 100 : Nat) : Int) := by rw [Int.tmod_eq_emod_of_nonneg (by omega)]; omega
  have hm : u % 100 < 100 := Nat.mod_lt _ (by omega)
  obtain ⟨D, hD⟩ : ∃ D, D = Lib.decDigits (u / 100) := ⟨_, rfl⟩
  obtain ⟨T, hT⟩ : ∃ T, T = two (u % 100) := ⟨_, rfl⟩
  have hDl : D.length ≤ 20 := by rw [hD]; exact dd_len (by omega)
  have hTl : T.length ≤ 40 := by rw [hT]; exact two_len hm
  rw [← hD, ← hT] at HL
  have c1 := spec_l01Dec_pos (u / 100) (by omega)
  have c2 := spec_l02Two (u % 100) hm
  rw [← hD] at c1
  rw [← hT] at c2
  have C1 := Lib.hid c1
  have C2 := Lib.hid c2
  clear c1 c2 hD hT
  by_cases hneg : n < 0
  · have hs : sgn n = 45 := by rw [sgn, if_pos hneg]
    rw [hs] at HL
    obtain ⟨P1, P2, P3, q1, q2, q3, q4⟩ := lv_chain Tryz.prog 45 ⟨#[45]⟩ rfl HL.out hDl hTl
    clear HL hs
    go_enter Tryz.func19, Tryz.ntmps19
    go_wp2_with (first
      | (go_at_call 33; refine (l02Size_u n u Hu.out hu2 _).mono ?_; rintro e w' ⟨rfl, rfl⟩)
      | (go_at_call 32; refine (C1.out _).mono ?_; rintro e w1 ⟨rfl, hb1⟩)
      | (go_at_call 34; refine (C2.out _).mono ?_; rintro e w2 ⟨rfl, hb2⟩))
    go_ret
    exact ⟨rfl, below_then hb1 hb2⟩
  · have hs : sgn n = 43 := by rw [sgn, if_neg hneg]
    rw [hs] at HL
    obtain ⟨P1, P2, P3, q1, q2, q3, q4⟩ := lv_chain Tryz.prog 43 ⟨#[43]⟩ rfl HL.out hDl hTl
    clear HL hs
    go_enter Tryz.func19, Tryz.ntmps19
    go_wp2_with (first
      | (go_at_call 33; refine (l02Size_u n u Hu.out hu2 _).mono ?_; rintro e w' ⟨rfl, rfl⟩)
      | (go_at_call 32; refine (C1.out _).mono ?_; rintro e w1 ⟨rfl, hb1⟩)
      | (go_at_call 34; refine (C2.out _).mono ?_; rintro e w2 ⟨rfl, hb2⟩))
    go_ret
    exact ⟨rfl, below_then hb1 hb2⟩
theorem Decimal_r (n : Nat) (l : List UInt8) (hl : Lib.decDigits n = l) (h1 : n ≤ 1000000) (w : World) (htab : Lib.TabIs Tryz.prog w "internal/strconv.uint64pow10" .u64 Lib.pow10Tab) :
    Calls Tryz.prog 47 #[.int .i64 (n : Int)] w fun e w' => e = .returned (.string (bs l)) ∧ Below w.heap.size w w' := by
  have := impl_Decimal (n : Int) (by omega) (by omega) w htab
  rwa [Lib.itoa_nonneg, hl] at this
set_option maxHeartbeats 1000000 in
set_option maxRecDepth 100000 in
theorem impl_LevelText (n : Int) (hn : lvl n = true) (w : World) (htab : Lib.TabIs Tryz.prog w "internal/strconv.uint64pow10" .u64 Lib.pow10Tab) :
    Calls Tryz.prog 28 #[.int .i64 n] w fun e w' => e = .returned (.string (bs (lvL n))) ∧ Below w.heap.size w w' := by
  have hb := inR_iff.1 hn
  obtain ⟨u, hu⟩ : ∃ u, n.natAbs = u := ⟨_, rfl⟩
  have hu2 : u ≤ 2000 := by omega
  have Hu := Lib.hid hu
  have HL : Hid (lvL n = [sgn n] ++ Lib.decDigits (u / 100) ++ [46] ++ two (u % 100) ++ [109]) := Lib.hid (by rw [lvL, hu])
  clear hu hb
  have e1 : ((u : Int).tdiv 100) = ((u / 100 : Nat) : Int) := by rw [Int.tdiv_eq_ediv_of_nonneg (by omega)]; omega
  have e2 : ((u : Int).tmod 100) = ((u % 100 : Nat) : Int) := by rw [Int.tmod_eq_emod_of_nonneg (by omega)]; omega
  have hm : u % 100 < 100 := Nat.mod_lt _ (by omega)
  obtain ⟨D, hD⟩ : ∃ D, D = Lib.decDigits (u / 100) := ⟨_, rfl⟩
  obtain ⟨T, hT⟩ : ∃ T, T = two (u % 100) := ⟨_, rfl⟩
  obtain ⟨m, hmm⟩ : ∃ m : Nat, 100 + (u : Int) % 100 = (m : Int) := ⟨100 + u % 100, by omega⟩
  have hDl : D.length ≤ 20 := by rw [hD]; exact dd_len (by omega)
  have hTl : T.length ≤ 40 := by rw [hT]; exact two_len hm
  rw [← hD, ← hT] at HL
  have C1 := Lib.hid hD.symm
  have C2 : Hid (Lib.decDigits m = 49 :: T) := Lib.hid (by rw [show m = 100 + u % 100 by omega, hundred hm, hT])
  have hm2 : m ≤ 1000000 := by omega
  have hq2 : u / 100 ≤ 1000000 := by omega
  have hx : (bs (49 :: T)).extract 1 (bs (49 :: T)).size = bs T := by rw [bs_size]; unfold bs; rw [ByteArray.extract_mk]; simp
  have hsz : (1 : Int) ≤ ((bs (49 :: T)).size : Int) := by rw [bs_size, List.length_cons]; omega
  clear hD hT
  by_cases hneg : n < 0
  · have hs : sgn n = 45 := by rw [sgn, if_pos hneg]
    rw [hs] at HL
    obtain ⟨P1, P2, P3, q1, q2, q3, q4⟩ := lv_chain Tryz.prog 45 ⟨#[45]⟩ rfl HL.out hDl hTl
    clear HL hs
    go_enter Tryz.func28, Tryz.ntmps28
    go_wp2_with (first
      | (go_at_call 48; refine (impl_ValidLevel _ _).mono ?_; rintro e w' ⟨rfl, rfl⟩; rw [hn])
      | (go_at_call 49; refine (abs_u n u Hu.out hu2 _).mono ?_; rintro e w' ⟨rfl, rfl⟩)
      | (go_at_call_of 47 (m : Int); refine (Decimal_r m _ C2.out hm2 _ (tab_on htab hb1)).mono ?_; rintro e w2 ⟨rfl, hb2⟩)
      | (go_at_call 47; refine (Decimal_r (u / 100) _ C1.out hq2 _ htab).mono ?_; rintro e w1 ⟨rfl, hb1⟩))
    go_ret
    exact ⟨rfl, below_then hb1 hb2⟩
  · have hs : sgn n = 43 := by rw [sgn, if_neg hneg]
    rw [hs] at HL
    obtain ⟨P1, P2, P3, q1, q2, q3, q4⟩ := lv_chain Tryz.prog 43 ⟨#[43]⟩ rfl HL.out hDl hTl
    clear HL hs
    go_enter Tryz.func28, Tryz.ntmps28
    go_wp2_with (first
      | (go_at_call 48; refine (impl_ValidLevel _ _).mono ?_; rintro e w' ⟨rfl, rfl⟩; rw [hn])
      | (go_at_call 49; refine (abs_u n u Hu.out hu2 _).mono ?_; rintro e w' ⟨rfl, rfl⟩)
      | (go_at_call_of 47 (m : Int); refine (Decimal_r m _ C2.out hm2 _ (tab_on htab hb1)).mono ?_; rintro e w2 ⟨rfl, hb2⟩)
      | (go_at_call 47; refine (Decimal_r (u / 100) _ C1.out hq2 _ htab).mono ?_; rintro e w1 ⟨rfl, hb1⟩))
    go_ret
    exact ⟨rfl, below_then hb1 hb2⟩

end Go.Proofs.YtgbblcbpmpokdaaGreatDoor

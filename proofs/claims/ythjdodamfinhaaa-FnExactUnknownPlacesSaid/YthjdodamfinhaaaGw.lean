/- Walks over functions of this seat, by contract. Conditions: those that each theorem states. -/
import Derived.Test.YthjdodamfinhaaaGm
namespace Go.Proofs.Ythjdodamfinhaaa
open Go.RowKit Go.Sort

/-- the sums of val by key, for the keys below N -/
def sumsOf {α : Type} (key val : α → Int) (N : Nat) (es : List α) : List Int := (List.range N).map fun (o : Nat) => sumBy (fun q => if key q = (o : Int) then val q else 0) es
theorem sumsOf_len {α : Type} (key val : α → Int) (N : Nat) (es : List α) : (sumsOf key val N es).length = N := by simp [sumsOf]
theorem sumsOf_get {α : Type} {key val : α → Int} {N : Nat} {es : List α} {o : Nat} (h : o < N) : (sumsOf key val N es)[o]? = some (sumBy (fun q => if key q = (o : Int) then val q else 0) es) := by
  simp [sumsOf, h]
theorem sumsOf_zero {α : Type} (key val : α → Int) (N : Nat) (es : List α) : sumsOf key val N (es.take 0) = List.replicate N 0 := by
  apply List.ext_getElem
  · simp [sumsOf]
  · intro i h1 h2; simp [sumsOf, sumBy]
theorem sumsOf_succ {α : Type} {key val : α → Int} {N : Nat} {es : List α} {k o : Nat} {e : α} (he : es[k]? = some e) (ho : key e = (o : Int)) :
    sumsOf key val N (es.take (k + 1)) = (sumsOf key val N (es.take k)).set o (sumBy (fun q => if key q = (o : Int) then val q else 0) (es.take k) + val e) := by
  apply List.ext_getElem?
  intro i
  rw [List.getElem?_set]
  rcases Nat.lt_or_ge i N with hi | hi
  · rw [sumsOf_get hi, sumsOf_get hi, sumBy_succ he, sumsOf_len]
    by_cases h : o = i
    · subst h; rw [if_pos rfl, if_pos hi, if_pos ho]
    · have : ¬ key e = (i : Int) := by omega
      rw [if_neg h, if_neg this, Int.add_zero]
  · rw [List.getElem?_eq_none (by rw [sumsOf_len]; exact hi), List.getElem?_eq_none (by rw [sumsOf_len]; exact hi), sumsOf_len]
    split <;> simp_all <;> omega
theorem own_zeros (w : World) (E N : Nat) (hm : N ≤ 1048576) : Own (w.alloc (.cells (madeCells #[.int .i64 0] N) E)) w.heap.size E 1 icell (.slice (some ⟨w.heap.size, 0, none⟩) N N) (List.replicate N (0 : Int)) := by
  refine ⟨by rw [flat_len icell_len], .inr ⟨w.heap.size, N, _, by simp, Nat.le_refl _, heap_alloc_new w _, by simp, by unfold maxLen; omega, by simp [size_madeCells], ?_⟩⟩
  rw [icell_flat]
  apply List.ext_getElem
  · simp [madeCells]
  · intro i h1 h2
    simp [madeCells, Nat.mod_one]
theorem idxs_filter (p : Nat → Bool) (f : Int → Bool) (n : Nat) : (idxs p n).filter f = idxs (fun i => p i && f (i : Int)) n := by
  induction n with
  | zero => rfl
  | succ n ih =>
    cases hp : p n with
    | false => rw [idxs_no hp, ih, idxs_no (by simp [hp])]
    | true =>
      rw [idxs_yes hp, List.filter_append, ih]
      cases hf : f (n : Int) with
      | false => rw [idxs_no (by simp [hf])]; simp [hf]
      | true => rw [idxs_yes (by simp [hp, hf])]; simp [hf]
def scell (s : ByteArray) : List Value := [.string s]
theorem scell_len (s : ByteArray) : (scell s).length = 1 := rfl
theorem scell_one (e : ByteArray) (u : Value) (hu : u ∈ scell e) : u.oneCell' = true := by
  simp [scell] at hu; subst hu; rfl
theorem Has.s1 {w : World} {b off k : Nat} {xs : List ByteArray} {x : ByteArray} (h : Has w b off 1 scell xs) (hx : xs[k]? = some x) : w.cell? ⟨b, off + k, none⟩ = some (.string x) := by
  have := h k x hx 0 _ rfl
  simpa using this
def sEq (s t : ByteArray) : Bool := s.toList == t.toList
def hasS (xs : List ByteArray) (s : ByteArray) : Bool := xs.any (fun x => sEq x s)
theorem hasS_yes {xs : List ByteArray} {s : ByteArray} {k : Nat} {x : ByteArray} (h : xs[k]? = some x) (e : sEq x s = true) : hasS xs s = true := by
  rw [hasS, List.any_eq_true]; exact ⟨x, List.mem_of_getElem? h, e⟩
theorem hasS_no {xs : List ByteArray} {s : ByteArray} (h : ∀ (k : Nat) x, xs[k]? = some x → sEq x s = false) : hasS xs s = false := by
  rw [hasS, List.any_eq_false]
  intro y hy
  obtain ⟨k, hk, rfl⟩ := List.mem_iff_getElem.1 hy
  simp [h k _ (List.getElem?_eq_getElem hk)]
def guardOk (g : G3) : Bool := nameOk g.s && (decide (0 ≤ g.a) && (decide (g.a < g.b) && decide (g.b ≤ 300000)))
theorem guardOk_iff {g : G3} : guardOk g = true ↔ nameOk g.s = true ∧ 0 ≤ g.a ∧ g.a < g.b ∧ g.b ≤ 300000 := by simp [guardOk]
def namesOf (es : List G3) : List ByteArray := es.map (·.s)
theorem namesOf_get {es : List G3} {k : Nat} {e : G3} (h : es[k]? = some e) : (namesOf es)[k]? = some e.s := by simp [namesOf, h]
theorem namesOf_succ {es : List G3} {k : Nat} {e : G3} (h : es[k]? = some e) : namesOf (es.take (k + 1)) = namesOf (es.take k) ++ [e.s] := by
  obtain ⟨hk, hx⟩ := List.getElem?_eq_some_iff.1 h
  rw [List.take_succ_eq_append_getElem hk, namesOf, List.map_append, hx]; rfl
def guardAt (es : List G3) (k : Nat) : Bool := match es[k]? with | some e => guardOk e && !hasS (namesOf (es.take k)) e.s | none => true
def guardsAll (es : List G3) : Bool := (List.range es.length).all (guardAt es)
def guardsOk (es : List G3) : Bool := guardsAll es && decide (es.length ≤ 30)
theorem guardAt_eq {es : List G3} {k : Nat} {e : G3} (h : es[k]? = some e) : guardAt es k = (guardOk e && !hasS (namesOf (es.take k)) e.s) := by rw [guardAt, h]
theorem guardsOk_no {es : List G3} {k : Nat} {e : G3} (h : es[k]? = some e) (hb : guardAt es k = false) : guardsOk es = false := by
  have : guardsAll es = false := by
    rw [guardsAll, List.all_eq_false]
    exact ⟨k, List.mem_range.2 (List.getElem?_eq_some_iff.1 h).1, by simp [hb]⟩
  rw [guardsOk, this]; rfl
theorem guardsOk_of {es : List G3} (h : ∀ k, k < es.length → guardAt es k = true) : guardsOk es = decide (es.length ≤ 30) := by
  have : guardsAll es = true := by rw [guardsAll, List.all_eq_true]; exact fun k hk => h k (List.mem_range.1 hk)
  rw [guardsOk, this]; rfl
theorem guards_all {es : List G3} (h : guardsOk es = true) : es.length ≤ 30 ∧ ∀ e ∈ es, guardOk e = true := by
  rw [guardsOk, Bool.and_eq_true] at h
  refine ⟨by simpa using h.2, fun e he => ?_⟩
  obtain ⟨k, hk, rfl⟩ := List.mem_iff_getElem.1 he
  have := List.all_eq_true.1 h.1 k (List.mem_range.2 hk)
  rw [guardAt_eq (List.getElem?_eq_getElem hk), Bool.and_eq_true] at this
  exact this.1
def knowsB (e : G3) (m : Int) : Bool := inR m e.a (e.b - 1)
def knowP (es : List G3) (m : Int) (i : Nat) : Bool := match es[i]? with | some e => knowsB e m | none => false
theorem knowP_at {es : List G3} {m : Int} {i : Nat} {e : G3} (h : es[i]? = some e) : knowP es m i = knowsB e m := by simp [knowP, h]
def knowIdx (es : List G3) (m : Int) : List Int := idxs (knowP es m) es.length
def atCode (es : List G3) (m : Int) : Int := if guardsOk es = false then 1 else if inR m 0 299999 = false then 2 else 0
def atRes (es : List G3) (m : Int) : List Int := if atCode es m = 0 then knowIdx es m else []
theorem atRes_neg {es : List G3} {m : Int} (h : atCode es m ≠ 0) : atRes es m = [] := if_neg h
theorem atRes_pos {es : List G3} {m : Int} (h : atCode es m = 0) : atRes es m = knowIdx es m := if_pos h
def lenCode (es : List G3) (m : Int) : Int := if guardsOk es = false then 1 else if inR m 1 300000 = false then 2 else 0
/-- the guard who goes on farthest from m among the first n; -1 if none -/
def toOf (es : List G3) (i : Int) : Int := match es[i.toNat]? with | some e => e.b | none => 0
theorem toOf_at {es : List G3} {i : Nat} {e : G3} (h : es[i]? = some e) : toOf es (i : Int) = e.b := by simp [toOf, h]
def rNext (es : List G3) (b : Int) (i : Int) : Int := if b < 0 ∨ toOf es b < toOf es i then i else b
def reachN (es : List G3) (m : Int) : Nat → Int
  | 0 => -1
  | k + 1 => if knowP es m k = true then rNext es (reachN es m k) (k : Int) else reachN es m k
theorem reach_fold (es : List G3) (m : Int) (n : Nat) : (idxs (knowP es m) n).foldl (rNext es) (-1) = reachN es m n := by
  induction n with
  | zero => rfl
  | succ n ih =>
    cases hp : knowP es m n with
    | false => rw [idxs_no hp, ih, reachN, if_neg (by simp [hp])]
    | true => rw [idxs_yes hp, List.foldl_append, ih, reachN, if_pos hp]; rfl
theorem reachN_bd (es : List G3) (m : Int) (n : Nat) : reachN es m n = -1 ∨ ∃ k : Nat, reachN es m n = (k : Int) ∧ k < n ∧ knowP es m k = true := by
  induction n with
  | zero => exact .inl rfl
  | succ n ih =>
    unfold reachN
    split
    · rename_i hp
      unfold rNext
      split
      · exact .inr ⟨n, rfl, by omega, hp⟩
      · rcases ih with h | ⟨k, h1, h2, h3⟩
        · exact .inl h
        · exact .inr ⟨k, h1, by omega, h3⟩
    · rcases ih with h | ⟨k, h1, h2, h3⟩
      · exact .inl h
      · exact .inr ⟨k, h1, by omega, h3⟩
theorem reachN_none {es : List G3} {m : Int} {n : Nat} (h : reachN es m n = -1) : ∀ k, k < n → knowP es m k = false := by
  induction n with
  | zero => intro k hk; omega
  | succ n ih =>
    intro k hk
    unfold reachN at h
    split at h
    · unfold rNext at h
      split at h
      · omega
      · rename_i hn
        exact absurd (by rw [h]; omega) hn
    · rename_i hp
      rcases Nat.lt_or_ge k n with h1 | h1
      · exact ih h k h1
      · have : k = n := by omega
        subst this; simpa using hp
def reach (es : List G3) (m : Int) : Int := reachN es m es.length
/-- the fewest guards from a place on; none if a place is not known -/
def fgo (es : List G3) (len : Int) : Nat → Int → List Int → Option (List Int)
  | 0, _, out => some out
  | f + 1, m, out => if m < len then (if reach es m < 0 then none else fgo es len f (toOf es (reach es m)) (out ++ [reach es m])) else some out
def fewest (es : List G3) (len : Int) : Option (List Int) := fgo es len (len.toNat + 1) 0 []
def fCode (es : List G3) (len : Int) : Int := if lenCode es len ≠ 0 then lenCode es len else if (fewest es len).isNone = true then 3 else 0
def fRes (es : List G3) (len : Int) : List Int := if fCode es len = 0 then (fewest es len).getD [] else []
theorem fRes_neg {es : List G3} {len : Int} (h : fCode es len ≠ 0) : fRes es len = [] := if_neg h
theorem reach_to {es : List G3} {m : Int} (h : ¬ reach es m < 0) : ∃ (k : Nat) (e : G3), reach es m = (k : Int) ∧ es[k]? = some e ∧ toOf es (reach es m) = e.b ∧ e.a ≤ m ∧ m < e.b := by
  rcases reachN_bd es m es.length with h1 | ⟨k, h1, h2, h3⟩
  · exact absurd (by rw [reach, h1]; omega) h
  · have he : es[k]? = some es[k] := List.getElem?_eq_getElem h2
    rw [knowP_at he, knowsB, inR_iff] at h3
    exact ⟨k, es[k], h1, he, by rw [reach, h1, toOf_at he], h3.1, by omega⟩
theorem fgo_end {es : List G3} {len m : Int} {f : Nat} {out : List Int} (h : len ≤ m) : fgo es len f m out = some out := by
  cases f with
  | zero => rfl
  | succ f => rw [fgo, if_neg (by omega)]
/-- the fuel does not matter if there is enough -/
theorem fgo_step {es : List G3} {len m : Int} {f : Nat} {out : List Int} (hf : len < m + f) (hm : m < len) (hr : ¬ reach es m < 0) : fgo es len f m out = fgo es len (f - 1) (toOf es (reach es m)) (out ++ [reach es m]) ∧ len < toOf es (reach es m) + ((f - 1 : Nat) : Int) := by
  obtain ⟨k, e, h1, _, h3, h4, h5⟩ := reach_to hr
  cases f with
  | zero => omega
  | succ f =>
    refine ⟨by rw [fgo, if_pos hm, if_neg hr]; rfl, ?_⟩
    rw [h3]; omega
theorem fgo_none {es : List G3} {len m : Int} {f : Nat} {out : List Int} (hf : len < m + f) (hm : m < len) (hr : reach es m < 0) : fgo es len f m out = none := by
  cases f with
  | zero => omega
  | succ f => rw [fgo, if_pos hm, if_pos hr]
theorem fgo_len (es : List G3) (len : Int) : ∀ (f : Nat) (m : Int) (out r : List Int), fgo es len f m out = some r → r.length ≤ out.length + f
  | 0, _, out, r, h => by simp [fgo] at h; subst h; omega
  | f + 1, m, out, r, h => by
    unfold fgo at h
    split at h
    · split at h
      · cases h
      · have := fgo_len es len f _ _ r h
        simp at this; omega
    · injection h with h; subst h; omega
theorem fRes_len (es : List G3) (len : Int) : (fRes es len).length ≤ 300001 := by
  unfold fRes
  split
  · rename_i h
    cases hf : fewest es len with
    | none => simp
    | some r =>
      have hl : lenCode es len = 0 := by
        unfold fCode at h; split at h
        · omega
        · rename_i h2; simpa using h2
      have hR : inR len 1 300000 = true := by
        unfold lenCode at hl
        split at hl
        · omega
        · split at hl
          · omega
          · rename_i h3; simpa using h3
      have := fgo_len es len _ _ _ _ hf
      have := (inR_iff.1 hR)
      simp at *; omega
  · simp
def fstI (p : Nat → Bool) (m : Nat) : Int := match (List.range m).find? p with | some i => (i : Int) | none => -1
theorem fstI_none {p : Nat → Bool} {m : Nat} (h : ∀ j, j < m → p j = false) : fstI p m = -1 := by
  have : (List.range m).find? p = none := by
    rw [List.find?_eq_none]; intro x hx; simp [h x (List.mem_range.1 hx)]
  rw [fstI, this]
theorem fstI_at {p : Nat → Bool} {m k : Nat} (hk : k < m) (hp : p k = true) (h : ∀ j, j < k → p j = false) : fstI p m = (k : Int) := by
  have : (List.range m).find? p = some k := by
    rw [List.find?_range_eq_some]
    exact ⟨hp, List.mem_range.2 hk, fun j hj => by simp [h j hj]⟩
  rw [fstI, this]
theorem fstI_cases (p : Nat → Bool) (m : Nat) : (fstI p m = -1 ∧ ∀ j, j < m → p j = false) ∨ ∃ k, k < m ∧ fstI p m = (k : Int) ∧ p k = true := by
  cases h : (List.range m).find? p with
  | none =>
    left
    refine ⟨by rw [fstI, h], fun j hj => ?_⟩
    have := List.find?_eq_none.1 h j (List.mem_range.2 hj)
    simpa using this
  | some k =>
    right
    have h2 := List.find?_range_eq_some.1 h
    exact ⟨k, List.mem_range.1 h2.2.1, by rw [fstI, h], h2.1⟩
def hourOk (q : Q3) : Bool := inR q.b 0 100000 && inR q.c 0 100000
def shCode (es : List G3) (ss : List Q3) : Int := if guardsOk es = false then 1 else if (ss.all hourOk && decide (ss.length ≤ 40)) = false then 2 else 0
theorem shCode_zero {es : List G3} {ss : List Q3} : shCode es ss = 0 ↔ guardsOk es = true ∧ ss.all hourOk = true ∧ ss.length ≤ 40 := by
  unfold shCode
  cases guardsOk es <;> cases ss.all hourOk <;> by_cases h : ss.length ≤ 40 <;> simp [h]
theorem hour_all {ss : List Q3} (h : ss.all hourOk = true) {k : Nat} {s : Q3} (hs : ss[k]? = some s) : (0 ≤ s.b ∧ s.b ≤ 100000) ∧ 0 ≤ s.c ∧ s.c ≤ 100000 := by
  have := List.all_eq_true.1 h s (List.mem_of_getElem? hs)
  simpa [hourOk, inR_iff] using this
/-- an earlier shift x against a later one s -/
def clash (rest : Int) (x s : Q3) : Bool := x.a == s.a && (decide (x.b < s.c + rest) && decide (s.b < x.c + rest))
def clashP (ss : List Q3) (rest : Int) (s : Q3) (k : Nat) : Bool := match ss[k]? with | some x => clash rest x s | none => false
def badOf (n : Nat) (s : Q3) : Bool := !inR s.a 0 ((n : Int) - 1) || decide (s.c ≤ s.b)
def badAt (n : Nat) (ss : List Q3) (rest : Int) (i : Nat) : Bool := match ss[i]? with | some s => badOf n s || (List.range i).any (clashP ss rest s) | none => false
theorem badAt_at {n : Nat} {ss : List Q3} {rest : Int} {i : Nat} {s : Q3} (h : ss[i]? = some s) : badAt n ss rest i = (badOf n s || (List.range i).any (clashP ss rest s)) := by simp [badAt, h]
theorem clashP_at {ss : List Q3} {rest : Int} {s x : Q3} {k : Nat} (h : ss[k]? = some x) : clashP ss rest s k = clash rest x s := by simp [clashP, h]
theorem any_yes {p : Nat → Bool} {i k : Nat} (hk : k < i) (h : p k = true) : (List.range i).any p = true := List.any_eq_true.2 ⟨k, List.mem_range.2 hk, h⟩
theorem any_no {p : Nat → Bool} {i : Nat} (h : ∀ k, k < i → p k = false) : (List.range i).any p = false := by
  rw [List.any_eq_false]; intro k hk; simp [h k (List.mem_range.1 hk)]
def faultOf (n : Nat) (ss : List Q3) (rest : Int) : Int := fstI (badAt n ss rest) ss.length
def sfCode (es : List G3) (ss : List Q3) (rest : Int) : Int := if shCode es ss ≠ 0 then shCode es ss else if inR rest 0 100 = false then 2 else 0
def sfRes (es : List G3) (ss : List Q3) (rest : Int) : Int := if sfCode es ss rest = 0 then faultOf es.length ss rest else 0
theorem sfRes_neg {es : List G3} {ss : List Q3} {rest : Int} (h : sfCode es ss rest ≠ 0) : sfRes es ss rest = 0 := if_neg h
theorem faultOf_bd (n : Nat) (ss : List Q3) (rest : Int) : -1 ≤ faultOf n ss rest ∧ faultOf n ss rest < ss.length := by
  rcases fstI_cases (badAt n ss rest) ss.length with ⟨h, _⟩ | ⟨k, h1, h2, _⟩ <;> rw [faultOf] <;> omega
/-- where there is no fault, guards and hours are in order -/
theorem fault_none {n : Nat} {ss : List Q3} {rest : Int} (h : faultOf n ss rest < 0) {k : Nat} {s : Q3} (hs : ss[k]? = some s) : 0 ≤ s.a ∧ s.a < n ∧ s.b < s.c := by
  rcases fstI_cases (badAt n ss rest) ss.length with ⟨_, h2⟩ | ⟨k, h1, h2, _⟩
  · have := h2 k (List.getElem?_eq_some_iff.1 hs).1
    rw [badAt_at hs, Bool.or_eq_false_iff] at this
    have h3 := this.1
    rw [badOf, Bool.or_eq_false_iff] at h3
    have h4 : inR s.a 0 ((n : Int) - 1) = true := by simpa using h3.1
    have h5 : ¬ s.c ≤ s.b := by simpa using h3.2
    have := inR_iff.1 h4
    omega
  · rw [faultOf, h2] at h; omega
def goodCode (es : List G3) (ss : List Q3) : Int := if shCode es ss ≠ 0 then shCode es ss else if 0 ≤ faultOf es.length ss 0 then 6 else 0
theorem goodCode_zero {es : List G3} {ss : List Q3} : goodCode es ss = 0 ↔ shCode es ss = 0 ∧ faultOf es.length ss 0 < 0 := by
  unfold goodCode
  by_cases h : shCode es ss = 0
  · rw [if_neg (by simp [h])]
    by_cases h2 : 0 ≤ faultOf es.length ss 0
    · rw [if_pos h2]; omega
    · rw [if_neg h2]; omega
  · rw [if_pos h]; omega
def spanOf (q : Q3) : Int := q.c - q.b
def hoursOf (n : Nat) (ss : List Q3) : List Int := sumsOf (α := Q3) (·.a) spanOf n ss
def hoursRes (es : List G3) (ss : List Q3) : List Int := if goodCode es ss = 0 then hoursOf es.length ss else []
theorem hoursRes_neg {es : List G3} {ss : List Q3} (h : goodCode es ss ≠ 0) : hoursRes es ss = [] := if_neg h
theorem hours_bd {ss : List Q3} (h : ss.all hourOk = true) (hl : ss.length ≤ 40) (o : Int) (k : Nat) : -4000000 ≤ sumBy (fun q : Q3 => if q.a = o then spanOf q else 0) (ss.take k) ∧ sumBy (fun q : Q3 => if q.a = o then spanOf q else 0) (ss.take k) ≤ 4000000 := by
  have : ∀ l : List Q3, (∀ q ∈ l, hourOk q = true) → -(100000 * (l.length : Int)) ≤ sumBy (fun q : Q3 => if q.a = o then spanOf q else 0) l ∧ sumBy (fun q : Q3 => if q.a = o then spanOf q else 0) l ≤ 100000 * (l.length : Int) := by
    intro l
    induction l with
    | nil => intro _; simp [sumBy]
    | cons x l ih =>
      intro h
      have h1 := ih fun q hq => h q (List.mem_cons.2 (.inr hq))
      have h2 := h x (List.mem_cons.2 (.inl rfl))
      simp only [hourOk, Bool.and_eq_true, inR_iff] at h2
      have e1 : sumBy (fun q : Q3 => if q.a = o then spanOf q else 0) (x :: l) = (if x.a = o then spanOf x else 0) + sumBy (fun q : Q3 => if q.a = o then spanOf q else 0) l := by simp [sumBy]
      rw [e1, List.length_cons]
      have hs : spanOf x = x.c - x.b := rfl
      split <;> omega
  have h2 := this (ss.take k) fun q hq => List.all_eq_true.1 h q (List.mem_of_mem_take hq)
  have : (ss.take k).length ≤ 40 := by rw [List.length_take]; omega
  omega
def onDuty (hour : Int) (q : Q3) : Bool := inR hour q.b (q.c - 1)
def dutyP (ss : List Q3) (hour : Int) (i : Nat) : Bool := ss.any (fun q => q.a == (i : Int) && onDuty hour q)
def watchers (n : Nat) (ss : List Q3) (hour : Int) : List Int := idxs (dutyP ss hour) n
/-- a number into its place among rising ones, once -/
def putS (x : Int) : List Int → List Int
  | [] => [x]
  | y :: ys => if y < x then y :: putS x ys else if y = x then y :: ys else x :: y :: ys
def duties (hour : Int) (ss : List Q3) : List Int := ss.foldl (fun l q => if onDuty hour q = true then putS q.a l else l) []
theorem idxs_put {p p' : Nat → Bool} {a : Nat} (hp : ∀ i, p' i = (p i || decide (i = a))) : ∀ {n : Nat}, a < n → putS (a : Int) (idxs p n) = idxs p' n := by
  intro n
  have hgen : ∀ n, (a < n → putS (a : Int) (idxs p n) = idxs p' n) ∧ (n ≤ a → idxs p' n = idxs p n) := by
    intro n
    induction n with
    | zero => exact ⟨fun h => by omega, fun _ => rfl⟩
    | succ n ih =>
      have happ : ∀ (l : List Int) (z : Int), (∀ y ∈ l, y < z) → (a : Int) < z → putS (a : Int) (l ++ [z]) = putS (a : Int) l ++ [z] := by
        intro l
        induction l with
        | nil => intro z _ hz; simp only [List.nil_append, putS]; rw [if_neg (by omega), if_neg (by omega)]; rfl
        | cons y l ihl =>
          intro z hall hz
          have hy := hall y (List.mem_cons.2 (.inl rfl))
          have hr := ihl z (fun u hu => hall u (List.mem_cons.2 (.inr hu))) hz
          simp only [List.cons_append, putS]
          split
          · rw [hr]; rfl
          · split
            · rfl
            · rfl
      have hlast : ∀ (l : List Int), (∀ y ∈ l, y < (a : Int)) → putS (a : Int) l = l ++ [(a : Int)] := by
        intro l
        induction l with
        | nil => intro _; rfl
        | cons y l ihl =>
          intro hall
          simp only [putS]
          rw [if_pos (hall y (List.mem_cons.2 (.inl rfl))), ihl fun u hu => hall u (List.mem_cons.2 (.inr hu))]
          rfl
      have hself : ∀ (l : List Int), (∀ y ∈ l, y < (a : Int)) → putS (a : Int) (l ++ [(a : Int)]) = l ++ [(a : Int)] := by
        intro l
        induction l with
        | nil => intro _; simp [putS]
        | cons y l ihl =>
          intro hall
          simp only [List.cons_append, putS]
          rw [if_pos (hall y (List.mem_cons.2 (.inl rfl))), ihl fun u hu => hall u (List.mem_cons.2 (.inr hu))]
      have hlt : ∀ y ∈ idxs p n, y < (n : Int) := fun y hy => by obtain ⟨k, rfl, hk, _⟩ := idxs_mem hy; omega
      refine ⟨fun h => ?_, fun h => ?_⟩
      · rcases Nat.lt_or_ge a n with h1 | h1
        · have hpn : p' n = p n := by rw [hp]; simp; omega
          cases hv : p n with
          | false => rw [idxs_no hv, idxs_no (by rw [hpn]; exact hv)]; exact ih.1 h1
          | true => rw [idxs_yes hv, idxs_yes (by rw [hpn]; exact hv), happ _ _ hlt (by omega), ih.1 h1]
        · have han : a = n := by omega
          have hp1 : p' n = true := by rw [hp, han]; simp
          rw [idxs_yes hp1, ih.2 h1]
          cases hv : p n with
          | false => rw [idxs_no hv, ← han]; exact hlast _ (by rw [han]; exact hlt)
          | true => rw [idxs_yes hv, ← han]; exact hself _ (by rw [han]; exact hlt)
      · have hpn : p' n = p n := by rw [hp]; simp; omega
        cases hv : p n with
        | false => rw [idxs_no hv, idxs_no (by rw [hpn]; exact hv)]; exact ih.2 (by omega)
        | true => rw [idxs_yes hv, idxs_yes (by rw [hpn]; exact hv), ih.2 (by omega)]
  exact (hgen n).1
theorem duties_eq {n : Nat} {hour : Int} : ∀ {ss : List Q3}, (∀ q ∈ ss, 0 ≤ q.a ∧ q.a < n) → duties hour ss = watchers n ss hour := by
  have hgen : ∀ (ss : List Q3) (p : Nat → Bool), (∀ q ∈ ss, 0 ≤ q.a ∧ q.a < n) → ss.foldl (fun l q => if onDuty hour q = true then putS q.a l else l) (idxs p n) = idxs (fun i => p i || dutyP ss hour i) n := by
    intro ss
    induction ss with
    | nil => intro p _; simp [dutyP]
    | cons q ss ih =>
      intro p h
      have hq := h q (List.mem_cons.2 (.inl rfl))
      have hr : ∀ x ∈ ss, 0 ≤ x.a ∧ x.a < n := fun x hx => h x (List.mem_cons.2 (.inr hx))
      obtain ⟨a, ha⟩ : ∃ a : Nat, q.a = (a : Int) := ⟨q.a.toNat, by omega⟩
      simp only [List.foldl_cons]
      cases hd : onDuty hour q with
      | false =>
        rw [if_neg (by simp), ih p hr]
        congr 1; funext i; simp [dutyP, hd]
      | true =>
        rw [if_pos rfl, ha, idxs_put (p' := fun i => p i || decide (i = a)) (fun i => rfl) (by omega), ih _ hr]
        congr 1; funext i
        have : (q.a == (i : Int)) = decide (i = a) := by rw [ha]; by_cases h : i = a <;> simp [h] <;> omega
        simp [dutyP, hd, this, Bool.or_assoc]
  intro ss h
  have := hgen ss (fun _ => false) h
  have h0 : idxs (fun _ => false) n = [] := by unfold idxs; simp
  rw [h0] at this
  rw [duties, this, watchers]; simp
def freeOf (fr : List Int) (i : Int) : Int := fr[i.toNat]?.getD 0
theorem freeOf_at {fr : List Int} {i : Nat} {x : Int} (h : fr[i]? = some x) : freeOf fr (i : Int) = x := by simp [freeOf, h]
def bNext (fr : List Int) (m : Int) (b : Int) (i : Nat) (x : Int) : Int := if x ≤ m ∧ (b < 0 ∨ x < freeOf fr b) then (i : Int) else b
def bestN (fr : List Int) (m : Int) : Nat → Int
  | 0 => -1
  | k + 1 => match fr[k]? with | some x => bNext fr m (bestN fr m k) k x | none => bestN fr m k
theorem bestN_succ {fr : List Int} {m : Int} {k : Nat} {x : Int} (h : fr[k]? = some x) : bestN fr m (k + 1) = bNext fr m (bestN fr m k) k x := by rw [bestN, h]
theorem bestN_bd (fr : List Int) (m : Int) (n : Nat) : bestN fr m n = -1 ∨ ∃ k : Nat, bestN fr m n = (k : Int) ∧ k < n ∧ k < fr.length := by
  induction n with
  | zero => exact .inl rfl
  | succ n ih =>
    cases hx : fr[n]? with
    | none => rw [bestN, hx]; rcases ih with h | ⟨k, h1, h2, h3⟩; exact .inl h; exact .inr ⟨k, h1, by omega, h3⟩
    | some x =>
      rw [bestN_succ hx, bNext]
      split
      · exact .inr ⟨n, rfl, by omega, (List.getElem?_eq_some_iff.1 hx).1⟩
      · rcases ih with h | ⟨k, h1, h2, h3⟩; exact .inl h; exact .inr ⟨k, h1, by omega, h3⟩
def pgo (to long rest : Int) : Nat → Int → List Int → List Q3 → Int × List Q3
  | 0, _, _, out => (0, out)
  | f + 1, m, fr, out => if m < to then (if bestN fr m fr.length < 0 then (3, []) else if 40 ≤ out.length then (5, []) else pgo to long rest f (min to (m + long)) (fr.set (bestN fr m fr.length).toNat (min to (m + long) + rest)) (out ++ [⟨bestN fr m fr.length, m, min to (m + long)⟩])) else (0, out)
def planOk (from_ to long rest : Int) : Bool := inR from_ 0 100000 && (inR to 0 100000 && (decide (from_ ≤ to) && (inR long 1 24 && inR rest 0 100)))
def planAll (n : Nat) (from_ to long rest : Int) : Int × List Q3 := pgo to long rest ((to - from_).toNat + 1) from_ (List.replicate n 0) []
def planCode (es : List G3) (from_ to long rest : Int) : Int := if guardsOk es = false then 1 else if planOk from_ to long rest = false then 2 else (planAll es.length from_ to long rest).1
def planOut (es : List G3) (from_ to long rest : Int) : List Q3 := if planCode es from_ to long rest = 0 then (planAll es.length from_ to long rest).2 else []
theorem planOut_neg {es : List G3} {f t l r : Int} (h : planCode es f t l r ≠ 0) : planOut es f t l r = [] := if_neg h
theorem pgo_end {to long rest m : Int} {f : Nat} {fr : List Int} {out : List Q3} (h : to ≤ m) : pgo to long rest f m fr out = (0, out) := by
  cases f with
  | zero => rfl
  | succ f => rw [pgo, if_neg (by omega)]
theorem pgo_none {to long rest m : Int} {f : Nat} {fr : List Int} {out : List Q3} (hf : to < m + f) (hm : m < to) (hb : bestN fr m fr.length < 0) : pgo to long rest f m fr out = (3, []) := by
  cases f with
  | zero => omega
  | succ f => rw [pgo, if_pos hm, if_pos hb]
theorem pgo_full {to long rest m : Int} {f : Nat} {fr : List Int} {out : List Q3} (hf : to < m + f) (hm : m < to) (hb : ¬ bestN fr m fr.length < 0) (ho : 40 ≤ out.length) : pgo to long rest f m fr out = (5, []) := by
  cases f with
  | zero => omega
  | succ f => rw [pgo, if_pos hm, if_neg hb, if_pos ho]
theorem pgo_step {to long rest m : Int} {f : Nat} {fr : List Int} {out : List Q3} {b : Nat} {e : Int} (hl : 1 ≤ long) (hf : to < m + f) (hm : m < to) (hb : bestN fr m fr.length = (b : Int)) (ho : ¬ 40 ≤ out.length) (he : min to (m + long) = e) :
    pgo to long rest f m fr out = pgo to long rest (f - 1) e (fr.set b (e + rest)) (out ++ [⟨(b : Int), m, e⟩]) ∧ to < e + ((f - 1 : Nat) : Int) := by
  cases f with
  | zero => omega
  | succ f =>
    refine ⟨?_, by omega⟩
    rw [pgo, if_pos hm, if_neg (by rw [hb]; omega), if_neg ho, hb, he]; rfl
theorem pgo_len (to long rest : Int) : ∀ (f : Nat) (m : Int) (fr : List Int) (out : List Q3), out.length ≤ 40 → (pgo to long rest f m fr out).2.length ≤ 40
  | 0, _, _, out, h => h
  | f + 1, m, fr, out, h => by
    unfold pgo
    split
    · split
      · simp
      · split
        · simp
        · exact pgo_len to long rest f _ _ _ (by simp; omega)
    · exact h
theorem planOut_len (es : List G3) (f t l r : Int) : (planOut es f t l r).length ≤ 40 := by
  unfold planOut
  split
  · exact pgo_len _ _ _ _ _ _ _ (by simp)
  · simp

end Go.Proofs.Ythjdodamfinhaaa

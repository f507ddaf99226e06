/- Walks over functions of this seat, by contract. Conditions: those that each theorem states. -/
import Derived.Test.YtogjkcakoahpiaaDoorD2
import Derived.Test.YtogjkcakoahpiaaDoorG3
import Derived.IntWalk
import Derived.WalkKit
namespace Go.Proofs.YtogjkcakoahpiaaDoor
open Go.RowKit Go.Sort

/-- the sums of val by key, for the keys below N -/
def sumsOf {α : Type} (key val : α → Int) (N : Nat) (es : List α) : List Int := (List.range N).map fun (o : Nat) => sumBy (fun q => if key q = (o : Int) then val q else 0) es
theorem sumsOf_len {α : Type} (key val : α → Int) (N : Nat) (es : List α) : (sumsOf key val N es).length = N := by simp [sumsOf]
theorem sumsOf_get {α : Type} {key val : α → Int} {N : Nat} {es : List α} {o : Nat} (h : o < N) : (sumsOf key val N es)[o]? = some (sumBy (fun q => if key q = (o : Int) then val q else 0) es) := by
  simp [sumsOf, h]
theorem sumsOf_zero {α : Type} (key val : α → Int) (N : Nat) (es : List α) : sumsOf key val N (es.take 0) = List.replicate N 0 := by
  apply List.ext_getElem
  · simp [sumsOf]
  · intro i h1 h2; simp [sumsOf, sumBy]
theorem sumsOf_succ {α : Type} {key val : α → Int} {N : Nat} {es : List α} {k o : Nat} {e : α} (he : es[k]? = some e) (ho : key e = (o : Int)) :
    sumsOf key val N (es.take (k + 1)) = (sumsOf key val N (es.take k)).set o (sumBy (fun q => if key q = (o : Int) then val q else 0) (es.take k) + val e) := by
  apply List.ext_getElem?
  intro i
  rw [List.getElem?_set]
  rcases Nat.lt_or_ge i N with hi | hi
  · rw [sumsOf_get hi, sumsOf_get hi, sumBy_succ he, sumsOf_len]
    by_cases h : o = i
    · subst h; rw [if_pos rfl, if_pos hi, if_pos ho]
    · have : ¬ key e = (i : Int) := by omega
      rw [if_neg h, if_neg this, Int.add_zero]
  · rw [List.getElem?_eq_none (by rw [sumsOf_len]; exact hi), List.getElem?_eq_none (by rw [sumsOf_len]; exact hi), sumsOf_len]
    split <;> simp_all <;> omega
theorem own_zeros (w : World) (E N : Nat) (hm : N ≤ 1048576) : Own (w.alloc (.cells (madeCells #[.int .i64 0] N) E)) w.heap.size E 1 icell (.slice (some ⟨w.heap.size, 0, none⟩) N N) (List.replicate N (0 : Int)) := by
  refine ⟨by rw [flat_len icell_len], .inr ⟨w.heap.size, N, _, by simp, Nat.le_refl _, heap_alloc_new w _, by simp, by unfold maxLen; omega, by simp [size_madeCells], ?_⟩⟩
  rw [icell_flat]
  apply List.ext_getElem
  · simp [madeCells]
  · intro i h1 h2
    simp [madeCells, Nat.mod_one]
theorem idxs_filter (p : Nat → Bool) (f : Int → Bool) (n : Nat) : (idxs p n).filter f = idxs (fun i => p i && f (i : Int)) n := by
  induction n with
  | zero => rfl
  | succ n ih =>
    cases hp : p n with
    | false => rw [idxs_no hp, ih, idxs_no (by simp [hp])]
    | true =>
      rw [idxs_yes hp, List.filter_append, ih]
      cases hf : f (n : Int) with
      | false => rw [idxs_no (by simp [hf])]; simp [hf]
      | true => rw [idxs_yes (by simp [hp, hf])]; simp [hf]
theorem impl_isDate (n : Int) (w : World) : Calls Tryd.prog 28 #[.int .i64 n] w fun e w' => e = .returned (.bool (inR n 1 100000)) ∧ w = w' := by
  go_enter Tryd.func28, Tryd.ntmps28
  go_wp2_with (go_at_call 29; refine (impl_ValidDay _ _).mono ?_; rintro e w' ⟨rfl, rfl⟩)
  all_goals (go_ret; exact ⟨ret_bool (by simp_all [inR] <;> omega), rfl⟩)
theorem impl_isMetre (n : Int) (w : World) : Calls Tryd.prog 26 #[.int .i64 n] w fun e w' => e = .returned (.bool (inR n 0 300000)) ∧ w = w' := by
  go_enter Tryd.func26, Tryd.ntmps26
  go_wp2_with (go_at_call 27; refine (impl_in _ _ _ _).mono ?_; rintro e w' ⟨rfl, rfl⟩)
  all_goals (go_ret; exact ⟨rfl, rfl⟩)
def defectOk (q : Q4) : Bool := inR q.a 0 300000 && inR q.b 1 5 && inR q.c 1 100000 && (q.d == 0 || inR q.d q.c 100000)
def dLt (p q : Q4) : Bool := decide (p.c < q.c) || (p.c == q.c && (decide (p.a < q.a) || (p.a == q.a && decide (p.b < q.b))))
def dCmp (p q : Q4) : Int := if dLt p q = true then -1 else if dLt q p = true then 1 else 0
def defectsOk (es : List Q4) : Bool := okList defectOk dLt es && decide (es.length ≤ 60)
theorem defectOk_iff {q : Q4} : defectOk q = true ↔ (0 ≤ q.a ∧ q.a ≤ 300000) ∧ (1 ≤ q.b ∧ q.b ≤ 5) ∧ (1 ≤ q.c ∧ q.c ≤ 100000) ∧ (q.d = 0 ∨ q.c ≤ q.d ∧ q.d ≤ 100000) := by
  simp [defectOk, inR_iff, and_assoc]
theorem dLt_iff {p q : Q4} : dLt p q = true ↔ p.c < q.c ∨ (p.c = q.c ∧ (p.a < q.a ∨ (p.a = q.a ∧ p.b < q.b))) := by
  simp [dLt]
theorem dLt_no {p q : Q4} : dLt p q = false ↔ ¬ (p.c < q.c ∨ (p.c = q.c ∧ (p.a < q.a ∨ (p.a = q.a ∧ p.b < q.b)))) := by
  rw [← dLt_iff]; simp
theorem dCmp_neg {p q : Q4} : dCmp p q < 0 ↔ dLt p q = true := by
  unfold dCmp; split <;> rename_i h
  · simp [h]
  · split <;> simp [h]
theorem dCmp_zero {p q : Q4} : dCmp p q = 0 ↔ dLt p q = false ∧ dLt q p = false := by
  unfold dCmp; split <;> rename_i h
  · simp [h]
  · split <;> rename_i h2 <;> simp_all
theorem dCmp_bd (p q : Q4) : -1 ≤ dCmp p q ∧ dCmp p q ≤ 1 := by unfold dCmp; split <;> (try split) <;> omega
theorem defectsOk_iff {es : List Q4} : defectsOk es = true ↔ okList defectOk dLt es = true ∧ es.length ≤ 60 := by simp [defectsOk]
theorem defects_all {es : List Q4} (h : defectsOk es = true) : es.length ≤ 60 ∧ ∀ e ∈ es, defectOk e = true := by
  obtain ⟨h1, h2⟩ := defectsOk_iff.1 h
  refine ⟨h2, fun e he => ?_⟩
  obtain ⟨k, hk, rfl⟩ := List.mem_iff_getElem.1 he
  exact (okList_iff.1 h1).1 k _ (List.getElem?_eq_getElem hk)
theorem spec_l18One (q : Q4) (w : World) : Calls Tryd.prog 14 #[.agg #[.int .i64 q.a, .int .i64 q.b, .int .i64 q.c, .int .i64 q.d]] w fun e w' => e = .returned (.bool (defectOk q)) ∧ Below w.heap.size w w' := by
  go_enter Tryd.func14, Tryd.ntmps14
  go_wp2_with (go_at_call 22; refine (spec_l00In _ _ _ _).mono ?_; rintro e w' ⟨rfl, rfl⟩)
  all_goals (go_ret; exact ⟨ret_bool (by simp_all [defectOk]), below_al (Below.refl _ _) _⟩)
theorem spec_l18One_r (q : Q4) (r : Bool) (hr : defectOk q = r) (w : World) : Calls Tryd.prog 14 #[.agg #[.int .i64 q.a, .int .i64 q.b, .int .i64 q.c, .int .i64 q.d]] w fun e w' => e = .returned (.bool r) ∧ Below w.heap.size w w' := by
  subst hr; exact spec_l18One q w
theorem impl_isDefect (q : Q4) (w : World) : Calls Tryd.prog 16 #[.agg #[.int .i64 q.a, .int .i64 q.b, .int .i64 q.c, .int .i64 q.d]] w fun e w' => e = .returned (.bool (defectOk q)) ∧ Below w.heap.size w w' := by
  go_enter Tryd.func16, Tryd.ntmps16
  go_wp2_with (first
    | (go_at_call 26; refine (impl_isMetre _ _).mono ?_; rintro e w' ⟨rfl, rfl⟩)
    | (go_at_call 28; refine (impl_isDate _ _).mono ?_; rintro e w' ⟨rfl, rfl⟩)
    | (go_at_call 29; refine (impl_ValidDay _ _).mono ?_; rintro e w' ⟨rfl, rfl⟩)
    | (go_at_call 27; refine (impl_in _ _ _ _).mono ?_; rintro e w' ⟨rfl, rfl⟩))
  all_goals (go_ret; exact ⟨ret_bool (by simp_all [defectOk, inR]; try omega), below_al (Below.refl _ _) _⟩)
def nmLet (x : Int) : Prop := 97 ≤ x ∧ x ≤ 122
def nmOth (x : Int) : Prop := (48 ≤ x ∧ x ≤ 57) ∨ x = 45
def nmGood (x : Int) (j : Nat) : Prop := nmLet x ∨ (nmOth x ∧ 0 < j)
instance (x : Int) (j : Nat) : Decidable (nmGood x j) := by unfold nmGood nmLet nmOth; exact inferInstance
/-- every byte is good at its place -/
def nmAll (s : ByteArray) : Bool := (List.range s.size).all fun j => decide (nmGood ((s.data.toList.getD j 0).toNat : Int) j)
def nameOk (s : ByteArray) : Bool := nmAll s && inR (s.size : Int) 1 12
theorem byte_getD {s : ByteArray} {j : Nat} (h : j < s.size) : s.data.toList.getD j 0 = s[j] := by
  have h' : j < s.data.toList.length := by simpa using h
  rw [List.getD_eq_getElem?_getD, List.getElem?_eq_getElem h']; rfl
theorem nmAll_no {s : ByteArray} {j : Nat} (h : j < s.size) (hb : ¬ nmGood (s[j].toNat : Int) j) : nameOk s = false := by
  have : nmAll s = false := by
    rw [nmAll, List.all_eq_false]
    exact ⟨j, List.mem_range.2 h, by rw [byte_getD h]; simpa using hb⟩
  rw [nameOk, this]; rfl
theorem nmAll_yes {s : ByteArray} (h : ∀ j (hj : j < s.size), nmGood (s[j].toNat : Int) j) : nmAll s = true := by
  rw [nmAll, List.all_eq_true]
  intro j hj
  rw [byte_getD (List.mem_range.1 hj)]
  simpa using h j (List.mem_range.1 hj)
theorem nameOk_of {s : ByteArray} (h : ∀ j (hj : j < s.size), nmGood (s[j].toNat : Int) j) : nameOk s = inR (s.size : Int) 1 12 := by
  rw [nameOk, nmAll_yes h]; rfl
theorem spec_l01Digit (x : Int) (w : World) : Calls Tryd.prog 20 #[.int .u8 x] w fun e w' => e = .returned (.bool (inR x 48 57)) ∧ w = w' := by
  go_enter Tryd.func20, Tryd.ntmps20
  go_wp2
  all_goals (go_ret; exact ⟨ret_bool (by simp_all [inR] <;> omega), rfl⟩)
def scell (s : ByteArray) : List Value := [.string s]
theorem scell_len (s : ByteArray) : (scell s).length = 1 := rfl
theorem scell_one (e : ByteArray) (u : Value) (hu : u ∈ scell e) : u.oneCell' = true := by
  simp [scell] at hu; subst hu; rfl
theorem Has.s1 {w : World} {b off k : Nat} {xs : List ByteArray} {x : ByteArray} (h : Has w b off 1 scell xs) (hx : xs[k]? = some x) : w.cell? ⟨b, off + k, none⟩ = some (.string x) := by
  have := h k x hx 0 _ rfl
  simpa using this
def sEq (s t : ByteArray) : Bool := s.toList == t.toList
def hasS (xs : List ByteArray) (s : ByteArray) : Bool := xs.any (fun x => sEq x s)
theorem hasS_yes {xs : List ByteArray} {s : ByteArray} {k : Nat} {x : ByteArray} (h : xs[k]? = some x) (e : sEq x s = true) : hasS xs s = true := by
  rw [hasS, List.any_eq_true]; exact ⟨x, List.mem_of_getElem? h, e⟩
theorem hasS_no {xs : List ByteArray} {s : ByteArray} (h : ∀ (k : Nat) x, xs[k]? = some x → sEq x s = false) : hasS xs s = false := by
  rw [hasS, List.any_eq_false]
  intro y hy
  obtain ⟨k, hk, rfl⟩ := List.mem_iff_getElem.1 hy
  simp [h k _ (List.getElem?_eq_getElem hk)]
def guardOk (g : G3) : Bool := nameOk g.s && (decide (0 ≤ g.a) && (decide (g.a < g.b) && decide (g.b ≤ 300000)))
theorem guardOk_iff {g : G3} : guardOk g = true ↔ nameOk g.s = true ∧ 0 ≤ g.a ∧ g.a < g.b ∧ g.b ≤ 300000 := by simp [guardOk]
def namesOf (es : List G3) : List ByteArray := es.map (·.s)
theorem namesOf_get {es : List G3} {k : Nat} {e : G3} (h : es[k]? = some e) : (namesOf es)[k]? = some e.s := by simp [namesOf, h]
theorem namesOf_succ {es : List G3} {k : Nat} {e : G3} (h : es[k]? = some e) : namesOf (es.take (k + 1)) = namesOf (es.take k) ++ [e.s] := by
  obtain ⟨hk, hx⟩ := List.getElem?_eq_some_iff.1 h
  rw [List.take_succ_eq_append_getElem hk, namesOf, List.map_append, hx]; rfl
def guardAt (es : List G3) (k : Nat) : Bool := match es[k]? with | some e => guardOk e && !hasS (namesOf (es.take k)) e.s | none => true
def guardsAll (es : List G3) : Bool := (List.range es.length).all (guardAt es)
def guardsOk (es : List G3) : Bool := guardsAll es && decide (es.length ≤ 30)
theorem guardAt_eq {es : List G3} {k : Nat} {e : G3} (h : es[k]? = some e) : guardAt es k = (guardOk e && !hasS (namesOf (es.take k)) e.s) := by rw [guardAt, h]
theorem guardsOk_no {es : List G3} {k : Nat} {e : G3} (h : es[k]? = some e) (hb : guardAt es k = false) : guardsOk es = false := by
  have : guardsAll es = false := by
    rw [guardsAll, List.all_eq_false]
    exact ⟨k, List.mem_range.2 (List.getElem?_eq_some_iff.1 h).1, by simp [hb]⟩
  rw [guardsOk, this]; rfl
theorem guardsOk_of {es : List G3} (h : ∀ k, k < es.length → guardAt es k = true) : guardsOk es = decide (es.length ≤ 30) := by
  have : guardsAll es = true := by rw [guardsAll, List.all_eq_true]; exact fun k hk => h k (List.mem_range.1 hk)
  rw [guardsOk, this]; rfl
theorem guards_all {es : List G3} (h : guardsOk es = true) : es.length ≤ 30 ∧ ∀ e ∈ es, guardOk e = true := by
  rw [guardsOk, Bool.and_eq_true] at h
  refine ⟨by simpa using h.2, fun e he => ?_⟩
  obtain ⟨k, hk, rfl⟩ := List.mem_iff_getElem.1 he
  have := List.all_eq_true.1 h.1 k (List.mem_range.2 hk)
  rw [guardAt_eq (List.getElem?_eq_getElem hk), Bool.and_eq_true] at this
  exact this.1
def knowsB (e : G3) (m : Int) : Bool := inR m e.a (e.b - 1)
def knowP (es : List G3) (m : Int) (i : Nat) : Bool := match es[i]? with | some e => knowsB e m | none => false
theorem knowP_at {es : List G3} {m : Int} {i : Nat} {e : G3} (h : es[i]? = some e) : knowP es m i = knowsB e m := by simp [knowP, h]
def knowIdx (es : List G3) (m : Int) : List Int := idxs (knowP es m) es.length
def atCode (es : List G3) (m : Int) : Int := if guardsOk es = false then 1 else if inR m 0 299999 = false then 2 else 0
def atRes (es : List G3) (m : Int) : List Int := if atCode es m = 0 then knowIdx es m else []
theorem atRes_neg {es : List G3} {m : Int} (h : atCode es m ≠ 0) : atRes es m = [] := if_neg h
theorem atRes_pos {es : List G3} {m : Int} (h : atCode es m = 0) : atRes es m = knowIdx es m := if_pos h
def lenCode (es : List G3) (m : Int) : Int := if guardsOk es = false then 1 else if inR m 1 300000 = false then 2 else 0
/-- the guard who goes on farthest from m among the first n; -1 if none -/
def toOf (es : List G3) (i : Int) : Int := match es[i.toNat]? with | some e => e.b | none => 0
theorem toOf_at {es : List G3} {i : Nat} {e : G3} (h : es[i]? = some e) : toOf es (i : Int) = e.b := by simp [toOf, h]
def rNext (es : List G3) (b : Int) (i : Int) : Int := if b < 0 ∨ toOf es b < toOf es i then i else b
def reachN (es : List G3) (m : Int) : Nat → Int
  | 0 => -1
  | k + 1 => if knowP es m k = true then rNext es (reachN es m k) (k : Int) else reachN es m k
theorem reach_fold (es : List G3) (m : Int) (n : Nat) : (idxs (knowP es m) n).foldl (rNext es) (-1) = reachN es m n := by
  induction n with
  | zero => rfl
  | succ n ih =>
    cases hp : knowP es m n with
    | false => rw [idxs_no hp, ih, reachN, if_neg (by simp [hp])]
    | true => rw [idxs_yes hp, List.foldl_append, ih, reachN, if_pos hp]; rfl
theorem reachN_bd (es : List G3) (m : Int) (n : Nat) : reachN es m n = -1 ∨ ∃ k : Nat, reachN es m n = (k : Int) ∧ k < n ∧ knowP es m k = true := by
  induction n with
  | zero => exact .inl rfl
  | succ n ih =>
    unfold reachN
    split
    · rename_i hp
      unfold rNext
      split
      · exact .inr ⟨n, rfl, by omega, hp⟩
      · rcases ih with h | ⟨k, h1, h2, h3⟩
        · exact .inl h
        · exact .inr ⟨k, h1, by omega, h3⟩
    · rcases ih with h | ⟨k, h1, h2, h3⟩
      · exact .inl h
      · exact .inr ⟨k, h1, by omega, h3⟩
theorem reachN_none {es : List G3} {m : Int} {n : Nat} (h : reachN es m n = -1) : ∀ k, k < n → knowP es m k = false := by
  induction n with
  | zero => intro k hk; omega
  | succ n ih =>
    intro k hk
    unfold reachN at h
    split at h
    · unfold rNext at h
      split at h
      · omega
      · rename_i hn
        exact absurd (by rw [h]; omega) hn
    · rename_i hp
      rcases Nat.lt_or_ge k n with h1 | h1
      · exact ih h k h1
      · have : k = n := by omega
        subst this; simpa using hp
def reach (es : List G3) (m : Int) : Int := reachN es m es.length
/-- the fewest guards from a place on; none if a place is not known -/
def fgo (es : List G3) (len : Int) : Nat → Int → List Int → Option (List Int)
  | 0, _, out => some out
  | f + 1, m, out => if m < len then (if reach es m < 0 then none else fgo es len f (toOf es (reach es m)) (out ++ [reach es m])) else some out
def fewest (es : List G3) (len : Int) : Option (List Int) := fgo es len (len.toNat + 1) 0 []
def fCode (es : List G3) (len : Int) : Int := if lenCode es len ≠ 0 then lenCode es len else if (fewest es len).isNone = true then 3 else 0
def fRes (es : List G3) (len : Int) : List Int := if fCode es len = 0 then (fewest es len).getD [] else []
theorem fRes_neg {es : List G3} {len : Int} (h : fCode es len ≠ 0) : fRes es len = [] := if_neg h
theorem reach_to {es : List G3} {m : Int} (h : ¬ reach es m < 0) : ∃ (k : Nat) (e : G3), reach es m = (k : Int) ∧ es[k]? = some e ∧ toOf es (reach es m) = e.b ∧ e.a ≤ m ∧ m < e.b := by
  rcases reachN_bd es m es.length with h1 | ⟨k, h1, h2, h3⟩
  · exact absurd (by rw [reach, h1]; omega) h
  · have he : es[k]? = some es[k] := List.getElem?_eq_getElem h2
    rw [knowP_at he, knowsB, inR_iff] at h3
    exact ⟨k, es[k], h1, he, by rw [reach, h1, toOf_at he], h3.1, by omega⟩
theorem fgo_end {es : List G3} {len m : Int} {f : Nat} {out : List Int} (h : len ≤ m) : fgo es len f m out = some out := by
  cases f with
  | zero => rfl
  | succ f => rw [fgo, if_neg (by omega)]
/-- the fuel does not matter if there is enough -/
theorem fgo_step {es : List G3} {len m : Int} {f : Nat} {out : List Int} (hf : len < m + f) (hm : m < len) (hr : ¬ reach es m < 0) : fgo es len f m out = fgo es len (f - 1) (toOf es (reach es m)) (out ++ [reach es m]) ∧ len < toOf es (reach es m) + ((f - 1 : Nat) : Int) := by
  obtain ⟨k, e, h1, _, h3, h4, h5⟩ := reach_to hr
  cases f with
  | zero => omega
  | succ f =>
    refine ⟨by rw [fgo, if_pos hm, if_neg hr]; rfl, ?_⟩
    rw [h3]; omega
theorem fgo_none {es : List G3} {len m : Int} {f : Nat} {out : List Int} (hf : len < m + f) (hm : m < len) (hr : reach es m < 0) : fgo es len f m out = none := by
  cases f with
  | zero => omega
  | succ f => rw [fgo, if_pos hm, if_pos hr]
theorem fgo_len (es : List G3) (len : Int) : ∀ (f : Nat) (m : Int) (out r : List Int), fgo es len f m out = some r → r.length ≤ out.length + f
  | 0, _, out, r, h => by simp [fgo] at h; subst h; omega
  | f + 1, m, out, r, h => by
    unfold fgo at h
    split at h
    · split at h
      · cases h
      · have := fgo_len es len f _ _ r h
        simp at this; omega
    · injection h with h; subst h; omega
theorem fRes_len (es : List G3) (len : Int) : (fRes es len).length ≤ 300001 := by
  unfold fRes
  split
  · rename_i h
    cases hf : fewest es len with
    | none => simp
    | some r =>
      have hl : lenCode es len = 0 := by
        unfold fCode at h; split at h
        · omega
        · rename_i h2; simpa using h2
      have hR : inR len 1 300000 = true := by
        unfold lenCode at hl
        split at hl
        · omega
        · split at hl
          · omega
          · rename_i h3; simpa using h3
      have := fgo_len es len _ _ _ _ hf
      have := (inR_iff.1 hR)
      simp at *; omega
  · simp
def kNames : List ByteArray := [⟨#[104, 111, 108, 101]⟩, ⟨#[99, 114, 97, 99, 107]⟩, ⟨#[115, 101, 101, 112]⟩, ⟨#[116, 114, 101, 101]⟩, ⟨#[115, 108, 105, 112]⟩]
def kName (k : Int) : ByteArray := kNames.getD (k - 1).toNat ⟨#[]⟩
theorem sm_kind (k : Int) : Sm 5 (kName k) := by
  unfold kName
  generalize (k - 1).toNat = j
  match j with
  | 0 => exact sm_lit (kNames.getD 0 ⟨#[]⟩) (by decide)
  | 1 => exact sm_lit (kNames.getD 1 ⟨#[]⟩) (by decide)
  | 2 => exact sm_lit (kNames.getD 2 ⟨#[]⟩) (by decide)
  | 3 => exact sm_lit (kNames.getD 3 ⟨#[]⟩) (by decide)
  | 4 => exact sm_lit (kNames.getD 4 ⟨#[]⟩) (by decide)
  | j + 5 => exact sm_lit ⟨#[]⟩ (by decide)
def defTxt1 (q : Q4) : ByteArray := (bs (Lib.itoa q.a)) ++ (⟨#[109, 32]⟩ : ByteArray) ++ (kName q.b) ++ (⟨#[32, 102, 111, 117, 110, 100, 32]⟩ : ByteArray) ++ (bs (Lib.itoa q.c))
def defTxt (q : Q4) : ByteArray := if q.d = 0 then defTxt1 q else defTxt1 q ++ ((⟨#[32, 109, 101, 110, 100, 101, 100, 32]⟩ : ByteArray) ++ bs (Lib.itoa q.d))
def defOut (q : Q4) : ByteArray := if defectOk q = true then defTxt q else ⟨#[]⟩
theorem sm_def1 (q : Q4) (a1 : 0 ≤ q.a ∧ q.a ≤ 300000) (c1 : 1 ≤ q.c ∧ q.c ≤ 100000) : Sm 100 (defTxt1 q) := by
  have h := sm_app (sm_app (sm_app (sm_app (sm_dec (n := q.a) (by omega) (by omega)) (sm_lit (⟨#[109, 32]⟩ : ByteArray) (by decide) : Sm 2 _)) (sm_kind q.b)) (sm_lit (⟨#[32, 102, 111, 117, 110, 100, 32]⟩ : ByteArray) (by decide) : Sm 7 _)) (sm_dec (n := q.c) (by omega) (by omega))
  unfold defTxt1 Sm at *; exact Nat.le_trans h (by decide)
theorem spec_l18Names (w : World) : Calls Tryd.prog 13 #[] w fun e w' => ∃ g, e = .returned (.slice (some ⟨g, 0, none⟩) 5 5) ∧ (∀ (k : Nat) x, kNames[k]? = some x → w'.cell? ⟨g, k, none⟩ = some (.string x)) ∧ g < w'.heap.size ∧ Below w.heap.size w w' := by
  go_enter Tryd.func13, Tryd.ntmps13
  go_wp2
  go_ret
  refine ⟨w.heap.size, rfl, fun k x hx => ?_, by simp, below_al (Below.refl _ _) _⟩
  rw [cell_of_row _ _ k _ _ _ (heap_alloc_new w _)]
  match k, hx with
  | 0, hx => simp [kNames] at hx; subst hx; rfl
  | 1, hx => simp [kNames] at hx; subst hx; rfl
  | 2, hx => simp [kNames] at hx; subst hx; rfl
  | 3, hx => simp [kNames] at hx; subst hx; rfl
  | 4, hx => simp [kNames] at hx; subst hx; rfl
  | k + 5, hx => simp [kNames] at hx

def guardTxt (g : G3) : ByteArray := g.s ++ (⟨#[32]⟩ : ByteArray) ++ (bs (Lib.itoa g.a)) ++ (⟨#[46, 46]⟩ : ByteArray) ++ (bs (Lib.itoa g.b))
def guardOut (g : G3) : ByteArray := if guardOk g = true then guardTxt g else ⟨#[]⟩


end Go.Proofs.YtogjkcakoahpiaaDoor

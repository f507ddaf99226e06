/- Walks over functions of this seat, by contract. Conditions: those that each theorem states. -/
import Derived.Test.YtolnbbfbeieicaaBase
import Derived.Test.YtolnbbfbeieicaaStp
namespace Go.Proofs.Ytolnbbfbeieicaa
open Go.RowKit Go.Sort

def gmax (xs : List Int) : Int := xs.foldl max (xs.headD 0)
theorem foldl_max_ge (xs : List Int) (a : Int) : a ≤ xs.foldl max a ∧ ∀ x ∈ xs, x ≤ xs.foldl max a := by
  induction xs generalizing a with
  | nil => simp
  | cons y ys ih =>
    obtain ⟨h1, h2⟩ := ih (max a y)
    simp only [List.foldl_cons, List.mem_cons]
    refine ⟨by omega, ?_⟩
    rintro x (rfl | hx)
    · omega
    · exact h2 x hx
theorem foldl_max_mem (xs : List Int) (a : Int) : xs.foldl max a = a ∨ xs.foldl max a ∈ xs := by
  induction xs generalizing a with
  | nil => simp
  | cons y ys ih =>
    simp only [List.foldl_cons, List.mem_cons]
    rcases ih (max a y) with h | h
    · rw [h]; rcases Int.le_total a y with h1 | h1
      · right; left; omega
      · left; omega
    · right; right; exact h
theorem gmax_ge {xs : List Int} {k : Nat} {x : Int} (h : xs[k]? = some x) : x ≤ gmax xs := (foldl_max_ge xs _).2 x (List.mem_of_getElem? h)
theorem gmax_mem {xs : List Int} (h : 0 < xs.length) : gmax xs ∈ xs := by
  cases xs with
  | nil => simp at h
  | cons y ys =>
    rcases foldl_max_mem (y :: ys) y with h | h
    · have : gmax (y :: ys) = y := h
      rw [this]; exact List.mem_cons.2 (.inl rfl)
    · exact h
theorem idxs_first {p : Nat → Bool} {n q : Nat} (hq : q < n) (h : p q = true) (hlt : ∀ j, j < q → p j = false) : (idxs p n)[0]? = some (q : Int) := by
  have h0 : ∀ k, k ≤ q → idxs p k = [] := by
    intro k
    induction k with
    | zero => intro _; rfl
    | succ k ih => intro hk; rw [idxs_no (hlt k (by omega)), ih (by omega)]
  have h1 : ∀ d, (idxs p (q + 1 + d))[0]? = some (q : Int) := by
    intro d
    induction d with
    | zero => rw [Nat.add_zero, idxs_yes h, h0 q (Nat.le_refl _)]; rfl
    | succ d ih =>
      rw [← Nat.add_assoc]
      cases hp : p (q + 1 + d) with
      | false => rw [idxs_no hp]; exact ih
      | true =>
        rw [idxs_yes hp]
        have : 0 < (idxs p (q + 1 + d)).length := (List.getElem?_eq_some_iff.1 ih).1
        rw [List.getElem?_append_left this]; exact ih
  have := h1 (n - (q + 1))
  rwa [show q + 1 + (n - (q + 1)) = n by omega] at this
/-- p is the first place of a greatest one below k -/
def firstMax (xs : List Int) (k p : Nat) : Prop := p < k ∧ ∃ m, xs[p]? = some m ∧ (∀ j x, j < k → xs[j]? = some x → x ≤ m) ∧ ∀ j x, j < p → xs[j]? = some x → x < m
theorem firstMax_idxs {xs : List Int} {n p : Nat} (h : firstMax xs n p) (hn : xs.length = n) : (idxs (fun i => xs[i]? == some (gmax xs)) n)[0]? = some (p : Int) := by
  obtain ⟨hp, m, hm, h1, h2⟩ := h
  have hg : gmax xs = m := by
    obtain ⟨k, hk, hx⟩ := List.mem_iff_getElem.1 (gmax_mem (xs := xs) (by omega))
    have := h1 k _ (by omega) (by rw [List.getElem?_eq_getElem hk, hx])
    have := gmax_ge hm
    omega
  refine idxs_first hp (by simp [hm, hg]) fun j hj => ?_
  have hjl : j < xs.length := by have := (List.getElem?_eq_some_iff.1 hm).1; omega
  have := h2 j _ hj (List.getElem?_eq_getElem hjl)
  simp [List.getElem?_eq_getElem hjl, hg]; omega
theorem max_def_ (a b : Int) : max a b = if a < b then b else a := by
  split <;> omega
set_option maxHeartbeats 400000 in
theorem impl_greatest (A : Option Addr) (n c : Nat) (xs : List Int) (w : World) (hmax : n ≤ 1048576) (hpos : 0 < n) (h : Sl w w.heap.size 1 icell A n xs) :
    Calls Try.prog 30 #[.slice A n c] w fun e w' => e = .returned (.int .i64 (gmax xs)) ∧ Below w.heap.size w w' := by
  have Hn := Lib.hid h.len
  obtain ⟨b, off, rfl, hb, H⟩ := h.at_ hpos
  obtain ⟨x0, hx0⟩ := h.get hpos
  have c0 := H.i1 hx0
  simp only [Nat.add_zero] at c0
  have hhd : xs.headD 0 = x0 := by cases xs with | nil => simp at hx0 | cons y ys => simpa using hx0
  have Hhd := Lib.hid hhd
  clear hhd hx0
  go_enter Try.func30, Try.ntmps30
  go_wp2
  go_loopw [3, 11] (fun m i wr => ∃ (k : Nat) (s : Int), k ≤ n ∧ i = .int .i64 k ∧ m = .int .i64 s ∧ Hid (s = (xs.take k).foldl max x0) ∧ Below w.heap.size w wr) (fun _ i _ => n - (intOf i).toNat)
  case atStart => exact ⟨0, x0, by omega, rfl, rfl, Lib.hid rfl, Below.refl _ _⟩
  case round =>
    obtain ⟨k, s, hk, rfl, rfl, Hs, hbel⟩ := hrel
    by_cases hlt : k < n
    · obtain ⟨e, he⟩ := h.get hlt
      have c1 := (H.below hbel hb).i1 he
      have He := Lib.hid he
      clear he
      go_wp2
      go_roundw
      case rel =>
        refine ⟨k + 1, _, by omega, by go_num, rfl, Lib.hid ?_, hbel⟩
        obtain ⟨hk', hx'⟩ := List.getElem?_eq_some_iff.1 He.out
        rw [List.take_succ_eq_append_getElem hk', List.foldl_append, ← Hs.out, hx']
        simp only [List.foldl_cons, List.foldl_nil]
        first | rfl | (rw [max_def_]) | (rw [max_def_]; split <;> omega)
      case measure => simp [intOf]; omega
    · go_wp2
      go_ret
      have hkn : k = n := by omega
      subst hkn
      have hl : List.take k xs = xs := List.take_of_length_le (by rw [Hn.out]; omega)
      exact ⟨ret_int (by rw [gmax, Hhd.out, Hs.out, hl]), hbel⟩
def lvl (n : Int) : Bool := inR n (-2000) 2000
def iLt (a b : Int) : Bool := decide (a < b)
def alarmsOk (es : List Int) : Bool := inR es.length 1 5 && okList lvl iLt es
/-- is the k-th alarm at or below the level -/
def stP (es : List Int) (x : Int) (k : Nat) : Bool := match es[k]? with | some e => decide (e ≤ x) | none => false
theorem stP_at {es : List Int} {x e : Int} {k : Nat} (h : es[k]? = some e) : stP es x k = decide (e ≤ x) := by rw [stP, h]
def stN (es : List Int) (x : Int) (k : Nat) : Nat := (idxs (stP es x) k).length
def stg (es : List Int) (x : Int) : Nat := stN es x es.length
theorem stN_le (es : List Int) (x : Int) (k : Nat) : stN es x k ≤ k := idxs_len _ _
theorem stN_zero (es : List Int) (x : Int) : stN es x 0 = 0 := rfl
theorem stN_yes {es : List Int} {x : Int} {k : Nat} (h : stP es x k = true) : stN es x (k + 1) = stN es x k + 1 := by simp [stN, idxs_yes h]
theorem stN_no {es : List Int} {x : Int} {k : Nat} (h : stP es x k = false) : stN es x (k + 1) = stN es x k := by simp [stN, idxs_no h]
def alCode (es ls : List Int) (hold : Int) : Int := if alarmsOk es = false then 1 else if ls.all lvl = false ∨ 200 < ls.length then 2 else if inR hold 0 100 = false then 2 else 0
/-- the stage of the k-th level -/
def sAt (es ls : List Int) (k : Nat) : Int := match ls[k]? with | some x => (stg es x : Int) | none => 0
theorem sAt_get {es ls : List Int} {k : Nat} {x : Int} (h : ls[k]? = some x) : sAt es ls k = (stg es x : Int) := by rw [sAt, h]
theorem sAt_bd (es ls : List Int) (k : Nat) : 0 ≤ sAt es ls k ∧ sAt es ls k ≤ es.length := by
  unfold sAt; split
  · have := stN_le es (by assumption) es.length; unfold stg; omega
  · omega
/-- the greatest of b and S lo .. S (lo + d - 1) -/
def mxS (S : Nat → Int) (lo : Nat) (b : Int) : Nat → Int
  | 0 => b
  | d + 1 => if mxS S lo b d > S (lo + d) then mxS S lo b d else S (lo + d)
theorem mxS_succ (S : Nat → Int) (lo : Nat) (b : Int) (d : Nat) : mxS S lo b (d + 1) = if mxS S lo b d > S (lo + d) then mxS S lo b d else S (lo + d) := rfl
theorem mxS_ge (S : Nat → Int) (lo : Nat) (b : Int) : ∀ d, b ≤ mxS S lo b d ∧ ∀ j, j < d → S (lo + j) ≤ mxS S lo b d := by
  intro d
  induction d with
  | zero => exact ⟨Int.le_refl _, fun j hj => by omega⟩
  | succ d ih =>
    rw [mxS_succ]
    refine ⟨by split <;> omega, fun j hj => ?_⟩
    rcases Nat.lt_or_ge j d with h | h
    · have := ih.2 j h; split <;> omega
    · have : j = d := by omega
      subst this; split <;> omega
theorem mxS_mem (S : Nat → Int) (lo : Nat) (b : Int) : ∀ d, mxS S lo b d = b ∨ ∃ j, j < d ∧ mxS S lo b d = S (lo + j) := by
  intro d
  induction d with
  | zero => exact .inl rfl
  | succ d ih =>
    rw [mxS_succ]
    split
    · rcases ih with h | ⟨j, hj, h⟩
      · exact .inl h
      · exact .inr ⟨j, by omega, h⟩
    · exact .inr ⟨d, by omega, rfl⟩
theorem mxS_bd {S : Nat → Int} {lo : Nat} {b B : Int} (hS : ∀ k, 0 ≤ S k ∧ S k ≤ B) (h0 : 0 ≤ b) (h1 : b ≤ B) (d : Nat) : 0 ≤ mxS S lo b d ∧ mxS S lo b d ≤ B := by
  have := (mxS_ge S lo b d).1
  rcases mxS_mem S lo b d with h | ⟨j, _, h⟩
  · omega
  · have := hS (lo + j); omega
/-- one hour on -/
def nxt (S : Nat → Int) (hold k : Nat) (now : Int) : Int := if now ≤ S k then S k else if hold ≤ k then (if now < mxS S (k - hold) (S k) hold then now else mxS S (k - hold) (S k) hold) else now
def nowA (S : Nat → Int) (hold : Nat) : Nat → Int
  | 0 => 0
  | k + 1 => nxt S hold k (nowA S hold k)
theorem nowA_succ (S : Nat → Int) (hold k : Nat) : nowA S hold (k + 1) = nxt S hold k (nowA S hold k) := rfl
theorem nxt_bd {S : Nat → Int} {hold k : Nat} {now B : Int} (hS : ∀ k, 0 ≤ S k ∧ S k ≤ B) (h0 : 0 ≤ now) (h1 : now ≤ B) : 0 ≤ nxt S hold k now ∧ nxt S hold k now ≤ B := by
  have := hS k
  have := mxS_bd (lo := k - hold) hS (hS k).1 (hS k).2 hold
  unfold nxt; split
  · omega
  · split
    · split <;> omega
    · omega
theorem nowA_bd {S : Nat → Int} {hold : Nat} {B : Int} (hB : 0 ≤ B) (hS : ∀ k, 0 ≤ S k ∧ S k ≤ B) (k : Nat) : 0 ≤ nowA S hold k ∧ nowA S hold k ≤ B := by
  induction k with
  | zero => exact ⟨Int.le_refl _, hB⟩
  | succ k ih => rw [nowA_succ]; exact nxt_bd hS ih.1 ih.2
def stagesTo (S : Nat → Int) (hold k : Nat) : List Int := (List.range k).map fun j => nowA S hold (j + 1)
theorem stagesTo_len (S : Nat → Int) (hold k : Nat) : (stagesTo S hold k).length = k := by simp [stagesTo]
theorem stagesTo_succ (S : Nat → Int) (hold k : Nat) : stagesTo S hold (k + 1) = stagesTo S hold k ++ [nowA S hold (k + 1)] := by simp [stagesTo, List.range_succ]
theorem stagesTo_get {S : Nat → Int} {hold k j : Nat} (h : j < k) : (stagesTo S hold k)[j]? = some (nowA S hold (j + 1)) := by simp [stagesTo, h]
def sTo (S : Nat → Int) (k : Nat) : List Int := (List.range k).map S
theorem sTo_len (S : Nat → Int) (k : Nat) : (sTo S k).length = k := by simp [sTo]
theorem sTo_succ (S : Nat → Int) (k : Nat) : sTo S (k + 1) = sTo S k ++ [S k] := by simp [sTo, List.range_succ]
theorem sTo_get {S : Nat → Int} {k j : Nat} (h : j < k) : (sTo S k)[j]? = some (S j) := by simp [sTo, h]
theorem gmax_sTo (S : Nat → Int) (hold k : Nat) (h : hold ≤ k) : gmax ((sTo S (k + 1)).drop (k - hold)) = mxS S (k - hold) (S k) hold := by
  have hg : ∀ j, k - hold ≤ j → j ≤ k → ((sTo S (k + 1)).drop (k - hold))[j - (k - hold)]? = some (S j) := fun j h1 h2 => by
    rw [List.getElem?_drop, show k - hold + (j - (k - hold)) = j from by omega]; exact sTo_get (by omega)
  have h1 := gmax_ge (hg k (by omega) (by omega))
  have hl : ((sTo S (k + 1)).drop (k - hold)).length = hold + 1 := by rw [List.length_drop, sTo_len]; omega
  obtain ⟨i, hi, hx⟩ := List.mem_iff_getElem.1 (gmax_mem (xs := (sTo S (k + 1)).drop (k - hold)) (by omega))
  have hi' := hg (k - hold + i) (by omega) (by omega)
  rw [show k - hold + i - (k - hold) = i from by omega, List.getElem?_eq_getElem hi, hx] at hi'
  injection hi' with hi'
  obtain ⟨g1, g2⟩ := mxS_ge S (k - hold) (S k) hold
  apply Int.le_antisymm
  · rw [hi']
    rcases Nat.lt_or_ge i hold with h | h
    · exact g2 i h
    · have : k - hold + i = k := by omega
      rw [this]; exact g1
  · rcases mxS_mem S (k - hold) (S k) hold with h | ⟨j, hj, h⟩
    · rw [h]; exact h1
    · rw [h]; exact gmax_ge (hg (k - hold + j) (by omega) (by omega))
theorem nxt_impl {S : Nat → Int} {hold k : Nat} {now m : Int} (hm : m = max now (S k)) (hk : hold ≤ k) : nxt S hold k now = min m (gmax ((sTo S (k + 1)).drop (k - hold))) := by
  have h1 := (mxS_ge S (k - hold) (S k) hold).1
  rw [gmax_sTo S hold k hk, nxt, hm]
  split
  · omega
  · first | (rw [if_pos hk]; split <;> omega) | (split <;> omega)
theorem nxt_impl0 {S : Nat → Int} {hold k : Nat} {now m : Int} (hm : m = max now (S k)) (hk : k < hold) : nxt S hold k now = m := by
  rw [nxt, hm]
  split
  · omega
  · first | (rw [if_neg (by omega)]; omega) | omega
def alRes (es ls : List Int) (hold : Int) : List Int := if alCode es ls hold = 0 then stagesTo (sAt es ls) hold.toNat ls.length else []
theorem alRes_len (es ls : List Int) (hold : Int) : (alRes es ls hold).length ≤ ls.length := by
  unfold alRes; split <;> simp [stagesTo_len]
def escP (xs : List Int) (k : Nat) : Bool := match xs[k]? with | some x => decide ((if k = 0 then 0 else (xs[k-1]?).getD 0) < x) | none => false
def escRes (es ls : List Int) (hold : Int) : List Int := idxs (escP (alRes es ls hold)) (alRes es ls hold).length
theorem in_r (n lo hi : Int) (r : Bool) (hr : inR n lo hi = r) (w : World) : Calls Try.prog 16 #[.int .i64 n, .int .i64 lo, .int .i64 hi] w fun e w' => e = .returned (.bool r) ∧ w = w' := by
  subst hr; exact impl_in n lo hi w
theorem l00In_r (n lo hi : Int) (r : Bool) (hr : inR n lo hi = r) (w : World) : Calls Try.prog 23 #[.int .i64 n, .int .i64 lo, .int .i64 hi] w fun e w' => e = .returned (.bool r) ∧ w = w' := by
  subst hr; exact spec_l00In n lo hi w
set_option maxHeartbeats 400000 in
theorem spec_l00Rises (A : Option Addr) (n c : Nat) (es : List Int) (w : World) (hmax : n ≤ 1048576) (h : Sl w w.heap.size 1 icell A n es) :
    Calls Try.prog 31 #[.slice A n c, .int .i64 (-2000), .int .i64 2000] w fun e w' => e = .returned (.bool (okList lvl iLt es)) ∧ Below w.heap.size w w' := by
  have Hn := Lib.hid h.len
  go_enter Try.func31, Try.ntmps31
  go_wp2
  go_loopw [7] (fun i wr => ∃ k : Nat, k ≤ n ∧ i = .int .i64 k ∧ Hid (okTo lvl iLt es k) ∧ Below w.heap.size w wr) (fun i _ => n - (intOf i).toNat)
  case atStart => exact ⟨0, by omega, rfl, Lib.hid okTo_zero, Below.refl _ _⟩
  case round =>
    obtain ⟨k, hk, rfl, Hgood, hbel⟩ := hrel
    by_cases hlt : k < n
    · obtain ⟨b, off, rfl, hb, H⟩ := h.at_ (by omega)
      obtain ⟨e, he⟩ := h.get hlt
      have c0 := (H.below hbel hb).i1c (Nat.lt_of_lt_of_le hb hbel.size) he
      have c1 := (H.below hbel hb).i1 he
      have He := Lib.hid he
      clear he
      rcases Bool.eq_false_or_eq_true (inR e (-2000) 2000) with hl | hl
      · have Hl := Lib.hid hl
        clear hl
        rcases Nat.eq_zero_or_pos k with hk0 | hk0
        · subst hk0
          simp only [Nat.add_zero] at c0 c1
          go_wp2_with fail
          refine wp_region_quiet_below (by kernel_rfl) (by kernel_rfl) ?_
          repeat (go_big_quiet_step (exact Calls.regrown_of (calls_below (l00In_r _ _ _ true Hl.out _))))
          refine wpQuiet_nil ?_
          intro wq hwq
          have hbq := below_then hbel (below_of_class hwq)
          clear hwq c0 c1
          go_wp2_with fail
          go_roundw
          case rel => exact ⟨1, by omega, by go_num, Lib.hid (okTo_succ Hgood.out He.out Hl.out (fun e' h0 _ => absurd h0 (by omega))), hbq⟩
          case measure => simp [intOf]; omega
        · obtain ⟨e', he'⟩ := h.get (k := k - 1) (by omega)
          have d0 := (H.below hbel hb).i1c (Nat.lt_of_lt_of_le hb hbel.size) he'
          have He' := Lib.hid he'
          clear he'
          have hkk : (0 : Int) < (k : Int) := by omega
          rcases Int.lt_or_le e' e with hle | hle
          · go_wp2_with fail
            refine wp_region_quiet_below (by kernel_rfl) (by kernel_rfl) ?_
            repeat (go_big_quiet_step (exact Calls.regrown_of (calls_below (l00In_r _ _ _ true Hl.out _))))
            refine wpQuiet_nil ?_
            intro wq hwq
            have hbq := below_then hbel (below_of_class hwq)
            clear hwq c0 d0 c1
            go_wp2_with fail
            go_roundw
            case rel => exact ⟨k + 1, by omega, by go_num, Lib.hid (okTo_succ Hgood.out He.out Hl.out (fun x _ hx => by rw [He'.out] at hx; injection hx with hx; subst hx; simp [iLt]; omega)), hbq⟩
            case measure => simp [intOf]; omega
          · go_wp2_with fail
            refine wp_region_quiet_below (by kernel_rfl) (by kernel_rfl) ?_
            repeat (go_big_quiet_step (exact Calls.regrown_of (calls_below (l00In_r _ _ _ true Hl.out _))))
            refine wpQuiet_nil ?_
            intro wq hwq
            have hbq := below_then hbel (below_of_class hwq)
            clear hwq c0 d0 c1
            go_wp2_with fail
            go_ret
            exact ⟨ret_bool (by symm; exact okList_no2 (k := k - 1) He'.out (by rw [Nat.sub_add_cancel hk0]; exact He.out) (by simp [iLt]; omega)), hbq⟩
      · have Hl := Lib.hid hl
        clear hl
        go_wp2_with fail
        refine wp_region_quiet_below (by kernel_rfl) (by kernel_rfl) ?_
        repeat (go_big_quiet_step (exact Calls.regrown_of (calls_below (l00In_r _ _ _ false Hl.out _))))
        refine wpQuiet_nil ?_
        intro wq hwq
        have hbq := below_then hbel (below_of_class hwq)
        clear hwq c0 c1
        go_wp2_with fail
        go_ret
        exact ⟨ret_bool (by symm; exact okList_no1 He.out Hl.out), hbq⟩
    · go_wp2
      go_ret
      have hkn : k = n := by omega
      subst hkn
      exact ⟨ret_bool (by rw [okTo_all Hgood.out Hn.out]), hbel⟩
set_option maxHeartbeats 400000 in
theorem impl_rises (A : Option Addr) (n c : Nat) (es : List Int) (w : World) (hmax : n ≤ 1048576) (h : Sl w w.heap.size 1 icell A n es) :
    Calls Try.prog 33 #[.slice A n c, .int .i64 (-2000), .int .i64 2000] w fun e w' => e = .returned (.bool (okList lvl iLt es)) ∧ Below w.heap.size w w' := by
  have Hn := Lib.hid h.len
  go_enter Try.func33, Try.ntmps33
  go_wp2
  go_loopw [11] (fun i wr => ∃ k : Nat, k ≤ n ∧ i = .int .i64 k ∧ Hid (okTo lvl iLt es k) ∧ Below w.heap.size w wr) (fun i _ => n - (intOf i).toNat)
  case atStart => exact ⟨0, by omega, rfl, Lib.hid okTo_zero, Below.refl _ _⟩
  case round =>
    obtain ⟨k, hk, rfl, Hgood, hbel⟩ := hrel
    by_cases hlt : k < n
    · obtain ⟨b, off, rfl, hb, H⟩ := h.at_ (by omega)
      obtain ⟨e, he⟩ := h.get hlt
      have c0 := (H.below hbel hb).i1c (Nat.lt_of_lt_of_le hb hbel.size) he
      have c1 := (H.below hbel hb).i1 he
      have He := Lib.hid he
      clear he
      rcases Bool.eq_false_or_eq_true (inR e (-2000) 2000) with hl | hl
      · have Hl := Lib.hid hl
        clear hl
        rcases Nat.eq_zero_or_pos k with hk0 | hk0
        · subst hk0
          simp only [Nat.add_zero] at c0 c1
          go_wp2_with (go_at_call 16; refine (in_r _ _ _ true Hl.out _).mono ?_; rintro e' w' ⟨rfl, rfl⟩)
          have hbq := hbel
          go_roundw
          case rel => exact ⟨1, by omega, by go_num, Lib.hid (okTo_succ Hgood.out He.out Hl.out (fun e' h0 _ => absurd h0 (by omega))), hbq⟩
          case measure => simp [intOf]; omega
        · obtain ⟨e', he'⟩ := h.get (k := k - 1) (by omega)
          have d0 := (H.below hbel hb).i1 he'
          have He' := Lib.hid he'
          clear he'
          have hkk : (0 : Int) < (k : Int) := by omega
          rcases Int.lt_or_le e' e with hle | hle
          · go_wp2_with (go_at_call 16; refine (in_r _ _ _ true Hl.out _).mono ?_; rintro e' w' ⟨rfl, rfl⟩)
            have hbq := hbel
            go_roundw
            case rel => exact ⟨k + 1, by omega, by go_num, Lib.hid (okTo_succ Hgood.out He.out Hl.out (fun x _ hx => by rw [He'.out] at hx; injection hx with hx; subst hx; simp [iLt]; omega)), hbq⟩
            case measure => simp [intOf]; omega
          · go_wp2_with (go_at_call 16; refine (in_r _ _ _ true Hl.out _).mono ?_; rintro e' w' ⟨rfl, rfl⟩)
            have hbq := hbel
            go_ret
            exact ⟨ret_bool (by symm; exact okList_no2 (k := k - 1) He'.out (by rw [Nat.sub_add_cancel hk0]; exact He.out) (by simp [iLt]; omega)), hbq⟩
      · have Hl := Lib.hid hl
        clear hl
        go_wp2_with (go_at_call 16; refine (in_r _ _ _ false Hl.out _).mono ?_; rintro e' w' ⟨rfl, rfl⟩)
        have hbq := hbel
        go_ret
        exact ⟨ret_bool (by symm; exact okList_no1 He.out Hl.out), hbq⟩
    · go_wp2
      go_ret
      have hkn : k = n := by omega
      subst hkn
      exact ⟨ret_bool (by rw [okTo_all Hgood.out Hn.out]), hbel⟩

end Go.Proofs.Ytolnbbfbeieicaa

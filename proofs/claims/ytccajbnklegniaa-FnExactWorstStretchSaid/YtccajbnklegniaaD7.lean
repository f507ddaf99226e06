/- Walks over functions of this seat, by contract. Conditions: those that each theorem states. -/
import Derived.Test.YtccajbnklegniaaD5
import Derived.Test.YtccajbnklegniaaStp
namespace Go.Proofs.Ytccajbnklegniaa
open Go.RowKit Go.Sort

def hasB (xs : List Int) (x : Int) : Bool := xs.any (fun y => y == x)
theorem hasB_yes {xs : List Int} {x : Int} {k : Nat} {y : Int} (h : xs[k]? = some y) (e : (y == x) = true) : hasB xs x = true := by
  rw [hasB, List.any_eq_true]; exact ⟨y, List.mem_of_getElem? h, e⟩
theorem hasB_no {xs : List Int} {x : Int} (h : ∀ (k : Nat) y, xs[k]? = some y → (y == x) = false) : hasB xs x = false := by
  rw [hasB, List.any_eq_false]
  intro y hy
  obtain ⟨k, hk, rfl⟩ := List.mem_iff_getElem.1 hy
  have := h k _ (List.getElem?_eq_getElem hk)
  simp [this]
theorem hasB_iff {xs : List Int} {x : Int} : hasB xs x = true ↔ x ∈ xs := by
  rw [hasB, List.any_eq_true]
  constructor
  · rintro ⟨y, hy, e⟩
    have : y = x := by simpa using e
    exact this ▸ hy
  · intro h; exact ⟨x, h, by simp⟩
set_option maxHeartbeats 400000 in
theorem impl_has (A : Option Addr) (n c : Nat) (xs : List Int) (x : Int) (w : World) (hmax : n ≤ 1048576) (h : Sl w w.heap.size 1 icell A n xs) :
    Calls Try.prog 60 #[.slice A n c, .int .i64 x] w fun e w' => e = .returned (.bool (hasB xs x)) ∧ Below w.heap.size w w' := by
  have Hn := Lib.hid h.len
  go_enter Try.func60, Try.ntmps60
  go_wp2
  go_loopw [9] (fun i wr => ∃ k : Nat, k ≤ n ∧ i = .int .i64 k ∧ Hid (∀ (j : Nat) y, j < k → xs[j]? = some y → (y == x) = false) ∧ Below w.heap.size w wr) (fun i _ => n - (intOf i).toNat)
  case atStart => exact ⟨0, by omega, rfl, Lib.hid (fun j y hj => by omega), Below.refl _ _⟩
  case round =>
    obtain ⟨k, hk, rfl, Hgood, hbel⟩ := hrel
    by_cases hlt : k < n
    · obtain ⟨b, off, rfl, hb, H⟩ := h.at_ (by omega)
      obtain ⟨e, he⟩ := h.get hlt
      have c0 := (H.below hbel hb).i1 he
      have He := Lib.hid he
      clear he
      go_wp2
      · have hq : (e == x) = true := by assumption
        go_ret
        exact ⟨ret_bool (hasB_yes He.out hq).symm, hbel⟩
      · have hq : (e == x) = false := by assumption
        go_roundw
        case rel => exact ⟨k + 1, by omega, by go_num, Lib.hid (fun j y hj hy => by
            rcases Nat.lt_or_ge j k with h1 | h1
            · exact Hgood.out j y h1 hy
            · have : j = k := by omega
              subst this; rw [He.out] at hy; injection hy with hy; subst hy; exact hq), hbel⟩
        case measure => simp [intOf]; omega
    · go_wp2
      go_ret
      exact ⟨ret_bool (hasB_no fun j y hy => Hgood.out j y (by have := (List.getElem?_eq_some_iff.1 hy).1; have := Hn.out; omega) hy).symm, hbel⟩
theorem impl_has_r (A : Option Addr) (n c : Nat) (xs : List Int) (x : Int) (r : Bool) (hr : hasB xs x = r) (w : World) (hmax : n ≤ 1048576) (h : Sl w w.heap.size 1 icell A n xs) :
    Calls Try.prog 60 #[.slice A n c, .int .i64 x] w fun e w' => e = .returned (.bool r) ∧ Below w.heap.size w w' := by
  subst hr; exact impl_has A n c xs x w hmax h
set_option maxHeartbeats 400000 in
theorem spec_l00Has (A : Option Addr) (n c : Nat) (xs : List Int) (x : Int) (w : World) (hmax : n ≤ 1048576) (h : Sl w w.heap.size 1 icell A n xs) :
    Calls Try.prog 58 #[.slice A n c, .int .i64 x] w fun e w' => e = .returned (.bool (hasB xs x)) ∧ Below w.heap.size w w' := by
  have Hn := Lib.hid h.len
  go_enter Try.func58, Try.ntmps58
  go_wp2
  go_loopw [5] (fun i wr => ∃ k : Nat, k ≤ n ∧ i = .int .i64 k ∧ Hid (∀ (j : Nat) y, j < k → xs[j]? = some y → (y == x) = false) ∧ Below w.heap.size w wr) (fun i _ => n - (intOf i).toNat)
  case atStart => exact ⟨0, by omega, rfl, Lib.hid (fun j y hj => by omega), Below.refl _ _⟩
  case round =>
    obtain ⟨k, hk, rfl, Hgood, hbel⟩ := hrel
    by_cases hlt : k < n
    · obtain ⟨b, off, rfl, hb, H⟩ := h.at_ (by omega)
      obtain ⟨e, he⟩ := h.get hlt
      have c0 := (H.below hbel hb).i1 he
      have He := Lib.hid he
      clear he
      go_wp2
      · have hq : (e == x) = true := by assumption
        go_ret
        exact ⟨ret_bool (hasB_yes He.out hq).symm, hbel⟩
      · have hq : (e == x) = false := by assumption
        go_roundw
        case rel => exact ⟨k + 1, by omega, by go_num, Lib.hid (fun j y hj hy => by
            rcases Nat.lt_or_ge j k with h1 | h1
            · exact Hgood.out j y h1 hy
            · have : j = k := by omega
              subst this; rw [He.out] at hy; injection hy with hy; subst hy; exact hq), hbel⟩
        case measure => simp [intOf]; omega
    · go_wp2
      go_ret
      exact ⟨ret_bool (hasB_no fun j y hy => Hgood.out j y (by have := (List.getElem?_eq_some_iff.1 hy).1; have := Hn.out; omega) hy).symm, hbel⟩
theorem spec_l00Has_r (A : Option Addr) (n c : Nat) (xs : List Int) (x : Int) (r : Bool) (hr : hasB xs x = r) (w : World) (hmax : n ≤ 1048576) (h : Sl w w.heap.size 1 icell A n xs) :
    Calls Try.prog 58 #[.slice A n c, .int .i64 x] w fun e w' => e = .returned (.bool r) ∧ Below w.heap.size w w' := by
  subst hr; exact spec_l00Has A n c xs x w hmax h
def absI (x : Int) : Int := if x < 0 then -x else x
theorem impl_abs (x : Int) (h1 : -1000000000000 ≤ x) (h2 : x ≤ 1000000000000) (w : World) : Calls Try.prog 74 #[.int .i64 x] w fun e w' => e = .returned (.int .i64 (absI x)) ∧ w = w' := by
  go_enter Try.func74, Try.ntmps74
  go_wp2
  all_goals (go_ret; exact ⟨ret_int (by unfold absI; (repeat' split) <;> omega), rfl⟩)
theorem spec_l02Size (x : Int) (h1 : -1000000000000 ≤ x) (h2 : x ≤ 1000000000000) (w : World) : Calls Try.prog 73 #[.int .i64 x] w fun e w' => e = .returned (.int .i64 (absI x)) ∧ w = w' := by
  go_enter Try.func73, Try.ntmps73
  go_wp2
  all_goals (go_ret; exact ⟨ret_int (by unfold absI; (repeat' split) <;> omega), rfl⟩)
def kindKey (q : Q4) : Int := q.b - 1
def oneVal (_ : Q4) : Int := 1
def countCode (es : List Q4) : Int := if defectsOk es = true then 0 else 1
def countOut (es : List Q4) : List Int := if defectsOk es = true then sumsOf kindKey oneVal 5 es else []
theorem countOut_len (es : List Q4) : (countOut es).length ≤ 5 := by unfold countOut; split; rw [sumsOf_len]; omega; simp
theorem count_bd {es : List Q4} (h : defectsOk es = true) (o : Int) (k : Nat) : 0 ≤ sumBy (fun q => if kindKey q = o then oneVal q else 0) (es.take k) ∧ sumBy (fun q => if kindKey q = o then oneVal q else 0) (es.take k) ≤ 60 := by
  obtain ⟨h1, h2⟩ := defects_all h
  obtain ⟨a, b⟩ := sumBy_bound (f := fun q => if kindKey q = o then oneVal q else 0) (es := es) (B := 1) (fun e he => by unfold oneVal; split <;> omega) k
  have : (es.take k).length ≤ 60 := by rw [List.length_take]; omega
  omega
set_option maxHeartbeats 1000000 in
theorem impl_CountKinds (A : Option Addr) (n c : Nat) (es : List Q4) (w : World) (hmax : n ≤ 1048576) (h : Sl w w.heap.size 4 Q4.cells A n es) :
    Calls Try.prog 23 #[.slice A n c] w fun e w' => ∃ v, e = .returned (.tuple #[v, .int .i64 (countCode es)]) ∧ Own w' w.heap.size 2 1 icell v (countOut es) ∧ Below w.heap.size w w' := by
  rcases Bool.eq_false_or_eq_true (defectsOk es) with g1 | g1
  · have hr : countOut es = sumsOf kindKey oneVal 5 es := if_pos g1
    have hc : countCode es = 0 := if_pos g1
    rw [hr, hc]
    obtain ⟨i0, hi, hz0, hz1, hz2⟩ := info_parts info_i64
    have hmk := make_all Try.underlying33 hi hz0 5 (by rw [hz2]; omega) (by omega)
    rw [hz1] at hmk
    replace hmk : ∀ w, (Instr.makeSlice 33 (.int .i64 5) (.int .i64 5)).run Try.prog w = .ok (.slice (some ⟨w.heap.size, 0, none⟩) 5 5) (w.alloc (.cells (madeCells #[.int .i64 0] 5) 2)) := hmk
    clear hi hz0 hz1 hz2 hr hc
    have Hn := Lib.hid h.len
    have Hok := Lib.hid g1
    go_enter Try.func23, Try.ntmps23
    go_wp2_with (go_at_call 21; refine (impl_ValidDefects _ _ _ es _ hmax h).mono ?_; rintro e w1 ⟨rfl, hb1⟩; rw [g1])
    clear hmk g1
    have Hbase := Lib.hid hb1.size
    go_loopw [14] (fun i wr => ∃ k : Nat, k ≤ n ∧ i = .int .i64 k ∧ Hid (Own wr w1.heap.size 2 1 icell (.slice (some ⟨w1.heap.size, 0, none⟩) 5 5) (sumsOf kindKey oneVal 5 (es.take k))) ∧ Below w.heap.size w wr) (fun i _ => n - (intOf i).toNat)
    case atStart => exact ⟨0, by omega, rfl, Lib.hid (by rw [sumsOf_zero]; exact own_zeros w1 _ 5 (by omega)), below_al hb1 _⟩
    case round =>
      obtain ⟨k, hk, rfl, Hown, hbel⟩ := hrel
      by_cases hlt : k < n
      · obtain ⟨b, off, rfl, hb, H⟩ := h.at_ (by omega)
        obtain ⟨e, he⟩ := h.get hlt
        obtain ⟨c0, c1, c2, c3⟩ := (H.below hbel hb).q4 he
        obtain ⟨_, ⟨e1, e2⟩, _, _⟩ := defectOk_iff.1 ((defects_all Hok.out).2 e (List.mem_of_getElem? he))
        obtain ⟨o, ho⟩ : ∃ o : Nat, e.b = (o : Int) + 1 := ⟨(e.b - 1).toNat, by omega⟩
        rw [ho] at c1
        have hok : kindKey e = (o : Int) := by unfold kindKey; omega
        have ho5 : o < 5 := by omega
        have d0 := (own_has Hown.out icell_len).i1 (sumsOf_get (key := kindKey) (val := oneVal) (es := es.take k) ho5)
        obtain ⟨s1, s2⟩ := count_bd Hok.out (o : Int) k
        rw [Nat.zero_add] at d0
        obtain ⟨sm, hsm⟩ : ∃ sm, sumBy (fun q => if kindKey q = (o : Int) then oneVal q else 0) (es.take k) = sm := ⟨_, rfl⟩
        rw [hsm] at d0 s1 s2
        have hgl : w1.heap.size < wr.heap.size := (World.ownsRow.lt Hown.out _ rfl).2
        have hfr := own_free Hown.out o
        have Ho := Lib.hid hok
        have He := Lib.hid he
        have Hsm := Lib.hid hsm
        clear he ho hok hsm
        go_wp2
        go_roundw
        case rel =>
          refine ⟨k + 1, by omega, by go_num, Lib.hid ?_, ?_⟩
          · rw [sumsOf_succ He.out Ho.out, Hsm.out]
            have hst := Own.store (u := .int .i64 (sm + 1)) (e' := sm + 1) (j := 0) icell_len Hown.out (sumsOf_get (key := kindKey) (val := oneVal) (es := es.take k) ho5) (by omega) rfl
            rw [Nat.mul_one, Nat.add_zero] at hst
            exact own_alloc hst _
          · exact below_al (below_st hbel _ Hbase.out _) _
        case measure => simp [intOf]; omega
      · go_wp2
        go_ret2
        have hkn : k = n := by omega
        subst hkn
        have hl : List.take k es = es := List.take_of_length_le (by rw [Hn.out]; omega)
        have ho := Hown.out
        rw [hl] at ho
        exact ⟨_, rfl, ho.base_le Hbase.out, hbel⟩
  · have hr : countOut es = [] := if_neg (by simp [g1])
    have hc : countCode es = 1 := if_neg (by simp [g1])
    rw [hr, hc]
    go_enter Try.func23, Try.ntmps23
    go_wp2_with (go_at_call 21; refine (impl_ValidDefects _ _ _ es _ hmax h).mono ?_; rintro e w1 ⟨rfl, hb1⟩; rw [g1])
    go_ret2
    exact ⟨_, rfl, own_new_empty _ _ _ _ _ hb1.size, below_al hb1 _⟩
set_option maxHeartbeats 1000000 in
theorem spec_CountKinds (A : Option Addr) (n c : Nat) (es : List Q4) (w : World) (hmax : n ≤ 1048576) (h : Sl w w.heap.size 4 Q4.cells A n es) :
    Calls Try.prog 22 #[.slice A n c] w fun e w' => ∃ v, e = .returned (.tuple #[v, .int .i64 (countCode es)]) ∧ Own w' w.heap.size 2 1 icell v (countOut es) ∧ Below w.heap.size w w' := by
  rcases Bool.eq_false_or_eq_true (defectsOk es) with g1 | g1
  · have hr : countOut es = sumsOf kindKey oneVal 5 es := if_pos g1
    have hc : countCode es = 0 := if_pos g1
    rw [hr, hc]
    obtain ⟨i0, hi, hz0, hz1, hz2⟩ := info_parts info_i64
    have hmk := make_all Try.underlying33 hi hz0 5 (by rw [hz2]; omega) (by omega)
    rw [hz1] at hmk
    replace hmk : ∀ w, (Instr.makeSlice 33 (.int .i64 5) (.int .i64 5)).run Try.prog w = .ok (.slice (some ⟨w.heap.size, 0, none⟩) 5 5) (w.alloc (.cells (madeCells #[.int .i64 0] 5) 2)) := hmk
    clear hi hz0 hz1 hz2 hr hc
    have Hn := Lib.hid h.len
    have Hok := Lib.hid g1
    go_enter Try.func22, Try.ntmps22
    go_wp2_with (go_at_call 49; refine (spec_l18Ok _ _ _ es _ hmax h).mono ?_; rintro e w1 ⟨rfl, hb1⟩; rw [g1])
    clear hmk g1
    have Hbase := Lib.hid hb1.size
    go_loopw [5] (fun i wr => ∃ k : Nat, k ≤ n ∧ i = .int .i64 k ∧ Hid (Own wr w1.heap.size 2 1 icell (.slice (some ⟨w1.heap.size, 0, none⟩) 5 5) (sumsOf kindKey oneVal 5 (es.take k))) ∧ Below w.heap.size w wr) (fun i _ => n - (intOf i).toNat)
    case atStart => exact ⟨0, by omega, rfl, Lib.hid (by rw [sumsOf_zero]; exact own_zeros w1 _ 5 (by omega)), below_al hb1 _⟩
    case round =>
      obtain ⟨k, hk, rfl, Hown, hbel⟩ := hrel
      by_cases hlt : k < n
      · obtain ⟨b, off, rfl, hb, H⟩ := h.at_ (by omega)
        obtain ⟨e, he⟩ := h.get hlt
        obtain ⟨c0, c1, c2, c3⟩ := (H.below hbel hb).q4 he
        obtain ⟨_, ⟨e1, e2⟩, _, _⟩ := defectOk_iff.1 ((defects_all Hok.out).2 e (List.mem_of_getElem? he))
        obtain ⟨o, ho⟩ : ∃ o : Nat, e.b = (o : Int) + 1 := ⟨(e.b - 1).toNat, by omega⟩
        rw [ho] at c1
        have hok : kindKey e = (o : Int) := by unfold kindKey; omega
        have ho5 : o < 5 := by omega
        have d0 := (own_has Hown.out icell_len).i1 (sumsOf_get (key := kindKey) (val := oneVal) (es := es.take k) ho5)
        obtain ⟨s1, s2⟩ := count_bd Hok.out (o : Int) k
        rw [Nat.zero_add] at d0
        obtain ⟨sm, hsm⟩ : ∃ sm, sumBy (fun q => if kindKey q = (o : Int) then oneVal q else 0) (es.take k) = sm := ⟨_, rfl⟩
        rw [hsm] at d0 s1 s2
        have hgl : w1.heap.size < wr.heap.size := (World.ownsRow.lt Hown.out _ rfl).2
        have hfr := own_free Hown.out o
        have Ho := Lib.hid hok
        have He := Lib.hid he
        have Hsm := Lib.hid hsm
        clear he ho hok hsm
        go_wp2
        go_roundw
        case rel =>
          refine ⟨k + 1, by omega, by go_num, Lib.hid ?_, ?_⟩
          · rw [sumsOf_succ He.out Ho.out, Hsm.out]
            have hst := Own.store (u := .int .i64 (sm + 1)) (e' := sm + 1) (j := 0) icell_len Hown.out (sumsOf_get (key := kindKey) (val := oneVal) (es := es.take k) ho5) (by omega) rfl
            rw [Nat.mul_one, Nat.add_zero] at hst
            exact hst
          · exact below_st hbel _ Hbase.out _
        case measure => simp [intOf]; omega
      · go_wp2
        go_ret2
        have hkn : k = n := by omega
        subst hkn
        have hl : List.take k es = es := List.take_of_length_le (by rw [Hn.out]; omega)
        have ho := Hown.out
        rw [hl] at ho
        exact ⟨_, rfl, ho.base_le Hbase.out, hbel⟩
  · have hr : countOut es = [] := if_neg (by simp [g1])
    have hc : countCode es = 1 := if_neg (by simp [g1])
    rw [hr, hc]
    go_enter Try.func22, Try.ntmps22
    go_wp2_with (go_at_call 49; refine (spec_l18Ok _ _ _ es _ hmax h).mono ?_; rintro e w1 ⟨rfl, hb1⟩; rw [g1])
    go_ret2
    exact ⟨_, rfl, own_nil _ _ _ _ _, hb1⟩
theorem l00In_r (n lo hi : Int) (r : Bool) (hr : inR n lo hi = r) (w : World) : Calls Try.prog 43 #[.int .i64 n, .int .i64 lo, .int .i64 hi] w fun e w' => e = .returned (.bool r) ∧ w = w' := by
  subst hr; exact spec_l00In n lo hi w
def metreOf (es : List Q4) (x : Int) : Int := match es[x.toNat]? with | some q => q.a | none => 0
def rStep (es : List Q4) (st : Int × Int) (x : Int) : Int × Int := (st.1 + absI (metreOf es x - st.2), metreOf es x)
def routeFold (es : List Q4) (f : Int) (xs : List Int) : Int × Int := xs.foldl (rStep es) (0, f)
def inDef (n : Nat) (xs : List Int) : Prop := ∀ x ∈ xs, 0 ≤ x ∧ x < n
theorem routeFold_succ {es : List Q4} {f : Int} {xs : List Int} {k : Nat} {x : Int} (hx : xs[k]? = some x) : routeFold es f (xs.take (k + 1)) = rStep es (routeFold es f (xs.take k)) x := by
  obtain ⟨hk, he⟩ := List.getElem?_eq_some_iff.1 hx
  rw [List.take_succ_eq_append_getElem hk, routeFold, List.foldl_append, he]; rfl
theorem metreOf_at {es : List Q4} {j : Nat} {q : Q4} (h : es[j]? = some q) : metreOf es (j : Int) = q.a := by simp [metreOf, h]
theorem metreOf_bd {es : List Q4} (h : defectsOk es = true) (x : Int) : 0 ≤ metreOf es x ∧ metreOf es x ≤ 300000 := by
  unfold metreOf
  split
  · rename_i q hq
    exact (defectOk_iff.1 ((defects_all h).2 q (List.mem_of_getElem? hq))).1
  · omega
theorem routeFold_bd {es : List Q4} (h : defectsOk es = true) {f : Int} (hf : 0 ≤ f ∧ f ≤ 300000) (xs : List Int) : ∀ k, k ≤ xs.length → (0 ≤ (routeFold es f (xs.take k)).1 ∧ (routeFold es f (xs.take k)).1 ≤ 300000 * k) ∧ (0 ≤ (routeFold es f (xs.take k)).2 ∧ (routeFold es f (xs.take k)).2 ≤ 300000) := by
  intro k
  induction k with
  | zero => intro _; exact ⟨⟨by simp [routeFold], by simp [routeFold]⟩, by simpa [routeFold] using hf⟩
  | succ k ih =>
    intro hk
    obtain ⟨⟨a1, a2⟩, a3, a4⟩ := ih (by omega)
    have hx : xs[k]? = some (xs[k]'(by omega)) := List.getElem?_eq_getElem _
    have hm := metreOf_bd h (xs[k]'(by omega))
    rw [routeFold_succ hx]
    simp only [rStep]
    unfold absI
    split <;> omega
set_option maxHeartbeats 1000000 in
theorem impl_routeMetres (A : Option Addr) (n c : Nat) (es : List Q4) (f : Int) (A2 : Option Addr) (m c2 : Nat) (xs : List Int) (w : World) (hmax : n ≤ 1048576) (hmax2 : m ≤ 1048576) (hok : defectsOk es = true) (hf : 0 ≤ f ∧ f ≤ 300000) (hin : inDef n xs) (h : Sl w w.heap.size 4 Q4.cells A n es) (h2 : Sl w w.heap.size 1 icell A2 m xs) :
    Calls Try.prog 62 #[.slice A n c, .int .i64 f, .slice A2 m c2] w fun e w' => e = .returned (.int .i64 (routeFold es f xs).1) ∧ Below w.heap.size w w' := by
  have Hn := Lib.hid h.len
  have Hm := Lib.hid h2.len
  have Hok := Lib.hid hok
  have Hin := Lib.hid hin
  have Hf := Lib.hid hf
  clear hok hin hf
  go_enter Try.func62, Try.ntmps62
  go_wp2
  go_loopw [1, 7, 12] (fun fr tot i wr => ∃ (k : Nat) (t q : Int), k ≤ m ∧ i = .int .i64 k ∧ fr = .int .i64 q ∧ tot = .int .i64 t ∧ Hid (routeFold es f (xs.take k) = (t, q)) ∧ Below w.heap.size w wr) (fun _ _ i _ => m - (intOf i).toNat)
  case atStart => exact ⟨0, 0, f, by omega, rfl, rfl, rfl, Lib.hid rfl, Below.refl _ _⟩
  case round =>
    obtain ⟨k, t, q, hk, rfl, rfl, rfl, Hst, hbel⟩ := hrel
    by_cases hlt : k < m
    · obtain ⟨b2, off2, rfl, hb2, H2⟩ := h2.at_ (by omega)
      obtain ⟨x, hx⟩ := h2.get hlt
      obtain ⟨x0, x1⟩ := Hin.out x (List.mem_of_getElem? hx)
      obtain ⟨j, rfl⟩ : ∃ j : Nat, x = (j : Int) := ⟨x.toNat, by omega⟩
      have hjn : j < n := by omega
      obtain ⟨b, off, rfl, hb, H⟩ := h.at_ (by omega)
      obtain ⟨e, he⟩ := h.get hjn
      obtain ⟨c0, _, _, _⟩ := (H.below hbel hb).q4 he
      have y0 := (H2.below hbel hb2).i1 hx
      obtain ⟨⟨t1, t2⟩, t3, t4⟩ := routeFold_bd Hok.out Hf.out xs k (by rw [Hm.out]; omega)
      rw [Hst.out] at t1 t2 t3 t4
      simp only at t1 t2 t3 t4
      obtain ⟨m1, m2⟩ := metreOf_bd Hok.out (j : Int)
      rw [metreOf_at he] at m1 m2
      have Hx := Lib.hid hx
      have He := Lib.hid (metreOf_at he)
      have a1 : absI (e.a - q) ≤ 300000 := by unfold absI; split <;> omega
      have a2 : 0 ≤ absI (e.a - q) := by unfold absI; split <;> omega
      clear hx he x0 x1
      go_wp2_with (go_at_call 74; refine (impl_abs _ (by omega) (by omega) _).mono ?_; rintro e' w' ⟨rfl, rfl⟩)
      go_roundw
      case rel => exact ⟨k + 1, _, _, by omega, by go_num, rfl, rfl, Lib.hid (by rw [routeFold_succ Hx.out, Hst.out, rStep, He.out]), hbel⟩
      case measure => simp [intOf]; omega
    · go_wp2
      go_ret
      have hkm : k = m := by omega
      subst hkm
      have hl : xs.take k = xs := List.take_of_length_le (by rw [Hm.out]; omega)
      have hs := Hst.out
      rw [hl] at hs
      exact ⟨ret_int (by rw [hs]), hbel⟩
set_option maxHeartbeats 1000000 in
theorem spec_l18Metres (A : Option Addr) (n c : Nat) (es : List Q4) (f : Int) (A2 : Option Addr) (m c2 : Nat) (xs : List Int) (w : World) (hmax : n ≤ 1048576) (hmax2 : m ≤ 1048576) (hok : defectsOk es = true) (hf : 0 ≤ f ∧ f ≤ 300000) (hin : inDef n xs) (h : Sl w w.heap.size 4 Q4.cells A n es) (h2 : Sl w w.heap.size 1 icell A2 m xs) :
    Calls Try.prog 59 #[.slice A n c, .int .i64 f, .slice A2 m c2] w fun e w' => e = .returned (.int .i64 (routeFold es f xs).1) ∧ Below w.heap.size w w' := by
  have Hn := Lib.hid h.len
  have Hm := Lib.hid h2.len
  have Hok := Lib.hid hok
  have Hin := Lib.hid hin
  have Hf := Lib.hid hf
  clear hok hin hf
  go_enter Try.func59, Try.ntmps59
  go_wp2
  go_loopw [1, 7, 8] (fun fr tot i wr => ∃ (k : Nat) (t q : Int), k ≤ m ∧ i = .int .i64 k ∧ fr = .int .i64 q ∧ tot = .int .i64 t ∧ Hid (routeFold es f (xs.take k) = (t, q)) ∧ Below w.heap.size w wr) (fun _ _ i _ => m - (intOf i).toNat)
  case atStart => exact ⟨0, 0, f, by omega, rfl, rfl, rfl, Lib.hid rfl, Below.refl _ _⟩
  case round =>
    obtain ⟨k, t, q, hk, rfl, rfl, rfl, Hst, hbel⟩ := hrel
    by_cases hlt : k < m
    · obtain ⟨b2, off2, rfl, hb2, H2⟩ := h2.at_ (by omega)
      obtain ⟨x, hx⟩ := h2.get hlt
      obtain ⟨x0, x1⟩ := Hin.out x (List.mem_of_getElem? hx)
      obtain ⟨j, rfl⟩ : ∃ j : Nat, x = (j : Int) := ⟨x.toNat, by omega⟩
      have hjn : j < n := by omega
      obtain ⟨b, off, rfl, hb, H⟩ := h.at_ (by omega)
      obtain ⟨e, he⟩ := h.get hjn
      obtain ⟨c0, _, _, _⟩ := (H.below hbel hb).q4 he
      have y0 := (H2.below hbel hb2).i1 hx
      obtain ⟨⟨t1, t2⟩, t3, t4⟩ := routeFold_bd Hok.out Hf.out xs k (by rw [Hm.out]; omega)
      rw [Hst.out] at t1 t2 t3 t4
      simp only at t1 t2 t3 t4
      obtain ⟨m1, m2⟩ := metreOf_bd Hok.out (j : Int)
      rw [metreOf_at he] at m1 m2
      have Hx := Lib.hid hx
      have He := Lib.hid (metreOf_at he)
      have a1 : absI (e.a - q) ≤ 300000 := by unfold absI; split <;> omega
      have a2 : 0 ≤ absI (e.a - q) := by unfold absI; split <;> omega
      clear hx he x0 x1
      go_wp2_with (go_at_call 73; refine (spec_l02Size _ (by omega) (by omega) _).mono ?_; rintro e' w' ⟨rfl, rfl⟩)
      go_roundw
      case rel => exact ⟨k + 1, _, _, by omega, by go_num, rfl, rfl, Lib.hid (by rw [routeFold_succ Hx.out, Hst.out, rStep, He.out]), hbel⟩
      case measure => simp [intOf]; omega
    · go_wp2
      go_ret
      have hkm : k = m := by omega
      subst hkm
      have hl : xs.take k = xs := List.take_of_length_le (by rw [Hm.out]; omega)
      have hs := Hst.out
      rw [hl] at hs
      exact ⟨ret_int (by rw [hs]), hbel⟩
def routeGoodAt (n : Nat) (xs : List Int) (i : Nat) : Bool := match xs[i]? with | some x => inR x 0 ((n : Int) - 1) && !hasB (xs.take i) x | none => true
def routeGood (n : Nat) (xs : List Int) : Bool := (List.range xs.length).all (routeGoodAt n xs)
def rmCode (es : List Q4) (f : Int) (xs : List Int) : Int := if defectsOk es = false then 1 else if (inR f 0 300000 && routeGood es.length xs) = false then 2 else 0
def rmRes (es : List Q4) (f : Int) (xs : List Int) : Int := if rmCode es f xs = 0 then (routeFold es f xs).1 else 0
theorem rmRes_neg {es : List Q4} {f : Int} {xs : List Int} (h : rmCode es f xs ≠ 0) : rmRes es f xs = 0 := if_neg h
theorem routeGood_no {n : Nat} {xs : List Int} {k : Nat} {x : Int} (hx : xs[k]? = some x) (h : (inR x 0 ((n : Int) - 1) && !hasB (xs.take k) x) = false) : routeGood n xs = false := by
  rw [routeGood, List.all_eq_false]
  exact ⟨k, List.mem_range.2 (List.getElem?_eq_some_iff.1 hx).1, by rw [routeGoodAt, hx]; simp [h]⟩
theorem routeGood_yes {n : Nat} {xs : List Int} (h : ∀ (j : Nat) x, xs[j]? = some x → (inR x 0 ((n : Int) - 1) && !hasB (xs.take j) x) = true) : routeGood n xs = true := by
  rw [routeGood, List.all_eq_true]
  intro j hj
  obtain ⟨x, hx⟩ : ∃ x, xs[j]? = some x := ⟨_, List.getElem?_eq_getElem (List.mem_range.1 hj)⟩
  rw [routeGoodAt, hx]; exact h j x hx
theorem routeIn {n : Nat} {xs : List Int} (h : ∀ (j : Nat) x, xs[j]? = some x → (inR x 0 ((n : Int) - 1) && !hasB (xs.take j) x) = true) : inDef n xs := fun x hx => by
  obtain ⟨j, hj, rfl⟩ := List.mem_iff_getElem.1 hx
  have := h j _ (List.getElem?_eq_getElem hj)
  rw [Bool.and_eq_true, inR_iff] at this
  omega
set_option maxHeartbeats 1000000 in
theorem impl_RouteMetres (A : Option Addr) (n c : Nat) (es : List Q4) (f : Int) (A2 : Option Addr) (m c2 : Nat) (xs : List Int) (w : World) (hmax : n ≤ 1048576) (hmax2 : m ≤ 1048576) (hmc : m ≤ c2) (h : Sl w w.heap.size 4 Q4.cells A n es) (h2 : Sl w w.heap.size 1 icell A2 m xs) :
    Calls Try.prog 36 #[.slice A n c, .int .i64 f, .slice A2 m c2] w fun e w' => e = .returned (.tuple #[.int .i64 (rmRes es f xs), .int .i64 (rmCode es f xs)]) ∧ Below w.heap.size w w' := by
  rcases Bool.eq_false_or_eq_true (defectsOk es) with g1 | g1
  · have Hn := Lib.hid h.len
    have Hm := Lib.hid h2.len
    have Hok := Lib.hid g1
    go_enter Try.func36, Try.ntmps36
    go_wp2_with (go_at_call 21; refine (impl_ValidDefects _ _ _ es _ hmax h).mono ?_; rintro e w1 ⟨rfl, hb1⟩; rw [g1])
    clear g1
    go_loopw [15] (fun i wr => ∃ k : Nat, k ≤ m ∧ i = .int .i64 k ∧ Hid (∀ (j : Nat) x, j < k → xs[j]? = some x → (inR x 0 ((n : Int) - 1) && !hasB (xs.take j) x) = true) ∧ Below w.heap.size w wr) (fun i _ => m - (intOf i).toNat)
    case atStart => exact ⟨0, by omega, rfl, Lib.hid (fun j x hj => by omega), hb1⟩
    case round =>
      obtain ⟨k, hk, rfl, Hgood, hbel⟩ := hrel
      by_cases hlt : k < m
      · obtain ⟨b2, off2, rfl, hb2, H2⟩ := h2.at_ (by omega)
        obtain ⟨x, hx⟩ := h2.get hlt
        have y0 := (H2.below hbel hb2).i1 hx
        have Hx := Lib.hid hx
        clear hx
        rcases Bool.eq_false_or_eq_true (inR x 0 ((n : Int) - 1)) with q1 | q1
        · obtain ⟨r, hr⟩ : ∃ r, hasB (xs.take k) x = r := ⟨_, rfl⟩
          have Hr := Lib.hid hr
          clear hr
          have hkc : (k : Int) ≤ (c2 : Int) := by omega
          have hk0 : (0 : Int) ≤ (k : Int) := by omega
          have hSl := ((h2.on hbel).front k (by omega))
          have hSl' := Lib.hid hSl
          clear hSl
          cases r with
          | true =>
            go_wp2_with (first
              | (go_at_call 53; refine (impl_size_impl.Defect _ _ _ _ (by omega)).mono ?_; rintro e w' ⟨rfl, rfl⟩)
              | (go_at_call 45; refine (impl_in _ _ _ _).mono ?_; rintro e w' ⟨rfl, rfl⟩; rw [q1])
              | (go_at_call 60; refine (impl_has_r _ _ _ (xs.take k) x _ Hr.out _ (by omega) hSl'.out).mono ?_; rintro e w2 ⟨rfl, hb2⟩))
            go_ret2
            have hc : rmCode es f xs = 2 := by
              unfold rmCode; rw [if_neg (by simp [Hok.out]), if_pos (by rw [routeGood_no Hx.out (by rw [Hr.out]; simp)]; simp)]
            exact ⟨by rw [hc, rmRes_neg (by omega)]; rfl, below_then hbel hb2⟩
          | false =>
            have Hgood2 : Hid (∀ (j : Nat) x, j < k + 1 → xs[j]? = some x → (inR x 0 ((n : Int) - 1) && !hasB (xs.take j) x) = true) := fun j y hj hy => by
              rcases Nat.lt_or_ge j k with h1 | h1
              · exact Hgood.out j y h1 hy
              · have : j = k := by omega
                subst this; rw [Hx.out] at hy; injection hy with hy; subst hy; rw [q1, Hr.out]; rfl
            go_wp2_with (first
              | (go_at_call 53; refine (impl_size_impl.Defect _ _ _ _ (by omega)).mono ?_; rintro e w' ⟨rfl, rfl⟩)
              | (go_at_call 45; refine (impl_in _ _ _ _).mono ?_; rintro e w' ⟨rfl, rfl⟩; rw [q1])
              | (go_at_call 60; refine (impl_has_r _ _ _ (xs.take k) x _ Hr.out _ (by omega) hSl'.out).mono ?_; rintro e w2 ⟨rfl, hb2⟩))
            go_roundw
            case rel => exact ⟨k + 1, by omega, by go_num, Hgood2, below_then hbel hb2⟩
            case measure => simp [intOf]; omega
        · go_wp2_with (first
            | (go_at_call 53; refine (impl_size_impl.Defect _ _ _ _ (by omega)).mono ?_; rintro e w' ⟨rfl, rfl⟩)
            | (go_at_call 45; refine (impl_in _ _ _ _).mono ?_; rintro e w' ⟨rfl, rfl⟩; rw [q1]))
          go_ret2
          have hc : rmCode es f xs = 2 := by
            unfold rmCode; rw [if_neg (by simp [Hok.out]), if_pos (by rw [routeGood_no Hx.out (by rw [Hn.out, q1]; rfl)]; simp)]
          exact ⟨by rw [hc, rmRes_neg (by omega)]; rfl, hbel⟩
      · have hall : ∀ (j : Nat) x, xs[j]? = some x → (inR x 0 ((n : Int) - 1) && !hasB (xs.take j) x) = true := fun j x hx => Hgood.out j x (by have := (List.getElem?_eq_some_iff.1 hx).1; have := Hm.out; omega) hx
        have Hg := Lib.hid (routeGood_yes hall)
        have Hin := Lib.hid (routeIn hall)
        clear hall
        rcases Bool.eq_false_or_eq_true (inR f 0 300000) with q2 | q2
        · have Hc : Hid (rmCode es f xs = 0) := by
            show rmCode es f xs = 0
            unfold rmCode; rw [if_neg (by simp [Hok.out]), Hn.out, Hg.out, q2]; rfl
          go_wp2_with (first
            | (go_at_call 61; refine (impl_isMetre _ _).mono ?_; rintro e w' ⟨rfl, rfl⟩; rw [q2])
            | (go_at_call 62; refine (impl_routeMetres _ _ _ es _ _ _ _ xs _ hmax hmax2 Hok.out (inR_iff.1 q2) Hin.out (h.on hbel) (h2.on hbel)).mono ?_; rintro e w2 ⟨rfl, hb2⟩))
          go_ret2
          exact ⟨by rw [rmRes, if_pos Hc.out, Hc.out]; rfl, below_then hbel hb2⟩
        · have Hc : Hid (rmCode es f xs = 2) := by
            show rmCode es f xs = 2
            unfold rmCode; rw [if_neg (by simp [Hok.out]), q2]; rfl
          go_wp2_with (go_at_call 61; refine (impl_isMetre _ _).mono ?_; rintro e w' ⟨rfl, rfl⟩; rw [q2])
          go_ret2
          exact ⟨by rw [Hc.out, rmRes_neg (by rw [Hc.out]; omega)]; rfl, hbel⟩
  · have hc : rmCode es f xs = 1 := by unfold rmCode; rw [if_pos g1]
    rw [hc, rmRes_neg (by omega)]
    clear hc
    go_enter Try.func36, Try.ntmps36
    go_wp2_with (go_at_call 21; refine (impl_ValidDefects _ _ _ es _ hmax h).mono ?_; rintro e w1 ⟨rfl, hb1⟩; rw [g1])
    go_ret2
    exact ⟨rfl, hb1⟩
set_option maxHeartbeats 1000000 in
theorem spec_RouteMetres (A : Option Addr) (n c : Nat) (es : List Q4) (f : Int) (A2 : Option Addr) (m c2 : Nat) (xs : List Int) (w : World) (hmax : n ≤ 1048576) (hmax2 : m ≤ 1048576) (hmc : m ≤ c2) (h : Sl w w.heap.size 4 Q4.cells A n es) (h2 : Sl w w.heap.size 1 icell A2 m xs) :
    Calls Try.prog 34 #[.slice A n c, .int .i64 f, .slice A2 m c2] w fun e w' => e = .returned (.tuple #[.int .i64 (rmRes es f xs), .int .i64 (rmCode es f xs)]) ∧ Below w.heap.size w w' := by
  rcases Bool.eq_false_or_eq_true (defectsOk es) with g1 | g1
  · rcases Bool.eq_false_or_eq_true (inR f 0 300000) with q2 | q2
    · have Hn := Lib.hid h.len
      have Hm := Lib.hid h2.len
      have Hok := Lib.hid g1
      have Hq2 := Lib.hid q2
      go_enter Try.func34, Try.ntmps34
      go_wp2_with (first
        | (go_at_call 49; refine (spec_l18Ok _ _ _ es _ hmax h).mono ?_; rintro e w1 ⟨rfl, hb1⟩; rw [g1])
        | (go_at_call 43; refine (spec_l00In _ _ _ _).mono ?_; rintro e w' ⟨rfl, rfl⟩; rw [q2]))
      clear g1 q2
      go_loopw [8] (fun i wr => ∃ k : Nat, k ≤ m ∧ i = .int .i64 k ∧ Hid (∀ (j : Nat) x, j < k → xs[j]? = some x → (inR x 0 ((n : Int) - 1) && !hasB (xs.take j) x) = true) ∧ Below w.heap.size w wr) (fun i _ => m - (intOf i).toNat)
      case atStart => exact ⟨0, by omega, rfl, Lib.hid (fun j x hj => by omega), hb1⟩
      case round =>
        obtain ⟨k, hk, rfl, Hgood, hbel⟩ := hrel
        by_cases hlt : k < m
        · obtain ⟨b2, off2, rfl, hb2, H2⟩ := h2.at_ (by omega)
          obtain ⟨x, hx⟩ := h2.get hlt
          have y0 := (H2.below hbel hb2).i1c (Nat.lt_of_lt_of_le hb2 hbel.size) hx
          have Hx := Lib.hid hx
          clear hx
          obtain ⟨r, hr⟩ : ∃ r, hasB (xs.take k) x = r := ⟨_, rfl⟩
          have Hr := Lib.hid hr
          clear hr
          have hkc : (k : Int) ≤ (c2 : Int) := by omega
          have hkm : (k : Int) < (m : Int) := by omega
          have hk0 : (0 : Int) ≤ (k : Int) := by omega
          have hn1 : IntKind.i64.wrap ((n : Int) - 1) = (n : Int) - 1 := IntWalk.i64_in _ (by omega)
          have hSl := ((h2.on hbel).front k (by omega))
          rcases Bool.eq_false_or_eq_true (inR x 0 ((n : Int) - 1)) with q1 | q1
          · have HQ := Lib.hid (fun d os => (Sl.on hSl (below_regrown wr d os)))
            clear hSl
            go_wp2_with fail
            refine wp_region_quiet_below (by kernel_rfl) (by kernel_rfl) ?_
            repeat (go_big_quiet_step (first | exact Calls.regrown_of (calls_below (l00In_r _ _ _ true q1 _)) | exact Calls.regrown_of (spec_l00Has_r _ _ _ (xs.take k) x r Hr.out _ (by omega) (HQ.out _ _))))
            refine wpQuiet_nil ?_
            intro wq hwq
            have hbq := below_then hbel (below_of_class hwq)
            clear hwq y0 hn1
            cases r with
            | true =>
              go_wp2_with fail
              go_ret2
              have hc : rmCode es f xs = 2 := by
                unfold rmCode; rw [if_neg (by simp [Hok.out]), if_pos (by rw [routeGood_no Hx.out (by rw [Hr.out]; simp)]; simp)]
              exact ⟨by rw [hc, rmRes_neg (by omega)]; rfl, hbq⟩
            | false =>
              have Hgood2 : Hid (∀ (j : Nat) x, j < k + 1 → xs[j]? = some x → (inR x 0 ((n : Int) - 1) && !hasB (xs.take j) x) = true) := fun j y hj hy => by
                rcases Nat.lt_or_ge j k with h1 | h1
                · exact Hgood.out j y h1 hy
                · have : j = k := by omega
                  subst this; rw [Hx.out] at hy; injection hy with hy; subst hy; rw [q1, Hr.out]; rfl
              go_wp2_with fail
              go_roundw
              case rel => exact ⟨k + 1, by omega, by go_num, Hgood2, hbq⟩
              case measure => simp [intOf]; omega
          · clear hSl
            go_wp2_with fail
            refine wp_region_quiet_below (by kernel_rfl) (by kernel_rfl) ?_
            repeat (go_big_quiet_step (exact Calls.regrown_of (calls_below (l00In_r _ _ _ false q1 _))))
            refine wpQuiet_nil ?_
            intro wq hwq
            have hbq := below_then hbel (below_of_class hwq)
            clear hwq y0 hn1
            go_wp2_with fail
            go_ret2
            have hc : rmCode es f xs = 2 := by
              unfold rmCode; rw [if_neg (by simp [Hok.out]), if_pos (by rw [routeGood_no Hx.out (by rw [Hn.out, q1]; rfl)]; simp)]
            exact ⟨by rw [hc, rmRes_neg (by omega)]; rfl, hbq⟩
        · have hall : ∀ (j : Nat) x, xs[j]? = some x → (inR x 0 ((n : Int) - 1) && !hasB (xs.take j) x) = true := fun j x hx => Hgood.out j x (by have := (List.getElem?_eq_some_iff.1 hx).1; have := Hm.out; omega) hx
          have Hg := Lib.hid (routeGood_yes hall)
          have Hin := Lib.hid (routeIn hall)
          clear hall
          have Hc : Hid (rmCode es f xs = 0) := by
            show rmCode es f xs = 0
            unfold rmCode; rw [if_neg (by simp [Hok.out]), Hn.out, Hg.out, Hq2.out]; rfl
          go_wp2_with (go_at_call 59; refine (spec_l18Metres _ _ _ es _ _ _ _ xs _ hmax hmax2 Hok.out (inR_iff.1 Hq2.out) Hin.out (h.on hbel) (h2.on hbel)).mono ?_; rintro e w2 ⟨rfl, hb2⟩)
          go_ret2
          exact ⟨by rw [rmRes, if_pos Hc.out, Hc.out]; rfl, below_then hbel hb2⟩
    · have hc : rmCode es f xs = 2 := by unfold rmCode; rw [if_neg (by simp [g1]), q2]; rfl
      rw [hc, rmRes_neg (by omega)]
      clear hc
      go_enter Try.func34, Try.ntmps34
      go_wp2_with (first
        | (go_at_call 49; refine (spec_l18Ok _ _ _ es _ hmax h).mono ?_; rintro e w1 ⟨rfl, hb1⟩; rw [g1])
        | (go_at_call 43; refine (spec_l00In _ _ _ _).mono ?_; rintro e w' ⟨rfl, rfl⟩; rw [q2]))
      go_ret2
      exact ⟨rfl, hb1⟩
  · have hc : rmCode es f xs = 1 := by unfold rmCode; rw [if_pos g1]
    rw [hc, rmRes_neg (by omega)]
    clear hc
    go_enter Try.func34, Try.ntmps34
    go_wp2_with (go_at_call 49; refine (spec_l18Ok _ _ _ es _ hmax h).mono ?_; rintro e w1 ⟨rfl, hb1⟩; rw [g1])
    go_ret2
    exact ⟨rfl, hb1⟩

end Go.Proofs.Ytccajbnklegniaa

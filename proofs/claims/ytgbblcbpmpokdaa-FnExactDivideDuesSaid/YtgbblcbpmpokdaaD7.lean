/- Walks over functions of this seat, by contract. Conditions: those that each theorem states. -/
import Derived.Test.YtgbblcbpmpokdaaD3
import Derived.Test.YtgbblcbpmpokdaaStp
namespace Go.Proofs.Ytgbblcbpmpokdaa
open Go.RowKit Go.Sort

def hasB (xs : List Int) (x : Int) : Bool := xs.any (fun y => y == x)
theorem hasB_yes {xs : List Int} {x : Int} {k : Nat} {y : Int} (h : xs[k]? = some y) (e : (y == x) = true) : hasB xs x = true := by
  rw [hasB, List.any_eq_true]; exact ⟨y, List.mem_of_getElem? h, e⟩
theorem hasB_no {xs : List Int} {x : Int} (h : ∀ (k : Nat) y, xs[k]? = some y → (y == x) = false) : hasB xs x = false := by
  rw [hasB, List.any_eq_false]
  intro y hy
  obtain ⟨k, hk, rfl⟩ := List.mem_iff_getElem.1 hy
  have := h k _ (List.getElem?_eq_getElem hk)
  simp [this]
theorem hasB_iff {xs : List Int} {x : Int} : hasB xs x = true ↔ x ∈ xs := by
  rw [hasB, List.any_eq_true]
  constructor
  · rintro ⟨y, hy, e⟩
    have : y = x := by simpa using e
    exact this ▸ hy
  · intro h; exact ⟨x, h, by simp⟩
def absI (x : Int) : Int := if x < 0 then -x else x
theorem impl_abs (x : Int) (h1 : -1000000000000 ≤ x) (h2 : x ≤ 1000000000000) (w : World) : Calls Try.prog 81 #[.int .i64 x] w fun e w' => e = .returned (.int .i64 (absI x)) ∧ w = w' := by
  go_enter Try.func81, Try.ntmps81
  go_wp2
  all_goals (go_ret; exact ⟨ret_int (by unfold absI; (repeat' split) <;> omega), rfl⟩)
theorem spec_l02Size (x : Int) (h1 : -1000000000000 ≤ x) (h2 : x ≤ 1000000000000) (w : World) : Calls Try.prog 73 #[.int .i64 x] w fun e w' => e = .returned (.int .i64 (absI x)) ∧ w = w' := by
  go_enter Try.func73, Try.ntmps73
  go_wp2
  all_goals (go_ret; exact ⟨ret_int (by unfold absI; (repeat' split) <;> omega), rfl⟩)
theorem icell_one (e : Int) (u : Value) (hu : u ∈ icell e) : u.oneCell' = true := by simp [icell] at hu; subst hu; rfl
theorem impl_clone_int64 (A : Option Addr) (n c : Nat) (es : List Int) (w : World) (hmax : n ≤ 1048576) (h : Sl w w.heap.size 1 icell A n es) :
    Calls Try.prog 48 #[.slice A n c] w fun e w' => ∃ v, e = .returned v ∧ Own w' w.heap.size 2 1 icell v es ∧ Below w.heap.size w w' := by
  obtain ⟨i0, hi, hz0, hz1, hz2⟩ := info_parts info_i64
  go_enter Try.func48, Try.ntmps48
  go_wp2_with (at_builtin; refine wpList_app rfl _ _ 23 rfl w.heap.size 2 i0 _ 1 8 Try.underlying23 hi hz0 hz1 hz2 rfl (by omega) icell_len icell_one _ ([] : List Int) es rfl (own_new_empty w w.heap.size _ 1 icell (Nat.le_refl _)) w.heap.size A n c rfl (h.below (below_al (Below.refl _ _) _)) (by simp) (by omega) (by omega) (by simp) ?_; intro v2 w2 ho2 hg2; have hb2 := own_grown (below_al (Below.refl _ w) (.cells #[] 2)) (own_new_empty w w.heap.size _ 1 icell (Nat.le_refl _)) (Nat.le_refl _) (by simp) hg2)
  go_ret
  exact ⟨_, rfl, by simpa using ho2, hb2⟩
theorem spec_l00Own (A : Option Addr) (n c : Nat) (es : List Int) (w : World) (hmax : n ≤ 1048576) (h : Sl w w.heap.size 1 icell A n es) :
    Calls Try.prog 41 #[.slice A n c] w fun e w' => ∃ v, e = .returned v ∧ Own w' w.heap.size 2 1 icell v es ∧ Below w.heap.size w w' := by
  obtain ⟨i0, hi, hz0, hz1, hz2⟩ := info_parts info_i64
  go_enter Try.func41, Try.ntmps41
  go_wp2_with (at_builtin; refine wpList_app rfl _ _ 23 rfl w.heap.size 2 i0 _ 1 8 Try.underlying23 hi hz0 hz1 hz2 rfl (by omega) icell_len icell_one _ ([] : List Int) es rfl (own_new_empty w w.heap.size _ 1 icell (Nat.le_refl _)) w.heap.size A n c rfl (h.below (below_al (Below.refl _ _) _)) (by simp) (by omega) (by omega) (by simp) ?_; intro v2 w2 ho2 hg2; have hb2 := own_grown (below_al (Below.refl _ w) (.cells #[] 2)) (own_new_empty w w.heap.size _ 1 icell (Nat.le_refl _)) (Nat.le_refl _) (by simp) hg2)
  go_ret
  exact ⟨_, rfl, by simpa using ho2, hb2⟩
theorem l00In_r (n lo hi : Int) (r : Bool) (hr : inR n lo hi = r) (w : World) : Calls Try.prog 38 #[.int .i64 n, .int .i64 lo, .int .i64 hi] w fun e w' => e = .returned (.bool r) ∧ w = w' := by
  subst hr; exact spec_l00In n lo hi w
def metreOf (es : List Q4) (x : Int) : Int := match es[x.toNat]? with | some q => q.a | none => 0
def rStep (es : List Q4) (st : Int × Int) (x : Int) : Int × Int := (st.1 + absI (metreOf es x - st.2), metreOf es x)
def routeFold (es : List Q4) (f : Int) (xs : List Int) : Int × Int := xs.foldl (rStep es) (0, f)
def inDef (n : Nat) (xs : List Int) : Prop := ∀ x ∈ xs, 0 ≤ x ∧ x < n
theorem routeFold_succ {es : List Q4} {f : Int} {xs : List Int} {k : Nat} {x : Int} (hx : xs[k]? = some x) : routeFold es f (xs.take (k + 1)) = rStep es (routeFold es f (xs.take k)) x := by
  obtain ⟨hk, he⟩ := List.getElem?_eq_some_iff.1 hx
  rw [List.take_succ_eq_append_getElem hk, routeFold, List.foldl_append, he]; rfl
theorem metreOf_at {es : List Q4} {j : Nat} {q : Q4} (h : es[j]? = some q) : metreOf es (j : Int) = q.a := by simp [metreOf, h]
theorem metreOf_bd {es : List Q4} (h : defectsOk es = true) (x : Int) : 0 ≤ metreOf es x ∧ metreOf es x ≤ 300000 := by
  unfold metreOf
  split
  · rename_i q hq
    exact (defectOk_iff.1 ((defects_all h).2 q (List.mem_of_getElem? hq))).1
  · omega
theorem routeFold_bd {es : List Q4} (h : defectsOk es = true) {f : Int} (hf : 0 ≤ f ∧ f ≤ 300000) (xs : List Int) : ∀ k, k ≤ xs.length → (0 ≤ (routeFold es f (xs.take k)).1 ∧ (routeFold es f (xs.take k)).1 ≤ 300000 * k) ∧ (0 ≤ (routeFold es f (xs.take k)).2 ∧ (routeFold es f (xs.take k)).2 ≤ 300000) := by
  intro k
  induction k with
  | zero => intro _; exact ⟨⟨by simp [routeFold], by simp [routeFold]⟩, by simpa [routeFold] using hf⟩
  | succ k ih =>
    intro hk
    obtain ⟨⟨a1, a2⟩, a3, a4⟩ := ih (by omega)
    have hx : xs[k]? = some (xs[k]'(by omega)) := List.getElem?_eq_getElem _
    have hm := metreOf_bd h (xs[k]'(by omega))
    rw [routeFold_succ hx]
    simp only [rStep]
    unfold absI
    split <;> omega
set_option maxHeartbeats 1000000 in
theorem impl_routeMetres (A : Option Addr) (n c : Nat) (es : List Q4) (f : Int) (A2 : Option Addr) (m c2 : Nat) (xs : List Int) (w : World) (hmax : n ≤ 1048576) (hmax2 : m ≤ 1048576) (hok : defectsOk es = true) (hf : 0 ≤ f ∧ f ≤ 300000) (hin : inDef n xs) (h : Sl w w.heap.size 4 Q4.cells A n es) (h2 : Sl w w.heap.size 1 icell A2 m xs) :
    Calls Try.prog 49 #[.slice A n c, .int .i64 f, .slice A2 m c2] w fun e w' => e = .returned (.int .i64 (routeFold es f xs).1) ∧ Below w.heap.size w w' := by
  have Hn := Lib.hid h.len
  have Hm := Lib.hid h2.len
  have Hok := Lib.hid hok
  have Hin := Lib.hid hin
  have Hf := Lib.hid hf
  clear hok hin hf
  go_enter Try.func49, Try.ntmps49
  go_wp2
  go_loopw [1, 7, 12] (fun fr tot i wr => ∃ (k : Nat) (t q : Int), k ≤ m ∧ i = .int .i64 k ∧ fr = .int .i64 q ∧ tot = .int .i64 t ∧ Hid (routeFold es f (xs.take k) = (t, q)) ∧ Below w.heap.size w wr) (fun _ _ i _ => m - (intOf i).toNat)
  case atStart => exact ⟨0, 0, f, by omega, rfl, rfl, rfl, Lib.hid rfl, Below.refl _ _⟩
  case round =>
    obtain ⟨k, t, q, hk, rfl, rfl, rfl, Hst, hbel⟩ := hrel
    by_cases hlt : k < m
    · obtain ⟨b2, off2, rfl, hb2, H2⟩ := h2.at_ (by omega)
      obtain ⟨x, hx⟩ := h2.get hlt
      obtain ⟨x0, x1⟩ := Hin.out x (List.mem_of_getElem? hx)
      obtain ⟨j, rfl⟩ : ∃ j : Nat, x = (j : Int) := ⟨x.toNat, by omega⟩
      have hjn : j < n := by omega
      obtain ⟨b, off, rfl, hb, H⟩ := h.at_ (by omega)
      obtain ⟨e, he⟩ := h.get hjn
      obtain ⟨c0, _, _, _⟩ := (H.below hbel hb).q4 he
      have y0 := (H2.below hbel hb2).i1 hx
      obtain ⟨⟨t1, t2⟩, t3, t4⟩ := routeFold_bd Hok.out Hf.out xs k (by rw [Hm.out]; omega)
      rw [Hst.out] at t1 t2 t3 t4
      simp only at t1 t2 t3 t4
      obtain ⟨m1, m2⟩ := metreOf_bd Hok.out (j : Int)
      rw [metreOf_at he] at m1 m2
      have Hx := Lib.hid hx
      have He := Lib.hid (metreOf_at he)
      have a1 : absI (e.a - q) ≤ 300000 := by unfold absI; split <;> omega
      have a2 : 0 ≤ absI (e.a - q) := by unfold absI; split <;> omega
      clear hx he x0 x1
      go_wp2_with (go_at_call 81; refine (impl_abs _ (by omega) (by omega) _).mono ?_; rintro e' w' ⟨rfl, rfl⟩)
      go_roundw
      case rel => exact ⟨k + 1, _, _, by omega, by go_num, rfl, rfl, Lib.hid (by rw [routeFold_succ Hx.out, Hst.out, rStep, He.out]), hbel⟩
      case measure => simp [intOf]; omega
    · go_wp2
      go_ret
      have hkm : k = m := by omega
      subst hkm
      have hl : xs.take k = xs := List.take_of_length_le (by rw [Hm.out]; omega)
      have hs := Hst.out
      rw [hl] at hs
      exact ⟨ret_int (by rw [hs]), hbel⟩
set_option maxHeartbeats 1000000 in
theorem spec_l18Metres (A : Option Addr) (n c : Nat) (es : List Q4) (f : Int) (A2 : Option Addr) (m c2 : Nat) (xs : List Int) (w : World) (hmax : n ≤ 1048576) (hmax2 : m ≤ 1048576) (hok : defectsOk es = true) (hf : 0 ≤ f ∧ f ≤ 300000) (hin : inDef n xs) (h : Sl w w.heap.size 4 Q4.cells A n es) (h2 : Sl w w.heap.size 1 icell A2 m xs) :
    Calls Try.prog 42 #[.slice A n c, .int .i64 f, .slice A2 m c2] w fun e w' => e = .returned (.int .i64 (routeFold es f xs).1) ∧ Below w.heap.size w w' := by
  have Hn := Lib.hid h.len
  have Hm := Lib.hid h2.len
  have Hok := Lib.hid hok
  have Hin := Lib.hid hin
  have Hf := Lib.hid hf
  clear hok hin hf
  go_enter Try.func42, Try.ntmps42
  go_wp2
  go_loopw [1, 7, 8] (fun fr tot i wr => ∃ (k : Nat) (t q : Int), k ≤ m ∧ i = .int .i64 k ∧ fr = .int .i64 q ∧ tot = .int .i64 t ∧ Hid (routeFold es f (xs.take k) = (t, q)) ∧ Below w.heap.size w wr) (fun _ _ i _ => m - (intOf i).toNat)
  case atStart => exact ⟨0, 0, f, by omega, rfl, rfl, rfl, Lib.hid rfl, Below.refl _ _⟩
  case round =>
    obtain ⟨k, t, q, hk, rfl, rfl, rfl, Hst, hbel⟩ := hrel
    by_cases hlt : k < m
    · obtain ⟨b2, off2, rfl, hb2, H2⟩ := h2.at_ (by omega)
      obtain ⟨x, hx⟩ := h2.get hlt
      obtain ⟨x0, x1⟩ := Hin.out x (List.mem_of_getElem? hx)
      obtain ⟨j, rfl⟩ : ∃ j : Nat, x = (j : Int) := ⟨x.toNat, by omega⟩
      have hjn : j < n := by omega
      obtain ⟨b, off, rfl, hb, H⟩ := h.at_ (by omega)
      obtain ⟨e, he⟩ := h.get hjn
      obtain ⟨c0, _, _, _⟩ := (H.below hbel hb).q4 he
      have y0 := (H2.below hbel hb2).i1 hx
      obtain ⟨⟨t1, t2⟩, t3, t4⟩ := routeFold_bd Hok.out Hf.out xs k (by rw [Hm.out]; omega)
      rw [Hst.out] at t1 t2 t3 t4
      simp only at t1 t2 t3 t4
      obtain ⟨m1, m2⟩ := metreOf_bd Hok.out (j : Int)
      rw [metreOf_at he] at m1 m2
      have Hx := Lib.hid hx
      have He := Lib.hid (metreOf_at he)
      have a1 : absI (e.a - q) ≤ 300000 := by unfold absI; split <;> omega
      have a2 : 0 ≤ absI (e.a - q) := by unfold absI; split <;> omega
      clear hx he x0 x1
      go_wp2_with (go_at_call 73; refine (spec_l02Size _ (by omega) (by omega) _).mono ?_; rintro e' w' ⟨rfl, rfl⟩)
      go_roundw
      case rel => exact ⟨k + 1, _, _, by omega, by go_num, rfl, rfl, Lib.hid (by rw [routeFold_succ Hx.out, Hst.out, rStep, He.out]), hbel⟩
      case measure => simp [intOf]; omega
    · go_wp2
      go_ret
      have hkm : k = m := by omega
      subst hkm
      have hl : xs.take k = xs := List.take_of_length_le (by rw [Hm.out]; omega)
      have hs := Hst.out
      rw [hl] at hs
      exact ⟨ret_int (by rw [hs]), hbel⟩

end Go.Proofs.Ytgbblcbpmpokdaa

/- Walks over functions of this seat, by contract. Conditions: those that each theorem states. -/
import Derived.Test.YthjdodamfinhaaaGh
namespace Go.Proofs.Ythjdodamfinhaaa
open Go.RowKit Go.Sort

def addGCode (es : List G3) (g : G3) : Int := if guardsOk es = false then 1 else if guardOk g = false then 2 else if hasS (namesOf es) g.s = true then 4 else if 30 ≤ es.length then 5 else 0
def addGOut (es : List G3) (g : G3) : List G3 := if addGCode es g = 0 then es ++ [g] else []
theorem addGOut_neg {es : List G3} {g : G3} (h : addGCode es g ≠ 0) : addGOut es g = [] := if_neg h
theorem addGOut_pos {es : List G3} {g : G3} (h : addGCode es g = 0) : addGOut es g = es ++ [g] := if_pos h
theorem addGOut_len (es : List G3) (g : G3) : (addGOut es g).length ≤ es.length + 1 := by unfold addGOut; split <;> simp
def otherS (s : ByteArray) (x : G3) : Bool := !sEq x.s s
theorem other_all (es : List G3) (s : ByteArray) : es.all (otherS s) = !hasS (namesOf es) s := by
  induction es with
  | nil => rfl
  | cons e l ih =>
    have : hasS (namesOf (e :: l)) s = (sEq e.s s || hasS (namesOf l) s) := by simp [hasS, namesOf]
    rw [this, List.all_cons, ih, otherS, Bool.not_or]
set_option maxHeartbeats 400000 in
set_option maxRecDepth 100000 in
theorem impl_all_Guard (g : Nat) (caps : Array Value) (p : G3 → Bool) (A : Option Addr) (n c : Nat) (es : List G3) (w : World) (hmax : n ≤ 1048576) (hcall : ∀ args W, (callFunc g args).run Try.prog W = .ok (.enter g args) W)
    (hso : ∀ (x : G3) (W : World), x ∈ es → Below w.heap.size w W → Calls Try.prog g (#[.agg #[.string x.s, .int .i64 x.a, .int .i64 x.b]] ++ caps) W fun e w' => e = .returned (.bool (p x)) ∧ Below W.heap.size W w') (h : Sl w w.heap.size 3 G3.cells A n es) :
    Calls Try.prog 60 #[.slice A n c, .func (.func g) #[] caps] w fun e w' => e = .returned (.bool (es.all p)) ∧ Below w.heap.size w w' := by
  have Hn := Lib.hid h.len
  have HSO := Lib.hid hso
  clear hso
  go_enter Try.func60, Try.ntmps60
  go_wp2
  go_loopw [9] (fun i wr => ∃ k : Nat, k ≤ n ∧ i = .int .i64 k ∧ Hid (∀ (j : Nat) e, j < k → es[j]? = some e → p e = true) ∧ Below w.heap.size w wr) (fun i _ => n - (intOf i).toNat)
  case atStart => exact ⟨0, by omega, rfl, Lib.hid (fun j e hj => by omega), Below.refl _ _⟩
  case round =>
    obtain ⟨k, hk, rfl, Hgood, hbel⟩ := hrel
    by_cases hlt : k < n
    · obtain ⟨b, off, rfl, hb, H⟩ := h.at_ (by omega)
      obtain ⟨e, he⟩ := h.get hlt
      obtain ⟨c0, c1, c2⟩ := (H.below hbel hb).g3 he
      have Hmem := Lib.hid (List.mem_of_getElem? he)
      have He := Lib.hid he
      clear he
      obtain ⟨r, hr⟩ : ∃ r, p e = r := ⟨_, rfl⟩
      have Hr := Lib.hid hr
      go_wp2_with (refine (HSO.out e _ Hmem.out (below_al hbel _)).mono ?_; rintro e' w' ⟨rfl, hb1⟩; have hb2 := below_then (below_al hbel _) hb1; rw [hr])
      · have hne : (!r) = true := by assumption
        go_ret
        exact ⟨ret_bool (by rw [all_no He.out (by rw [Hr.out]; simpa using hne)]), hb2⟩
      · have heq : (!r) = false := by assumption
        go_roundw
        case rel => exact ⟨k + 1, by omega, by go_num, Lib.hid (fun j x hj hx => if h1 : j < k then Hgood.out j x h1 hx else by
          have : j = k := by omega
          subst this; rw [He.out] at hx; injection hx with hx; subst hx; rw [Hr.out]; simpa using heq), hb2⟩
        case measure => simp [intOf]; omega
    · go_wp2
      go_ret
      have hkn : k = n := by omega
      subst hkn
      exact ⟨ret_bool (by symm; rw [all_iff_get]; exact fun j x hx => Hgood.out j x (by rw [← Hn.out]; exact (List.getElem?_eq_some_iff.1 hx).1) hx), hbel⟩
set_option maxRecDepth 100000 in
theorem impl_AddGuard_1 (x : G3) (s : ByteArray) (g0 : Nat) (W : World) (x0 : W.cell? ⟨g0, 0, none⟩ = some (.string s)) (l0 : g0 < W.heap.size) :
    Calls Try.prog 61 #[.agg #[.string x.s, .int .i64 x.a, .int .i64 x.b], .pointer (some ⟨g0, 0, none⟩)] W fun e w' => e = .returned (.bool (otherS s x)) ∧ Below W.heap.size W w' := by
  rcases Bool.eq_false_or_eq_true (sEq x.s s) with hq | hq
  · have hq' : x.s.toList = s.toList := by simpa [sEq] using hq
    have hf : otherS s x = false := by rw [otherS, hq]; rfl
    rw [hf]
    clear hf
    go_enter Try.func61, Try.ntmps61
    go_wp2
    go_ret
    exact ⟨ret_bool (by simp_all [sEq]), below_al (Below.refl _ _) _⟩
  · have hq' : ¬ x.s.toList = s.toList := by simpa [sEq] using hq
    have hq2 : (x.s.toList == s.toList) = false := hq
    have hf : otherS s x = true := by rw [otherS, hq]; rfl
    rw [hf]
    clear hf
    go_enter Try.func61, Try.ntmps61
    go_wp2
    go_ret
    exact ⟨ret_bool (by simp_all [sEq]), below_al (Below.refl _ _) _⟩
theorem impl_clone_Guard (A : Option Addr) (n c : Nat) (es : List G3) (w : World) (hmax : n ≤ 1048576) (h : Sl w w.heap.size 3 G3.cells A n es) :
    Calls Try.prog 62 #[.slice A n c] w fun e w' => ∃ v, e = .returned v ∧ Own w' w.heap.size 35 3 G3.cells v es ∧ Below w.heap.size w w' := by
  obtain ⟨i0, hi, hz0, hz1, hz2⟩ := info_parts info_Guard
  go_enter Try.func62, Try.ntmps62
  go_wp2_with (at_builtin; refine wpList_app rfl _ _ 25 rfl w.heap.size 35 i0 _ 3 32 Try.underlying25 hi hz0 hz1 hz2 rfl (by omega) G3.cells_len g3_one _ ([] : List G3) es rfl (own_new_empty w w.heap.size _ 3 G3.cells (Nat.le_refl _)) w.heap.size A n c rfl (h.below (below_al (Below.refl _ _) _)) (by simp) (by omega) (by omega) (by simp) ?_; intro v2 w2 ho2 hg2; have hb2 := own_grown (below_al (Below.refl _ _) _) (own_new_empty w w.heap.size _ 3 G3.cells (Nat.le_refl _)) (Nat.le_refl _) (by simp) hg2)
  go_ret
  exact ⟨_, rfl, by simpa using ho2, hb2⟩

end Go.Proofs.Ythjdodamfinhaaa

/- Walks over functions of this seat, by contract. Conditions: those that each theorem states. -/
import Derived.Test.YtgbblcbpmpokdaaV0
import Derived.Test.YtgbblcbpmpokdaaPa
import Derived.Test.YtgbblcbpmpokdaaD3
namespace Go.Proofs.Ytgbblcbpmpokdaa
open Go.RowKit Go.Sort

section
variable {p : Q4 → Bool} {es : List Q4}
theorem fi_at {k : Nat} {e : Q4} (h : ∀ j x, j < k → es[j]? = some x → p x = false) (he : es[k]? = some e) (hp : p e = true) : es.findIdx p = k := by
  obtain ⟨hk, hx⟩ := List.getElem?_eq_some_iff.1 he
  rw [List.findIdx_eq hk]
  exact ⟨by rw [hx]; exact hp, fun j hj => h j _ hj (List.getElem?_eq_getElem _)⟩
theorem fi_none (h : ∀ (j : Nat) x, es[j]? = some x → p x = false) : es.findIdx p = es.length := by
  rw [List.findIdx_eq_length]
  intro x hx
  obtain ⟨k, hk, rfl⟩ := List.mem_iff_getElem.1 hx
  exact h k _ (List.getElem?_eq_getElem hk)
theorem fi_get (h : es.findIdx p < es.length) : ∃ e, es[es.findIdx p]? = some e ∧ p e = true :=
  ⟨es[es.findIdx p], List.getElem?_eq_getElem h, List.findIdx_getElem⟩
theorem fi_lt {j : Nat} {x : Q4} (hj : j < es.findIdx p) (hx : es[j]? = some x) : p x = false := by
  obtain ⟨hk, rfl⟩ := List.getElem?_eq_some_iff.1 hx
  simpa using List.not_of_lt_findIdx hj
end
def idIs (id : Int) (q : Q4) : Bool := q.a == id
def idGe (id : Int) (q : Q4) : Bool := decide (id ≤ q.a)
/-- the place of an id, the length where it is not there -/
def fnd (es : List Q4) (id : Int) : Nat := es.findIdx (idIs id)
def fndR (es : List Q4) (id : Int) : Int := if fnd es id < es.length then fnd es id else -1
/-- the first place that is not below an id -/
def pat (es : List Q4) (id : Int) : Nat := es.findIdx (idGe id)
def thr (es : List Q4) (id : Int) : Bool := (es[pat es id]?).any (idIs id)
theorem fnd_le (es : List Q4) (id : Int) : fnd es id ≤ es.length := List.findIdx_le_length
theorem pat_le (es : List Q4) (id : Int) : pat es id ≤ es.length := List.findIdx_le_length
/-- the ids rise -/
def rising (es : List Q4) : Prop := ∀ (i j : Nat) x y, i < j → es[i]? = some x → es[j]? = some y → x.a < y.a
theorem rising_of {es : List Q4} (h : ∀ (k : Nat) e e', es[k]? = some e → es[k+1]? = some e' → e.a < e'.a) : rising es := by
  intro i j
  induction j with
  | zero => intro x y hij; omega
  | succ j ih =>
    intro x y hij hx hy
    have hj : j < es.length := by have := (List.getElem?_eq_some_iff.1 hy).1; omega
    have h1 := h j _ y (List.getElem?_eq_getElem hj) hy
    rcases Nat.lt_or_ge i j with h2 | h2
    · have := ih x _ h2 hx (List.getElem?_eq_getElem hj); omega
    · have : i = j := by omega
      subst this
      rw [List.getElem?_eq_getElem hj] at hx; injection hx with hx; subst hx; exact h1
theorem thr_fnd {es : List Q4} {id : Int} (h : rising es) : thr es id = decide (fnd es id < es.length) := by
  by_cases hf : fnd es id < es.length
  · obtain ⟨e, he, hp⟩ := fi_get hf
    have hid : e.a = id := by simpa [idIs] using hp
    have : pat es id = fnd es id := fi_at (fun j x hj hx => by
      have := h j _ x e hj hx he
      simp [idGe]; omega) he (by simp [idGe, hid])
    rw [thr, this]
    have he' : es[fnd es id]? = some e := he
    rw [he']; simp [hp, hf]
  · have hn : ∀ (j : Nat) x, es[j]? = some x → idIs id x = false := fun j x hx => fi_lt (p := idIs id) (by
      have := (List.getElem?_eq_some_iff.1 hx).1
      have e1 : es.findIdx (idIs id) = fnd es id := rfl
      omega) hx
    have : thr es id = false := by
      unfold thr
      cases hx : es[pat es id]? with
      | none => rfl
      | some e => exact hn _ e hx
    rw [this]; simp [hf]
theorem pat_fnd {es : List Q4} {id : Int} (h : rising es) (hf : fnd es id < es.length) : pat es id = fnd es id := by
  obtain ⟨e, he, hp⟩ := fi_get hf
  have hid : e.a = id := by simpa [idIs] using hp
  exact fi_at (fun j x hj hx => by
    have := h j _ x e hj hx he
    simp [idGe]; omega) he (by simp [idGe, hid])
set_option maxHeartbeats 400000 in
theorem impl_all_int64 (g : Nat) (p : Int → Bool) (A : Option Addr) (n c : Nat) (xs : List Int) (w : World) (hmax : n ≤ 1048576) (hcall : ∀ args W, (callFunc g args).run Try.prog W = .ok (.enter g args) W)
    (hso : ∀ (x : Int) (W : World), Calls Try.prog g #[.int .i64 x] W fun e w' => e = .returned (.bool (p x)) ∧ W = w') (h : Sl w w.heap.size 1 icell A n xs) :
    Calls Try.prog 65 #[.slice A n c, .func (.func g) #[] #[]] w fun e w' => e = .returned (.bool (xs.all p)) ∧ Below w.heap.size w w' := by
  have Hn := Lib.hid h.len
  have HSO := Lib.hid hso
  clear hso
  go_enter Try.func65, Try.ntmps65
  go_wp2
  go_loopw [9] (fun i wr => ∃ k : Nat, k ≤ n ∧ i = .int .i64 k ∧ Hid (∀ j e, j < k → xs[j]? = some e → p e = true) ∧ Below w.heap.size w wr) (fun i _ => n - (intOf i).toNat)
  case atStart => exact ⟨0, by omega, rfl, Lib.hid (fun j e hj => by omega), Below.refl _ _⟩
  case round =>
    obtain ⟨k, hk, rfl, Hgood, hbel⟩ := hrel
    by_cases hlt : k < n
    · obtain ⟨b, off, rfl, hb, H⟩ := h.at_ (by omega)
      obtain ⟨e, he⟩ := h.get hlt
      have c0 := (H.below hbel hb).i1 he
      have He := Lib.hid he
      clear he
      go_wp2_with (refine (HSO.out e _).mono ?_; rintro e' w' ⟨rfl, rfl⟩)
      · have hne : (!p e) = true := by assumption
        go_ret
        exact ⟨ret_bool (by rw [all_no He.out (by simpa using hne)]), by first | exact hbel | exact below_al hbel _⟩
      · have heq : (!p e) = false := by assumption
        go_roundw
        case rel => exact ⟨k + 1, by omega, by go_num, Lib.hid (fun j x hj hx => if h1 : j < k then Hgood.out j x h1 hx else by
          have : j = k := by omega
          subst this; rw [He.out] at hx; injection hx with hx; subst hx; simpa using heq), by first | exact hbel | exact below_al hbel _⟩
        case measure => simp [intOf]; omega
    · go_wp2
      go_ret
      have hkn : k = n := by omega
      subst hkn
      exact ⟨ret_bool (by symm; rw [all_iff_get]; exact fun j x hx => Hgood.out j x (by rw [← Hn.out]; exact (List.getElem?_eq_some_iff.1 hx).1) hx), hbel⟩
theorem isum_bd {B : Int} {xs : List Int} (h : ∀ x ∈ xs, 0 ≤ x ∧ x ≤ B) (k : Nat) : 0 ≤ isum (xs.take k) ∧ isum (xs.take k) ≤ (xs.take k).length * B := sumBy_bound h k
theorem isum_succ {xs : List Int} {k : Nat} {x : Int} (h : xs[k]? = some x) : isum (xs.take (k + 1)) = isum (xs.take k) + x := sumBy_succ h
theorem firstMax_one {xs : List Int} {x : Int} (h : xs[0]? = some x) : firstMax xs 1 0 :=
  ⟨by omega, x, h, fun j y hj hy => by have : j = 0 := by omega
                                       subst this; rw [h] at hy; injection hy with hy; omega, fun j y hj => by omega⟩
theorem firstMax_up {xs : List Int} {k p : Nat} {x y : Int} (h : firstMax xs k p) (hp : xs[p]? = some y) (hk : xs[k]? = some x) (hlt : y < x) : firstMax xs (k + 1) k := by
  obtain ⟨hpk, m, hm, h1, h2⟩ := h
  rw [hp] at hm; injection hm with hm; subst hm
  refine ⟨by omega, x, hk, fun j z hj hz => ?_, fun j z hj hz => ?_⟩
  · rcases Nat.lt_or_ge j k with h3 | h3
    · have := h1 j z h3 hz; omega
    · have : j = k := by omega
      subst this; rw [hk] at hz; injection hz with hz; omega
  · have := h1 j z hj hz; omega
theorem firstMax_no {xs : List Int} {k p : Nat} {x y : Int} (h : firstMax xs k p) (hp : xs[p]? = some y) (hk : xs[k]? = some x) (hle : x ≤ y) : firstMax xs (k + 1) p := by
  obtain ⟨hpk, m, hm, h1, h2⟩ := h
  rw [hp] at hm; injection hm with hm; subst hm
  refine ⟨by omega, y, hp, fun j z hj hz => ?_, h2⟩
  rcases Nat.lt_or_ge j k with h3 | h3
  · exact h1 j z h3 hz
  · have : j = k := by omega
    subst this; rw [hk] at hz; injection hz with hz; omega
set_option maxHeartbeats 400000 in
theorem impl_sum (A : Option Addr) (n c : Nat) (xs : List Int) (w : World) (hmax : n ≤ 1000) (hb : ∀ x ∈ xs, 0 ≤ x ∧ x ≤ 1000000000) (h : Sl w w.heap.size 1 icell A n xs) :
    Calls Try.prog 68 #[.slice A n c] w fun e w' => e = .returned (.int .i64 (isum xs)) ∧ w = w' := by
  have Hn := Lib.hid h.len
  have Hb := Lib.hid hb
  clear hb
  go_enter Try.func68, Try.ntmps68
  go_wp2
  go_loopw [3, 8] (fun t i wr => ∃ (k : Nat) (u : Int), k ≤ n ∧ i = .int .i64 k ∧ t = .int .i64 u ∧ Hid (isum (xs.take k) = u) ∧ w = wr) (fun _ i _ => n - (intOf i).toNat)
  case atStart => exact ⟨0, 0, by omega, rfl, rfl, Lib.hid rfl, rfl⟩
  case round =>
    obtain ⟨k, u, hk, rfl, rfl, Hu, rfl⟩ := hrel
    by_cases hlt : k < n
    · obtain ⟨b, off, rfl, hb, H⟩ := h.at_ (by omega)
      obtain ⟨x, hx⟩ := h.get hlt
      have c0 := H.i1 hx
      obtain ⟨x0, x1⟩ := Hb.out x (List.mem_of_getElem? hx)
      have hu := isum_bd Hb.out k
      rw [Hu.out, List.length_take, Hn.out] at hu
      have hl : ((min k n : Nat) : Int) ≤ 1000 := by omega
      obtain ⟨u0, u1⟩ : 0 ≤ u ∧ u ≤ 1000000000000 := by omega
      have Hx := Lib.hid hx
      clear hx hu hl
      go_wp2_with fail
      go_roundw
      case rel => exact ⟨k + 1, u + x, by omega, by go_num, rfl, Lib.hid (by rw [isum_succ Hx.out, Hu.out]), by first | exact trivial | exact rfl⟩
      case measure => simp [intOf]; omega
    · go_wp2
      go_ret
      have hkn : k = n := by omega
      subst hkn
      exact ⟨ret_int (by rw [← Hu.out, List.take_of_length_le (by rw [Hn.out]; exact Nat.le_refl _)]), rfl⟩
set_option maxHeartbeats 400000 in
theorem spec_l02Sum (A : Option Addr) (n c : Nat) (xs : List Int) (w : World) (hmax : n ≤ 1000) (hb : ∀ x ∈ xs, 0 ≤ x ∧ x ≤ 1000000000) (h : Sl w w.heap.size 1 icell A n xs) :
    Calls Try.prog 62 #[.slice A n c] w fun e w' => e = .returned (.int .i64 (isum xs)) ∧ w = w' := by
  have Hn := Lib.hid h.len
  have Hb := Lib.hid hb
  clear hb
  go_enter Try.func62, Try.ntmps62
  go_wp2
  go_loopw [3, 4] (fun t i wr => ∃ (k : Nat) (u : Int), k ≤ n ∧ i = .int .i64 k ∧ t = .int .i64 u ∧ Hid (isum (xs.take k) = u) ∧ w = wr) (fun _ i _ => n - (intOf i).toNat)
  case atStart => exact ⟨0, 0, by omega, rfl, rfl, Lib.hid rfl, rfl⟩
  case round =>
    obtain ⟨k, u, hk, rfl, rfl, Hu, rfl⟩ := hrel
    by_cases hlt : k < n
    · obtain ⟨b, off, rfl, hb, H⟩ := h.at_ (by omega)
      obtain ⟨x, hx⟩ := h.get hlt
      have c0 := H.i1 hx
      obtain ⟨x0, x1⟩ := Hb.out x (List.mem_of_getElem? hx)
      have hu := isum_bd Hb.out k
      rw [Hu.out, List.length_take, Hn.out] at hu
      have hl : ((min k n : Nat) : Int) ≤ 1000 := by omega
      obtain ⟨u0, u1⟩ : 0 ≤ u ∧ u ≤ 1000000000000 := by omega
      have Hx := Lib.hid hx
      clear hx hu hl
      go_wp2_with fail
      go_roundw
      case rel => exact ⟨k + 1, u + x, by omega, by go_num, rfl, Lib.hid (by rw [isum_succ Hx.out, Hu.out]), by first | exact trivial | exact rfl⟩
      case measure => simp [intOf]; omega
    · go_wp2
      go_ret
      have hkn : k = n := by omega
      subst hkn
      exact ⟨ret_int (by rw [← Hu.out, List.take_of_length_le (by rw [Hn.out]; exact Nat.le_refl _)]), rfl⟩
def facOk (fs : List Int) : Bool := fs.all (fun x => inR x 0 10) && decide (fs.length = 4)
theorem facOk_iff {fs : List Int} : facOk fs = true ↔ (∀ x ∈ fs, 0 ≤ x ∧ x ≤ 10) ∧ fs.length = 4 := by
  simp [facOk, inR_iff]
set_option maxHeartbeats 400000 in
theorem spec_l20Factors (A : Option Addr) (n c : Nat) (xs : List Int) (w : World) (hmax : n ≤ 1048576) (h : Sl w w.heap.size 1 icell A n xs) :
    Calls Try.prog 61 #[.slice A n c] w fun e w' => e = .returned (.bool (facOk xs)) ∧ w = w' := by
  have Hn := Lib.hid h.len
  go_enter Try.func61, Try.ntmps61
  go_wp2
  go_loopw [3] (fun i wr => ∃ (k : Nat), k ≤ n ∧ i = .int .i64 k ∧ Hid (∀ j e, j < k → xs[j]? = some e → inR e 0 10 = true) ∧ w = wr) (fun i _ => n - (intOf i).toNat)
  case atStart => exact ⟨0, by omega, rfl, Lib.hid (fun j e hj => by omega), rfl⟩
  case round =>
    obtain ⟨k, hk, rfl, Hg, rfl⟩ := hrel
    by_cases hlt : k < n
    · obtain ⟨b, off, rfl, hb, H⟩ := h.at_ (by omega)
      obtain ⟨x, hx⟩ := h.get hlt
      have c0 := H.i1 hx
      have Hx := Lib.hid hx
      clear hx
      rcases Bool.eq_false_or_eq_true (inR x 0 10) with g | g
      · go_wp2_with (go_at_call 38; refine (spec_l00In _ _ _ _).mono ?_; rintro e w' ⟨rfl, rfl⟩; rw [g])
        go_roundw
        case rel => exact ⟨k + 1, by omega, by go_num, Lib.hid (fun j z hj hz => if h1 : j < k then Hg.out j z h1 hz else by
          have : j = k := by omega
          subst this; rw [Hx.out] at hz; injection hz with hz; subst hz; exact g), by first | exact trivial | exact rfl⟩
        case measure => simp [intOf]; omega
      · go_wp2_with (go_at_call 38; refine (spec_l00In _ _ _ _).mono ?_; rintro e w' ⟨rfl, rfl⟩; rw [g])
        go_ret
        exact ⟨ret_bool (by rw [facOk, all_no Hx.out g]; rfl), rfl⟩
    · have hkn : k = n := by omega
      subst hkn
      have hall : xs.all (fun x => inR x 0 10) = true := by
        rw [all_iff_get]
        exact fun j x hx => Hg.out j x (by rw [← Hn.out]; exact (List.getElem?_eq_some_iff.1 hx).1) hx
      have Hall := Lib.hid hall
      clear hall
      by_cases h4 : k = 4
      · have h4' : ((k : Int) == 4) = true := by simp [h4]
        have H4 := Lib.hid h4
        clear h4
        go_wp2_with fail
        go_ret
        exact ⟨ret_bool (by rw [facOk, Hall.out, Hn.out]; simp [H4.out]), rfl⟩
      · have h4' : ((k : Int) == 4) = false := by simp; omega
        have H4 := Lib.hid h4
        clear h4
        go_wp2_with fail
        go_ret
        exact ⟨ret_bool (by rw [facOk, Hall.out, Hn.out]; simp [H4.out]), rfl⟩
theorem impl_duesCode_1 (x : Int) (w : World) : Calls Try.prog 66 #[.int .i64 x] w fun e w' => e = .returned (.bool (inR x 0 10)) ∧ w = w' := by
  go_enter Try.func66, Try.ntmps66
  go_wp2_with (go_at_call 56; refine (impl_in _ _ _ _).mono ?_; rintro e w' ⟨rfl, rfl⟩)
  go_ret
  exact ⟨rfl, rfl⟩
def fW (fs : List Int) (q : Q4) : Int := q.c * (fs[q.d.toNat]?).getD 0
def wOf (fs : List Int) (es : List Q4) : List Int := es.map (fW fs)
theorem wOf_len (fs : List Int) (es : List Q4) : (wOf fs es).length = es.length := by simp [wOf]
theorem wOf_succ {fs : List Int} {es : List Q4} {k : Nat} {e : Q4} (he : es[k]? = some e) : wOf fs (es.take (k + 1)) = wOf fs (es.take k) ++ [fW fs e] := by
  obtain ⟨hk, hx⟩ := List.getElem?_eq_some_iff.1 he
  rw [List.take_succ_eq_append_getElem hk, wOf, List.map_append, hx]; rfl
theorem fW_bd {fs : List Int} {q : Q4} (hq : parcelOk q = true) (hf : ∀ x ∈ fs, 0 ≤ x ∧ x ≤ 10) : 0 ≤ fW fs q ∧ fW fs q ≤ 100000000 := by
  obtain ⟨_, _, ⟨c1, c2⟩, _⟩ := parcelOk_iff.1 hq
  have hg : 0 ≤ (fs[q.d.toNat]?).getD 0 ∧ (fs[q.d.toNat]?).getD 0 ≤ 10 := by
    cases h : fs[q.d.toNat]? with
    | none => simp
    | some x => exact hf x (List.mem_of_getElem? h)
  unfold fW
  generalize (fs[q.d.toNat]?).getD 0 = z at hg
  constructor
  · exact Int.mul_nonneg (by omega) hg.1
  · have := Int.mul_le_mul (a := q.c) (b := z) (c := 10000000) (d := 10) c2 hg.2 hg.1 (by omega)
    omega
theorem wOf_bd {fs : List Int} {es : List Q4} (he : parcelsOk es = true) (hf : ∀ x ∈ fs, 0 ≤ x ∧ x ≤ 10) : ∀ x ∈ wOf fs es, 0 ≤ x ∧ x ≤ 100000000 := fun x hx => by
  obtain ⟨q, hq, rfl⟩ := List.mem_map.1 hx
  exact fW_bd ((parcels_all he).2 q hq) hf

end Go.Proofs.Ytgbblcbpmpokdaa

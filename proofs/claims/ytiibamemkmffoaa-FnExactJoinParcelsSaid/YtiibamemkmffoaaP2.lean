/- Walks over functions of this seat, by contract. Conditions: those that each theorem states. -/
import Derived.Test.YtiibamemkmffoaaPa
import Derived.Test.YtiibamemkmffoaaApp
namespace Go.Proofs.Ytiibamemkmffoaa
open Go.RowKit Go.Sort

section
variable {p : Q4 → Bool} {es : List Q4}
theorem fi_at {k : Nat} {e : Q4} (h : ∀ j x, j < k → es[j]? = some x → p x = false) (he : es[k]? = some e) (hp : p e = true) : es.findIdx p = k := by
  obtain ⟨hk, hx⟩ := List.getElem?_eq_some_iff.1 he
  rw [List.findIdx_eq hk]
  exact ⟨by rw [hx]; exact hp, fun j hj => h j _ hj (List.getElem?_eq_getElem _)⟩
theorem fi_none (h : ∀ (j : Nat) x, es[j]? = some x → p x = false) : es.findIdx p = es.length := by
  rw [List.findIdx_eq_length]
  intro x hx
  obtain ⟨k, hk, rfl⟩ := List.mem_iff_getElem.1 hx
  exact h k _ (List.getElem?_eq_getElem hk)
theorem fi_get (h : es.findIdx p < es.length) : ∃ e, es[es.findIdx p]? = some e ∧ p e = true :=
  ⟨es[es.findIdx p], List.getElem?_eq_getElem h, List.findIdx_getElem⟩
theorem fi_lt {j : Nat} {x : Q4} (hj : j < es.findIdx p) (hx : es[j]? = some x) : p x = false := by
  obtain ⟨hk, rfl⟩ := List.getElem?_eq_some_iff.1 hx
  simpa using List.not_of_lt_findIdx hj
end
def idIs (id : Int) (q : Q4) : Bool := q.a == id
def idGe (id : Int) (q : Q4) : Bool := decide (id ≤ q.a)
/-- the place of an id, the length where it is not there -/
def fnd (es : List Q4) (id : Int) : Nat := es.findIdx (idIs id)
def fndR (es : List Q4) (id : Int) : Int := if fnd es id < es.length then fnd es id else -1
/-- the first place that is not below an id -/
def pat (es : List Q4) (id : Int) : Nat := es.findIdx (idGe id)
def thr (es : List Q4) (id : Int) : Bool := (es[pat es id]?).any (idIs id)
theorem fnd_le (es : List Q4) (id : Int) : fnd es id ≤ es.length := List.findIdx_le_length
theorem pat_le (es : List Q4) (id : Int) : pat es id ≤ es.length := List.findIdx_le_length
/-- the ids rise -/
def rising (es : List Q4) : Prop := ∀ (i j : Nat) x y, i < j → es[i]? = some x → es[j]? = some y → x.a < y.a
theorem rising_of {es : List Q4} (h : ∀ (k : Nat) e e', es[k]? = some e → es[k+1]? = some e' → e.a < e'.a) : rising es := by
  intro i j
  induction j with
  | zero => intro x y hij; omega
  | succ j ih =>
    intro x y hij hx hy
    have hj : j < es.length := by have := (List.getElem?_eq_some_iff.1 hy).1; omega
    have h1 := h j _ y (List.getElem?_eq_getElem hj) hy
    rcases Nat.lt_or_ge i j with h2 | h2
    · have := ih x _ h2 hx (List.getElem?_eq_getElem hj); omega
    · have : i = j := by omega
      subst this
      rw [List.getElem?_eq_getElem hj] at hx; injection hx with hx; subst hx; exact h1
theorem thr_fnd {es : List Q4} {id : Int} (h : rising es) : thr es id = decide (fnd es id < es.length) := by
  by_cases hf : fnd es id < es.length
  · obtain ⟨e, he, hp⟩ := fi_get hf
    have hid : e.a = id := by simpa [idIs] using hp
    have : pat es id = fnd es id := fi_at (fun j x hj hx => by
      have := h j _ x e hj hx he
      simp [idGe]; omega) he (by simp [idGe, hid])
    rw [thr, this]
    have he' : es[fnd es id]? = some e := he
    rw [he']; simp [hp, hf]
  · have hn : ∀ (j : Nat) x, es[j]? = some x → idIs id x = false := fun j x hx => fi_lt (p := idIs id) (by
      have := (List.getElem?_eq_some_iff.1 hx).1
      have e1 : es.findIdx (idIs id) = fnd es id := rfl
      omega) hx
    have : thr es id = false := by
      unfold thr
      cases hx : es[pat es id]? with
      | none => rfl
      | some e => exact hn _ e hx
    rw [this]; simp [hf]
theorem pat_fnd {es : List Q4} {id : Int} (h : rising es) (hf : fnd es id < es.length) : pat es id = fnd es id := by
  obtain ⟨e, he, hp⟩ := fi_get hf
  have hid : e.a = id := by simpa [idIs] using hp
  exact fi_at (fun j x hj hx => by
    have := h j _ x e hj hx he
    simp [idGe]; omega) he (by simp [idGe, hid])
set_option maxHeartbeats 400000 in
theorem spec_l19Find (A : Option Addr) (n c : Nat) (es : List Q4) (id : Int) (w : World) (hmax : n ≤ 1048576) (h : Sl w w.heap.size 4 Q4.cells A n es) :
    Calls Try.prog 61 #[.slice A n c, .int .i64 id] w fun e w' => e = .returned (.int .i64 (fndR es id)) ∧ Below w.heap.size w w' := by
  have Hn := Lib.hid h.len
  go_enter Try.func61, Try.ntmps61
  go_wp2
  go_loopw [5] (fun i wr => ∃ k : Nat, k ≤ n ∧ i = .int .i64 k ∧ Hid (∀ j e, j < k → es[j]? = some e → idIs id e = false) ∧ Below w.heap.size w wr) (fun i _ => n - (intOf i).toNat)
  case atStart => exact ⟨0, by omega, rfl, Lib.hid (fun j e hj => by omega), Below.refl _ _⟩
  case round =>
    obtain ⟨k, hk, rfl, Hgood, hbel⟩ := hrel
    by_cases hlt : k < n
    · obtain ⟨b, off, rfl, hb, H⟩ := h.at_ (by omega)
      obtain ⟨e, he⟩ := h.get hlt
      obtain ⟨c0, _, _, _⟩ := (H.below hbel hb).q4 he
      have He := Lib.hid he
      clear he
      go_wp2
      · have hq : (e.a == id) = true := by assumption
        go_ret
        have hf : fnd es id = k := fi_at Hgood.out He.out hq
        have hkl : k < es.length := (List.getElem?_eq_some_iff.1 He.out).1
        exact ⟨ret_int (by rw [fndR, hf, if_pos hkl]), hbel⟩
      · have hq : (e.a == id) = false := by assumption
        go_roundw
        case rel => exact ⟨k + 1, by omega, by go_num, Lib.hid (fun j x hj hx => by
            rcases Nat.lt_or_ge j k with h1 | h1
            · exact Hgood.out j x h1 hx
            · have : j = k := by omega
              subst this; rw [He.out] at hx; injection hx with hx; subst hx; exact hq), hbel⟩
        case measure => simp [intOf]; omega
    · go_wp2
      go_ret
      have hf : fnd es id = es.length := fi_none fun j x hx => Hgood.out j x (by have := (List.getElem?_eq_some_iff.1 hx).1; have := Hn.out; omega) hx
      exact ⟨ret_int (by rw [fndR, hf, if_neg (by omega)]), hbel⟩
set_option maxHeartbeats 400000 in
theorem impl_parcelAt (A : Option Addr) (n c : Nat) (es : List Q4) (id : Int) (w : World) (hmax : n ≤ 1048576) (h : Sl w w.heap.size 4 Q4.cells A n es) :
    Calls Try.prog 55 #[.slice A n c, .int .i64 id] w fun e w' => e = .returned (.tuple #[.int .i64 (pat es id), .bool (thr es id)]) ∧ Below w.heap.size w w' := by
  have Hn := Lib.hid h.len
  go_enter Try.func55, Try.ntmps55
  go_wp2
  go_loopw [6] (fun i wr => ∃ k : Nat, k ≤ n ∧ i = .int .i64 k ∧ Hid (∀ j e, j < k → es[j]? = some e → idGe id e = false) ∧ Below w.heap.size w wr) (fun i _ => n - (intOf i).toNat)
  case atStart => exact ⟨0, by omega, rfl, Lib.hid (fun j e hj => by omega), Below.refl _ _⟩
  case round =>
    obtain ⟨k, hk, rfl, Hgood, hbel⟩ := hrel
    by_cases hlt : k < n
    · obtain ⟨b, off, rfl, hb, H⟩ := h.at_ (by omega)
      obtain ⟨e, he⟩ := h.get hlt
      obtain ⟨c0, _, _, _⟩ := (H.below hbel hb).q4 he
      obtain ⟨d0, _, _, _⟩ := (H.below hbel hb).q4c (Nat.lt_of_lt_of_le hb hbel.size) he
      have He := Lib.hid he
      clear he
      go_wp2
      · have hq : e.a < id := by first | assumption | omega
        go_roundw
        case rel => exact ⟨k + 1, by omega, by go_num, Lib.hid (fun j x hj hx => by
            rcases Nat.lt_or_ge j k with h1 | h1
            · exact Hgood.out j x h1 hx
            · have : j = k := by omega
              subst this; rw [He.out] at hx; injection hx with hx; subst hx; simp [idGe]; omega), hbel⟩
        case measure => simp [intOf]; omega
      · have hq : id ≤ e.a := by first | assumption | omega
        refine wp_region_quiet_below (by kernel_rfl) (by kernel_rfl) ?_
        repeat (go_big_quiet_step (fail))
        refine wpQuiet_nil ?_
        intro wq hwq
        have hbq := below_then hbel (below_of_class hwq)
        clear hwq
        go_wp2
        go_ret2
        have hf : pat es id = k := fi_at Hgood.out He.out (by simp [idGe, hq])
        refine ⟨?_, hbq⟩
        rw [thr, hf, He.out]
        rfl
    · go_wp2
      refine wp_region_quiet_below (by kernel_rfl) (by kernel_rfl) ?_
      repeat (go_big_quiet_step (fail))
      refine wpQuiet_nil ?_
      intro wq hwq
      have hbq := below_then hbel (below_of_class hwq)
      clear hwq
      go_wp2
      go_ret2
      have hf : pat es id = es.length := fi_none fun j x hx => Hgood.out j x (by have := (List.getElem?_eq_some_iff.1 hx).1; have := Hn.out; omega) hx
      have hkn : k = es.length := by have := Hn.out; omega
      refine ⟨?_, hbq⟩
      rw [thr, hf, List.getElem?_eq_none (Nat.le_refl _), hkn]
      rfl
set_option maxHeartbeats 400000 in
theorem impl_all_int64 (g : Nat) (p : Int → Bool) (A : Option Addr) (n c : Nat) (xs : List Int) (w : World) (hmax : n ≤ 1048576) (hcall : ∀ args W, (callFunc g args).run Try.prog W = .ok (.enter g args) W)
    (hso : ∀ (x : Int) (W : World), Calls Try.prog g #[.int .i64 x] W fun e w' => e = .returned (.bool (p x)) ∧ W = w') (h : Sl w w.heap.size 1 icell A n xs) :
    Calls Try.prog 70 #[.slice A n c, .func (.func g) #[] #[]] w fun e w' => e = .returned (.bool (xs.all p)) ∧ Below w.heap.size w w' := by
  have Hn := Lib.hid h.len
  have HSO := Lib.hid hso
  clear hso
  go_enter Try.func70, Try.ntmps70
  go_wp2
  go_loopw [9] (fun i wr => ∃ k : Nat, k ≤ n ∧ i = .int .i64 k ∧ Hid (∀ j e, j < k → xs[j]? = some e → p e = true) ∧ Below w.heap.size w wr) (fun i _ => n - (intOf i).toNat)
  case atStart => exact ⟨0, by omega, rfl, Lib.hid (fun j e hj => by omega), Below.refl _ _⟩
  case round =>
    obtain ⟨k, hk, rfl, Hgood, hbel⟩ := hrel
    by_cases hlt : k < n
    · obtain ⟨b, off, rfl, hb, H⟩ := h.at_ (by omega)
      obtain ⟨e, he⟩ := h.get hlt
      have c0 := (H.below hbel hb).i1 he
      have He := Lib.hid he
      clear he
      go_wp2_with (refine (HSO.out e _).mono ?_; rintro e' w' ⟨rfl, rfl⟩)
      · have hne : (!p e) = true := by assumption
        go_ret
        exact ⟨ret_bool (by rw [all_no He.out (by simpa using hne)]), by first | exact hbel | exact below_al hbel _⟩
      · have heq : (!p e) = false := by assumption
        go_roundw
        case rel => exact ⟨k + 1, by omega, by go_num, Lib.hid (fun j x hj hx => if h1 : j < k then Hgood.out j x h1 hx else by
          have : j = k := by omega
          subst this; rw [He.out] at hx; injection hx with hx; subst hx; simpa using heq), by first | exact hbel | exact below_al hbel _⟩
        case measure => simp [intOf]; omega
    · go_wp2
      go_ret
      have hkn : k = n := by omega
      subst hkn
      exact ⟨ret_bool (by symm; rw [all_iff_get]; exact fun j x hx => Hgood.out j x (by rw [← Hn.out]; exact (List.getElem?_eq_some_iff.1 hx).1) hx), hbel⟩
theorem parcels_rise {es : List Q4} (h : parcelsOk es = true) : rising es :=
  rising_of fun k e e' he he' => by
    have := (okList_iff.1 (parcelsOk_iff.1 h).1).2 k e e' he he'
    simpa [idLt] using this
def idOk (x : Int) : Bool := inR x 1 9999
def idsCode (es : List Q4) (ids : List Int) : Int := if parcelsOk es = false then 1 else if ids.all idOk = false then 2 else 0
def oneCode (es : List Q4) (id : Int) : Int := if parcelsOk es = false then 1 else if idOk id = false then 2 else if fnd es id < es.length then 0 else 3
def oneAt (es : List Q4) (id : Int) : Int := if oneCode es id = 0 then fnd es id else 0
theorem sl_box1 (w : World) (x : Int) (E : Nat) : Sl (w.alloc (.cells #[.int .i64 x] E)) (w.heap.size + 1) 1 icell (some ⟨w.heap.size, 0, none⟩) 1 [x] :=
  ⟨rfl, fun _ => ⟨_, _, rfl, by omega, fun k e he j v hv => by
    have hk : k < [x].length := (List.getElem?_eq_some_iff.1 he).1
    have hk0 : k = 0 := by simpa using hk
    subst hk0
    have hj : j < (icell e).length := (List.getElem?_eq_some_iff.1 hv).1
    have hj0 : j = 0 := by simpa [icell] using hj
    subst hj0
    simp at he; subst he
    simp [icell] at hv; subst hv
    rw [cell_of_row _ _ _ _ _ (0, 0) (heap_alloc_new w _)]; rfl⟩⟩
theorem impl_parcelsCode (A : Option Addr) (n c : Nat) (es : List Q4) (A2 : Option Addr) (m c2 : Nat) (ids : List Int) (w : World) (hmax : n ≤ 1048576) (hmax2 : m ≤ 1048576) (h : Sl w w.heap.size 4 Q4.cells A n es) (h2 : Sl w w.heap.size 1 icell A2 m ids) :
    Calls Try.prog 51 #[.slice A n c, .slice A2 m c2] w fun e w' => e = .returned (.int .i64 (idsCode es ids)) ∧ Below w.heap.size w w' := by
  by_cases k1 : parcelsOk es = true
  · by_cases k2 : ids.all idOk = true
    · have hc : idsCode es ids = 0 := by simp [idsCode, k1, k2]
      rw [hc]
      go_enter Try.func51, Try.ntmps51
      go_wp2_with (first
        | (go_at_call 20; refine (impl_ValidParcels _ _ _ es _ hmax h).mono ?_; rintro e w1 ⟨rfl, hb1⟩; rw [k1])
        | (go_at_call 70; refine (impl_all_int64 68 idOk _ _ _ ids _ hmax2 (fun _ _ => by kernel_rfl) impl_isParcelId (h2.on hb1)).mono ?_; rintro e w2 ⟨rfl, hb2⟩; rw [k2]))
      go_ret
      exact ⟨rfl, below_then hb1 hb2⟩
    · have k2' : ids.all idOk = false := by simpa using k2
      have hc : idsCode es ids = 2 := by simp [idsCode, k1, k2']
      rw [hc]
      go_enter Try.func51, Try.ntmps51
      go_wp2_with (first
        | (go_at_call 20; refine (impl_ValidParcels _ _ _ es _ hmax h).mono ?_; rintro e w1 ⟨rfl, hb1⟩; rw [k1])
        | (go_at_call 70; refine (impl_all_int64 68 idOk _ _ _ ids _ hmax2 (fun _ _ => by kernel_rfl) impl_isParcelId (h2.on hb1)).mono ?_; rintro e w2 ⟨rfl, hb2⟩; rw [k2']))
      go_ret
      exact ⟨rfl, below_then hb1 hb2⟩
  · have k1' : parcelsOk es = false := by simpa using k1
    have hc : idsCode es ids = 1 := by simp [idsCode, k1']
    rw [hc]
    go_enter Try.func51, Try.ntmps51
    go_wp2_with (go_at_call 20; refine (impl_ValidParcels _ _ _ es _ hmax h).mono ?_; rintro e w1 ⟨rfl, hb1⟩; rw [k1'])
    go_ret
    exact ⟨rfl, hb1⟩
set_option maxHeartbeats 400000 in
theorem impl_ParcelWith (A : Option Addr) (n c : Nat) (es : List Q4) (id : Int) (w : World) (hmax : n ≤ 1048576) (h : Sl w w.heap.size 4 Q4.cells A n es) :
    Calls Try.prog 24 #[.slice A n c, .int .i64 id] w fun e w' => e = .returned (.tuple #[.int .i64 (oneAt es id), .int .i64 (oneCode es id)]) ∧ Below w.heap.size w w' := by
  have hal := below_al (Below.refl w.heap.size w) (.cells #[.int .i64 id] 2)
  have hsl := h.on hal
  have hids := (sl_box1 w id 2)
  by_cases k0 : idsCode es [id] = 0
  · have g : parcelsOk es = true ∧ idOk id = true := by
      revert k0; unfold idsCode; cases parcelsOk es <;> cases hx : idOk id <;> simp [hx]
    have hr := parcels_rise g.1
    have ht := thr_fnd (id := id) hr
    by_cases k1 : fnd es id < es.length
    · have hc : oneCode es id = 0 := by simp [oneCode, g.1, g.2, k1]
      have ha : oneAt es id = fnd es id := by simp [oneAt, hc]
      have hp := pat_fnd hr k1
      have ht' : thr es id = true := by rw [ht]; simp [k1]
      rw [hc, ha, ← hp]
      clear hc ha hp ht k1 hr g
      go_enter Try.func24, Try.ntmps24
      go_wp2_with (first
        | (go_at_call 51; refine (impl_parcelsCode _ _ _ es _ _ _ [id] _ hmax (by omega) hsl (by simpa using hids)).mono ?_; rintro e w1 ⟨rfl, hb1⟩; rw [k0])
        | (go_at_call 55; refine (impl_parcelAt _ _ _ es id _ hmax ((h.on hal).on hb1)).mono ?_; rintro e w2 ⟨rfl, hb2⟩; rw [ht']))
      go_ret2
      exact ⟨rfl, below_then (below_then hal hb1) hb2⟩
    · have hc : oneCode es id = 3 := by simp [oneCode, g.1, g.2, k1]
      have ha : oneAt es id = 0 := by simp [oneAt, hc]
      have ht' : thr es id = false := by rw [ht]; simp [k1]
      rw [hc, ha]
      clear hc ha ht k1 hr g
      go_enter Try.func24, Try.ntmps24
      go_wp2_with (first
        | (go_at_call 51; refine (impl_parcelsCode _ _ _ es _ _ _ [id] _ hmax (by omega) hsl (by simpa using hids)).mono ?_; rintro e w1 ⟨rfl, hb1⟩; rw [k0])
        | (go_at_call 55; refine (impl_parcelAt _ _ _ es id _ hmax ((h.on hal).on hb1)).mono ?_; rintro e w2 ⟨rfl, hb2⟩; rw [ht']))
      go_ret2
      exact ⟨rfl, below_then (below_then hal hb1) hb2⟩
  · have hc : oneCode es id = idsCode es [id] := by
      revert k0; unfold idsCode oneCode; cases parcelsOk es <;> cases hx : idOk id <;> simp [hx]
    have ha : oneAt es id = 0 := by simp [oneAt, hc, k0]
    have hne : (idsCode es [id] != 0) = true := by simpa using k0
    rw [hc, ha]
    clear hc ha
    go_enter Try.func24, Try.ntmps24
    go_wp2_with (go_at_call 51; refine (impl_parcelsCode _ _ _ es _ _ _ [id] _ hmax (by omega) hsl (by simpa using hids)).mono ?_; rintro e w1 ⟨rfl, hb1⟩)
    go_ret2
    exact ⟨rfl, below_then hal hb1⟩
theorem spec_l19Code (A : Option Addr) (n c : Nat) (es : List Q4) (id : Int) (w : World) (hmax : n ≤ 1048576) (h : Sl w w.heap.size 4 Q4.cells A n es) :
    Calls Try.prog 54 #[.slice A n c, .int .i64 id] w fun e w' => e = .returned (.tuple #[.int .i64 (oneAt es id), .int .i64 (oneCode es id)]) ∧ Below w.heap.size w w' := by
  by_cases k1 : parcelsOk es = true
  · by_cases k2 : idOk id = true
    · have k2' : inR id 1 9999 = true := k2
      by_cases k3 : fnd es id < es.length
      · have hc : oneCode es id = 0 := by simp [oneCode, k1, k2, k3]
        have ha : oneAt es id = fnd es id := by simp [oneAt, hc]
        have hf : fndR es id = fnd es id := by simp [fndR, k3]
        rw [hc, ha]
        go_enter Try.func54, Try.ntmps54
        go_wp2_with (first
          | (go_at_call 47; refine (spec_l19Ok _ _ _ es _ hmax h).mono ?_; rintro e w1 ⟨rfl, hb1⟩; rw [k1])
          | (go_at_call 60; refine (spec_l19Id _ _).mono ?_; rintro e w' ⟨rfl, rfl⟩; rw [k2'])
          | (go_at_call 61; refine (spec_l19Find _ _ _ es _ _ hmax (h.on hb1)).mono ?_; rintro e w2 ⟨rfl, hb2⟩; rw [hf]))
        go_ret2
        exact ⟨rfl, below_then hb1 hb2⟩
      · have hc : oneCode es id = 3 := by simp [oneCode, k1, k2, k3]
        have ha : oneAt es id = 0 := by simp [oneAt, hc]
        have hf : fndR es id = -1 := by simp [fndR, k3]
        rw [hc, ha]
        go_enter Try.func54, Try.ntmps54
        go_wp2_with (first
          | (go_at_call 47; refine (spec_l19Ok _ _ _ es _ hmax h).mono ?_; rintro e w1 ⟨rfl, hb1⟩; rw [k1])
          | (go_at_call 60; refine (spec_l19Id _ _).mono ?_; rintro e w' ⟨rfl, rfl⟩; rw [k2'])
          | (go_at_call 61; refine (spec_l19Find _ _ _ es _ _ hmax (h.on hb1)).mono ?_; rintro e w2 ⟨rfl, hb2⟩; rw [hf]))
        go_ret2
        exact ⟨rfl, below_then hb1 hb2⟩
    · have k2' : inR id 1 9999 = false := by simpa [idOk] using k2
      have hc : oneCode es id = 2 := by simp [oneCode, k1, k2]
      have ha : oneAt es id = 0 := by simp [oneAt, hc]
      rw [hc, ha]
      go_enter Try.func54, Try.ntmps54
      go_wp2_with (first
        | (go_at_call 47; refine (spec_l19Ok _ _ _ es _ hmax h).mono ?_; rintro e w1 ⟨rfl, hb1⟩; rw [k1])
        | (go_at_call 60; refine (spec_l19Id _ _).mono ?_; rintro e w' ⟨rfl, rfl⟩; rw [k2']))
      go_ret2
      exact ⟨rfl, hb1⟩
  · have k1' : parcelsOk es = false := by simpa using k1
    have hc : oneCode es id = 1 := by simp [oneCode, k1']
    have ha : oneAt es id = 0 := by simp [oneAt, hc]
    rw [hc, ha]
    go_enter Try.func54, Try.ntmps54
    go_wp2_with (go_at_call 47; refine (spec_l19Ok _ _ _ es _ hmax h).mono ?_; rintro e w1 ⟨rfl, hb1⟩; rw [k1'])
    go_ret2
    exact ⟨rfl, hb1⟩
theorem spec_ParcelWith (A : Option Addr) (n c : Nat) (es : List Q4) (id : Int) (w : World) (hmax : n ≤ 1048576) (h : Sl w w.heap.size 4 Q4.cells A n es) :
    Calls Try.prog 23 #[.slice A n c, .int .i64 id] w fun e w' => e = .returned (.tuple #[.int .i64 (oneAt es id), .int .i64 (oneCode es id)]) ∧ Below w.heap.size w w' := by
  have hbd : oneAt es id ≤ 1048576 ∧ 0 ≤ oneAt es id := by
    have := fnd_le es id; have := h.len; unfold oneAt; split <;> omega
  obtain ⟨hb1, hb2⟩ := hbd
  go_enter Try.func23, Try.ntmps23
  go_wp2_with (go_at_call 54; refine (spec_l19Code _ _ _ es _ _ hmax h).mono ?_; rintro e w1 ⟨rfl, hb⟩)
  go_ret2
  exact ⟨rfl, hb⟩

end Go.Proofs.Ytiibamemkmffoaa

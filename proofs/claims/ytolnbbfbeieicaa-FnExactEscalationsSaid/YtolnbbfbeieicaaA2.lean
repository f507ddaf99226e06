/- Walks over functions of this seat, by contract. Conditions: those that each theorem states. -/
import Derived.Test.YtolnbbfbeieicaaA1
import Derived.Test.YtolnbbfbeieicaaApp
import Derived.IntWalk
namespace Go.Proofs.Ytolnbbfbeieicaa
open Go.RowKit Go.Sort

theorem impl_size_int64 (A : Option Addr) (n c : Nat) (w : World) (_hn : n ≤ 9223372036854775807) : Calls Try.prog 19 #[.slice A n c] w fun e w' => e = .returned (.int .i64 n) ∧ w = w' := by
  go_enter Try.func19, Try.ntmps19
  go_wp2
  go_ret
  exact ⟨rfl, rfl⟩
section
variable {p : Q4 → Bool} {es : List Q4}
theorem fi_at {k : Nat} {e : Q4} (h : ∀ j x, j < k → es[j]? = some x → p x = false) (he : es[k]? = some e) (hp : p e = true) : es.findIdx p = k := by
  obtain ⟨hk, hx⟩ := List.getElem?_eq_some_iff.1 he
  rw [List.findIdx_eq hk]
  exact ⟨by rw [hx]; exact hp, fun j hj => h j _ hj (List.getElem?_eq_getElem _)⟩
theorem fi_none (h : ∀ (j : Nat) x, es[j]? = some x → p x = false) : es.findIdx p = es.length := by
  rw [List.findIdx_eq_length]
  intro x hx
  obtain ⟨k, hk, rfl⟩ := List.mem_iff_getElem.1 hx
  exact h k _ (List.getElem?_eq_getElem hk)
theorem fi_get (h : es.findIdx p < es.length) : ∃ e, es[es.findIdx p]? = some e ∧ p e = true :=
  ⟨es[es.findIdx p], List.getElem?_eq_getElem h, List.findIdx_getElem⟩
theorem fi_lt {j : Nat} {x : Q4} (hj : j < es.findIdx p) (hx : es[j]? = some x) : p x = false := by
  obtain ⟨hk, rfl⟩ := List.getElem?_eq_some_iff.1 hx
  simpa using List.not_of_lt_findIdx hj
end
def idIs (id : Int) (q : Q4) : Bool := q.a == id
def idGe (id : Int) (q : Q4) : Bool := decide (id ≤ q.a)
/-- the place of an id, the length where it is not there -/
def fnd (es : List Q4) (id : Int) : Nat := es.findIdx (idIs id)
def fndR (es : List Q4) (id : Int) : Int := if fnd es id < es.length then fnd es id else -1
/-- the first place that is not below an id -/
def pat (es : List Q4) (id : Int) : Nat := es.findIdx (idGe id)
def thr (es : List Q4) (id : Int) : Bool := (es[pat es id]?).any (idIs id)
theorem fnd_le (es : List Q4) (id : Int) : fnd es id ≤ es.length := List.findIdx_le_length
theorem pat_le (es : List Q4) (id : Int) : pat es id ≤ es.length := List.findIdx_le_length
/-- the ids rise -/
def rising (es : List Q4) : Prop := ∀ (i j : Nat) x y, i < j → es[i]? = some x → es[j]? = some y → x.a < y.a
theorem rising_of {es : List Q4} (h : ∀ (k : Nat) e e', es[k]? = some e → es[k+1]? = some e' → e.a < e'.a) : rising es := by
  intro i j
  induction j with
  | zero => intro x y hij; omega
  | succ j ih =>
    intro x y hij hx hy
    have hj : j < es.length := by have := (List.getElem?_eq_some_iff.1 hy).1; omega
    have h1 := h j _ y (List.getElem?_eq_getElem hj) hy
    rcases Nat.lt_or_ge i j with h2 | h2
    · have := ih x _ h2 hx (List.getElem?_eq_getElem hj); omega
    · have : i = j := by omega
      subst this
      rw [List.getElem?_eq_getElem hj] at hx; injection hx with hx; subst hx; exact h1
theorem thr_fnd {es : List Q4} {id : Int} (h : rising es) : thr es id = decide (fnd es id < es.length) := by
  by_cases hf : fnd es id < es.length
  · obtain ⟨e, he, hp⟩ := fi_get hf
    have hid : e.a = id := by simpa [idIs] using hp
    have : pat es id = fnd es id := fi_at (fun j x hj hx => by
      have := h j _ x e hj hx he
      simp [idGe]; omega) he (by simp [idGe, hid])
    rw [thr, this]
    have he' : es[fnd es id]? = some e := he
    rw [he']; simp [hp, hf]
  · have hn : ∀ (j : Nat) x, es[j]? = some x → idIs id x = false := fun j x hx => fi_lt (p := idIs id) (by
      have := (List.getElem?_eq_some_iff.1 hx).1
      have e1 : es.findIdx (idIs id) = fnd es id := rfl
      omega) hx
    have : thr es id = false := by
      unfold thr
      cases hx : es[pat es id]? with
      | none => rfl
      | some e => exact hn _ e hx
    rw [this]; simp [hf]
theorem pat_fnd {es : List Q4} {id : Int} (h : rising es) (hf : fnd es id < es.length) : pat es id = fnd es id := by
  obtain ⟨e, he, hp⟩ := fi_get hf
  have hid : e.a = id := by simpa [idIs] using hp
  exact fi_at (fun j x hj hx => by
    have := h j _ x e hj hx he
    simp [idGe]; omega) he (by simp [idGe, hid])
set_option maxHeartbeats 400000 in
theorem impl_all_int64 (g : Nat) (p : Int → Bool) (A : Option Addr) (n c : Nat) (xs : List Int) (w : World) (hmax : n ≤ 1048576) (hcall : ∀ args W, (callFunc g args).run Try.prog W = .ok (.enter g args) W)
    (hso : ∀ (x : Int) (W : World), Calls Try.prog g #[.int .i64 x] W fun e w' => e = .returned (.bool (p x)) ∧ W = w') (h : Sl w w.heap.size 1 icell A n xs) :
    Calls Try.prog 34 #[.slice A n c, .func (.func g) #[] #[]] w fun e w' => e = .returned (.bool (xs.all p)) ∧ Below w.heap.size w w' := by
  have Hn := Lib.hid h.len
  have HSO := Lib.hid hso
  clear hso
  go_enter Try.func34, Try.ntmps34
  go_wp2
  go_loopw [9] (fun i wr => ∃ k : Nat, k ≤ n ∧ i = .int .i64 k ∧ Hid (∀ j e, j < k → xs[j]? = some e → p e = true) ∧ Below w.heap.size w wr) (fun i _ => n - (intOf i).toNat)
  case atStart => exact ⟨0, by omega, rfl, Lib.hid (fun j e hj => by omega), Below.refl _ _⟩
  case round =>
    obtain ⟨k, hk, rfl, Hgood, hbel⟩ := hrel
    by_cases hlt : k < n
    · obtain ⟨b, off, rfl, hb, H⟩ := h.at_ (by omega)
      obtain ⟨e, he⟩ := h.get hlt
      have c0 := (H.below hbel hb).i1 he
      have He := Lib.hid he
      clear he
      go_wp2_with (refine (HSO.out e _).mono ?_; rintro e' w' ⟨rfl, rfl⟩)
      · have hne : (!p e) = true := by assumption
        go_ret
        exact ⟨ret_bool (by rw [all_no He.out (by simpa using hne)]), by first | exact hbel | exact below_al hbel _⟩
      · have heq : (!p e) = false := by assumption
        go_roundw
        case rel => exact ⟨k + 1, by omega, by go_num, Lib.hid (fun j x hj hx => if h1 : j < k then Hgood.out j x h1 hx else by
          have : j = k := by omega
          subst this; rw [He.out] at hx; injection hx with hx; subst hx; simpa using heq), by first | exact hbel | exact below_al hbel _⟩
        case measure => simp [intOf]; omega
    · go_wp2
      go_ret
      have hkn : k = n := by omega
      subst hkn
      exact ⟨ret_bool (by symm; rw [all_iff_get]; exact fun j x hx => Hgood.out j x (by rw [← Hn.out]; exact (List.getElem?_eq_some_iff.1 hx).1) hx), hbel⟩
theorem info_i64 : (Try.prog.info? 2).map (fun i => (i.zero, i.size, i.bytes)) = some (some (.int .i64 0), 1, 8) := by kernel_rfl
set_option maxHeartbeats 400000 in
set_option maxRecDepth 100000 in
theorem impl_indicesWhere (g : Nat) (caps : Array Value) (n : Nat) (p : Nat → Bool) (w : World) (hmax : n ≤ 1048576) (hcall : ∀ args W, (callFunc g args).run Try.prog W = .ok (.enter g args) W)
    (hso : ∀ (i : Nat) (W : World), i < n → Below w.heap.size w W → Calls Try.prog g (#[.int .i64 i] ++ caps) W fun e w' => e = .returned (.bool (p i)) ∧ Below W.heap.size W w') :
    Calls Try.prog 18 #[.int .i64 n, .func (.func g) #[] caps] w fun e w' => ∃ v, e = .returned v ∧ Own w' w.heap.size 2 1 icell v (idxs p n) ∧ Below w.heap.size w w' := by
  obtain ⟨i0, hi, hz0, hz1, hz2⟩ := info_parts info_i64
  have HSO := Lib.hid hso
  clear hso
  go_enter Try.func18, Try.ntmps18
  go_wp2
  go_loopw [5, 6] (fun v i wr => ∃ k : Nat, k ≤ n ∧ i = .int .i64 k ∧ Own wr w.heap.size 2 1 icell v (idxs p k) ∧ Below w.heap.size w wr) (fun _ i _ => n - (intOf i).toNat)
  case atStart => exact ⟨0, by omega, rfl, own_new_empty _ _ _ _ _ (Nat.le_refl _), below_al (Below.refl _ _) _⟩
  case round =>
    obtain ⟨k, hk, rfl, hown, hbel⟩ := hrel
    have Hown := Lib.hid hown
    have hll := idxs_len p k
    clear hown
    by_cases hlt : k < n
    · go_wp2_with (first
        | (at_builtin; refine wpList_push rfl _ _ 22 rfl w.heap.size 2 i0 (.int .i64 0) 1 8 Try.underlying22 hi hz0 hz1 hz2 rfl (by omega) icell_len (fun e u hu => by simp [icell] at hu; subst hu; rfl) _ _ (k : Int) rfl (Hown.out.below hb1 (Nat.le_refl _)) _ rfl _ rfl (by first | rfl | simp) (by omega) (by omega) (by have := hbel.size; have := hb1.size; omega) ?_; intro v2 w2 ho2 hg2; have hbel2 := own_grown (below_then hbel hb1) (Hown.out.below hb1 (Nat.le_refl _)) (Nat.le_refl _) (Nat.le_trans hbel.size hb1.size) hg2; have Ho2 := Lib.hid ho2; clear ho2)
        | (refine (HSO.out k _ hlt hbel).mono ?_; rintro e w1 ⟨rfl, hb1⟩))
      · have hp : p k = true := by assumption
        go_roundw
        case rel => exact ⟨k + 1, by omega, by go_num, by rw [idxs_yes hp]; exact Ho2.out, hbel2⟩
        case measure => simp [intOf]; omega
      · have hp : p k = false := by assumption
        go_roundw
        case rel => exact ⟨k + 1, by omega, by go_num, by rw [idxs_no hp]; exact Hown.out.below hb1 (Nat.le_refl _), below_then hbel hb1⟩
        case measure => simp [intOf]; omega
    · go_wp2
      go_ret
      have hkn : k = n := by omega
      subst hkn
      exact ⟨_, rfl, Hown.out, hbel⟩
theorem impl_ValidLevel (n : Int) (w : World) : Calls Try.prog 35 #[.int .i64 n] w fun e w' => e = .returned (.bool (lvl n)) ∧ w = w' := by
  go_enter Try.func35, Try.ntmps35
  go_wp2_with (go_at_call 16; refine (impl_in _ _ _ _).mono ?_; rintro e w' ⟨rfl, rfl⟩)
  all_goals (go_ret; exact ⟨rfl, rfl⟩)
theorem spec_l02Level (n : Int) (w : World) : Calls Try.prog 32 #[.int .i64 n] w fun e w' => e = .returned (.bool (lvl n)) ∧ w = w' := by
  go_enter Try.func32, Try.ntmps32
  go_wp2_with (go_at_call 23; refine (spec_l00In _ _ _ _).mono ?_; rintro e w' ⟨rfl, rfl⟩)
  all_goals (go_ret; exact ⟨rfl, rfl⟩)
theorem impl_ValidAlarms (A : Option Addr) (n c : Nat) (es : List Int) (w : World) (hmax : n ≤ 1048576) (h : Sl w w.heap.size 1 icell A n es) :
    Calls Try.prog 27 #[.slice A n c] w fun e w' => e = .returned (.bool (alarmsOk es)) ∧ Below w.heap.size w w' := by
  have Hn := Lib.hid h.len
  rcases Bool.eq_false_or_eq_true (inR (n : Int) 1 5) with g | g
  · have Ha : Hid (alarmsOk es = okList lvl iLt es) := Lib.hid (by rw [alarmsOk, Hn.out, g, Bool.true_and])
    go_enter Try.func27, Try.ntmps27
    go_wp2_with (first
      | (go_at_call 19; refine (impl_size_int64 _ _ _ _ (by omega)).mono ?_; rintro e w' ⟨rfl, rfl⟩)
      | (go_at_call 16; refine (impl_in _ _ _ _).mono ?_; rintro e w' ⟨rfl, rfl⟩; rw [g])
      | (go_at_call 33; refine (impl_rises _ _ _ es _ hmax h).mono ?_; rintro e w1 ⟨rfl, hb1⟩))
    all_goals (go_ret; exact ⟨ret_bool (by rw [Ha.out]), hb1⟩)
  · have Ha : Hid (alarmsOk es = false) := Lib.hid (by rw [alarmsOk, Hn.out, g, Bool.false_and])
    go_enter Try.func27, Try.ntmps27
    go_wp2_with (first
      | (go_at_call 19; refine (impl_size_int64 _ _ _ _ (by omega)).mono ?_; rintro e w' ⟨rfl, rfl⟩)
      | (go_at_call 16; refine (impl_in _ _ _ _).mono ?_; rintro e w' ⟨rfl, rfl⟩; rw [g]))
    all_goals (go_ret; exact ⟨ret_bool (by rw [Ha.out]), Below.refl _ _⟩)
theorem spec_l16Ok (A : Option Addr) (n c : Nat) (es : List Int) (w : World) (hmax : n ≤ 1048576) (h : Sl w w.heap.size 1 icell A n es) :
    Calls Try.prog 21 #[.slice A n c] w fun e w' => e = .returned (.bool (alarmsOk es)) ∧ Below w.heap.size w w' := by
  have Hn := Lib.hid h.len
  rcases Bool.eq_false_or_eq_true (inR (n : Int) 1 5) with g | g
  · have Ha : Hid (alarmsOk es = okList lvl iLt es) := Lib.hid (by rw [alarmsOk, Hn.out, g, Bool.true_and])
    go_enter Try.func21, Try.ntmps21
    go_wp2_with (first
      | (go_at_call 23; refine (spec_l00In _ _ _ _).mono ?_; rintro e w' ⟨rfl, rfl⟩; rw [g])
      | (go_at_call 31; refine (spec_l00Rises _ _ _ es _ hmax h).mono ?_; rintro e w1 ⟨rfl, hb1⟩))
    all_goals (go_ret; exact ⟨ret_bool (by rw [Ha.out]), hb1⟩)
  · have Ha : Hid (alarmsOk es = false) := Lib.hid (by rw [alarmsOk, Hn.out, g, Bool.false_and])
    go_enter Try.func21, Try.ntmps21
    go_wp2_with (go_at_call 23; refine (spec_l00In _ _ _ _).mono ?_; rintro e w' ⟨rfl, rfl⟩; rw [g])
    all_goals (go_ret; exact ⟨ret_bool (by rw [Ha.out]), Below.refl _ _⟩)
theorem impl_areLevels (A : Option Addr) (n c : Nat) (es : List Int) (w : World) (hmax : n ≤ 1048576) (h : Sl w w.heap.size 1 icell A n es) :
    Calls Try.prog 28 #[.slice A n c] w fun e w' => e = .returned (.bool (es.all lvl)) ∧ Below w.heap.size w w' := by
  have hcall : ∀ args W, (callFunc 35 args).run Try.prog W = .ok (.enter 35 args) W := fun _ _ => by kernel_rfl
  go_enter Try.func28, Try.ntmps28
  go_wp2_with fail
  refine (impl_all_int64 35 lvl _ _ _ es _ hmax hcall (fun x W => impl_ValidLevel x W) h).mono ?_
  rintro e w1 ⟨rfl, hb1⟩
  go_wp2_with fail
  go_ret
  exact ⟨rfl, hb1⟩
set_option maxHeartbeats 400000 in
theorem spec_l16Levels (A : Option Addr) (n c : Nat) (es : List Int) (w : World) (hmax : n ≤ 1048576) (h : Sl w w.heap.size 1 icell A n es) :
    Calls Try.prog 22 #[.slice A n c] w fun e w' => e = .returned (.bool (es.all lvl && decide (n ≤ 200))) ∧ w = w' := by
  have Hn := Lib.hid h.len
  go_enter Try.func22, Try.ntmps22
  go_wp2
  go_loop [3] (fun i => ∃ k : Nat, k ≤ n ∧ i = .int .i64 k ∧ Hid (∀ j e, j < k → es[j]? = some e → lvl e = true)) (fun i => n - (intOf i).toNat)
  case atStart => exact ⟨0, by omega, rfl, Lib.hid (fun j e hj => by omega)⟩
  case round =>
    obtain ⟨k, hk, rfl, Hgood⟩ := hrel
    by_cases hlt : k < n
    · obtain ⟨b, off, rfl, hb, H⟩ := h.at_ (by omega)
      obtain ⟨e, he⟩ := h.get hlt
      have c0 := H.i1 he
      have He := Lib.hid he
      clear he
      rcases Bool.eq_false_or_eq_true (lvl e) with g | g
      · go_wp2_with (go_at_call 32; refine (spec_l02Level _ _).mono ?_; rintro e w' ⟨rfl, rfl⟩; rw [g])
        go_round
        case rel => exact ⟨k + 1, by omega, by go_num, Lib.hid (fun j x hj hx => if h1 : j < k then Hgood.out j x h1 hx else by
          have : j = k := by omega
          subst this; rw [He.out] at hx; injection hx with hx; subst hx; exact g)⟩
        case measure => simp [intOf]; omega
      · go_wp2_with (go_at_call 32; refine (spec_l02Level _ _).mono ?_; rintro e w' ⟨rfl, rfl⟩; rw [g])
        go_ret
        exact ⟨ret_bool (by rw [all_no He.out g, Bool.false_and]), rfl⟩
    · have hkn : k = n := by omega
      subst hkn
      have Ha : Hid (es.all lvl = true) := Lib.hid (by rw [all_iff_get]; exact fun j x hx => Hgood.out j x (by rw [← Hn.out]; exact (List.getElem?_eq_some_iff.1 hx).1) hx)
      go_wp2
      all_goals (go_ret; exact ⟨ret_bool (by rw [Ha.out, Bool.true_and]; congr 1; simp; omega), rfl⟩)
def alC (es ls : List Int) : Int := if alarmsOk es = false then 1 else if ls.all lvl = false ∨ 200 < ls.length then 2 else 0
theorem alCode_eq (es ls : List Int) (hold : Int) : alCode es ls hold = if alC es ls = 0 then (if inR hold 0 100 = true then 0 else 2) else alC es ls := by
  unfold alCode alC
  cases inR hold 0 100 <;> (split <;> first | rfl | (split <;> simp))
set_option maxHeartbeats 400000 in
theorem impl_alarmCode (A B : Option Addr) (n c m d : Nat) (es ls : List Int) (w : World) (hmax : n ≤ 1048576) (hmax2 : m ≤ 1048576) (h : Sl w w.heap.size 1 icell A n es) (h2 : Sl w w.heap.size 1 icell B m ls) :
    Calls Try.prog 15 #[.slice A n c, .slice B m d] w fun e w' => e = .returned (.int .i64 (alC es ls)) ∧ Below w.heap.size w w' := by
  have Hm := Lib.hid h2.len
  rcases Bool.eq_false_or_eq_true (alarmsOk es) with g1 | g1
  · rcases Bool.eq_false_or_eq_true (ls.all lvl) with g2 | g2
    · rcases Nat.lt_or_ge 200 m with g3 | g3
      · have Hc : Hid (alC es ls = 2) := Lib.hid (by rw [alC, if_neg (by simp [g1]), if_pos (by rw [Hm.out]; exact .inr g3)])
        go_enter Try.func15, Try.ntmps15
        go_wp2_with (first
          | (go_at_call 27; refine (impl_ValidAlarms _ _ _ es _ hmax h).mono ?_; rintro e w1 ⟨rfl, hb1⟩; rw [g1])
          | (go_at_call 28; refine (impl_areLevels _ _ _ ls _ hmax2 (h2.on hb1)).mono ?_; rintro e w2 ⟨rfl, hb2⟩; rw [g2]))
        all_goals (go_ret; exact ⟨ret_int Hc.out.symm, below_then hb1 hb2⟩)
      · have Hc : Hid (alC es ls = 0) := Lib.hid (by rw [alC, if_neg (by simp [g1]), if_neg (by rw [Hm.out]; simp [g2]; omega)])
        go_enter Try.func15, Try.ntmps15
        go_wp2_with (first
          | (go_at_call 27; refine (impl_ValidAlarms _ _ _ es _ hmax h).mono ?_; rintro e w1 ⟨rfl, hb1⟩; rw [g1])
          | (go_at_call 28; refine (impl_areLevels _ _ _ ls _ hmax2 (h2.on hb1)).mono ?_; rintro e w2 ⟨rfl, hb2⟩; rw [g2]))
        all_goals (go_ret; exact ⟨ret_int Hc.out.symm, below_then hb1 hb2⟩)
    · have Hc : Hid (alC es ls = 2) := Lib.hid (by rw [alC, if_neg (by simp [g1]), if_pos (.inl g2)])
      go_enter Try.func15, Try.ntmps15
      go_wp2_with (first
        | (go_at_call 27; refine (impl_ValidAlarms _ _ _ es _ hmax h).mono ?_; rintro e w1 ⟨rfl, hb1⟩; rw [g1])
        | (go_at_call 28; refine (impl_areLevels _ _ _ ls _ hmax2 (h2.on hb1)).mono ?_; rintro e w2 ⟨rfl, hb2⟩; rw [g2]))
      all_goals (go_ret; exact ⟨ret_int Hc.out.symm, below_then hb1 hb2⟩)
  · have Hc : Hid (alC es ls = 1) := Lib.hid (by rw [alC, if_pos g1])
    go_enter Try.func15, Try.ntmps15
    go_wp2_with (go_at_call 27; refine (impl_ValidAlarms _ _ _ es _ hmax h).mono ?_; rintro e w1 ⟨rfl, hb1⟩; rw [g1])
    all_goals (go_ret; exact ⟨ret_int Hc.out.symm, hb1⟩)
set_option maxHeartbeats 400000 in
theorem spec_l16Code (A B : Option Addr) (n c m d : Nat) (es ls : List Int) (hold : Int) (w : World) (hmax : n ≤ 1048576) (hmax2 : m ≤ 1048576) (h : Sl w w.heap.size 1 icell A n es) (h2 : Sl w w.heap.size 1 icell B m ls) :
    Calls Try.prog 13 #[.slice A n c, .slice B m d, .int .i64 hold] w fun e w' => e = .returned (.int .i64 (alCode es ls hold)) ∧ Below w.heap.size w w' := by
  have Hm := Lib.hid h2.len
  rcases Bool.eq_false_or_eq_true (alarmsOk es) with g1 | g1
  · rcases Bool.eq_false_or_eq_true (ls.all lvl && decide (m ≤ 200)) with g2 | g2
    · have g2' := g2
      simp only [Bool.and_eq_true, decide_eq_true_eq] at g2'
      rcases Bool.eq_false_or_eq_true (inR hold 0 100) with g3 | g3
      · have Hc : Hid (alCode es ls hold = 0) := Lib.hid (by rw [alCode, if_neg (by simp [g1]), if_neg (by rw [Hm.out]; simp [g2'.1]; omega), if_neg (by simp [g3])])
        clear g2'
        go_enter Try.func13, Try.ntmps13
        go_wp2_with (first
          | (go_at_call 21; refine (spec_l16Ok _ _ _ es _ hmax h).mono ?_; rintro e w1 ⟨rfl, hb1⟩; rw [g1])
          | (go_at_call 22; refine (spec_l16Levels _ _ _ ls _ hmax2 (h2.on hb1)).mono ?_; rintro e w2 ⟨rfl, rfl⟩; rw [g2])
          | (go_at_call 23; refine (spec_l00In _ _ _ _).mono ?_; rintro e w' ⟨rfl, rfl⟩; rw [g3]))
        all_goals (go_ret; exact ⟨ret_int Hc.out.symm, hb1⟩)
      · have Hc : Hid (alCode es ls hold = 2) := Lib.hid (by rw [alCode, if_neg (by simp [g1]), if_neg (by rw [Hm.out]; simp [g2'.1]; omega), if_pos g3])
        clear g2'
        go_enter Try.func13, Try.ntmps13
        go_wp2_with (first
          | (go_at_call 21; refine (spec_l16Ok _ _ _ es _ hmax h).mono ?_; rintro e w1 ⟨rfl, hb1⟩; rw [g1])
          | (go_at_call 22; refine (spec_l16Levels _ _ _ ls _ hmax2 (h2.on hb1)).mono ?_; rintro e w2 ⟨rfl, rfl⟩; rw [g2])
          | (go_at_call 23; refine (spec_l00In _ _ _ _).mono ?_; rintro e w' ⟨rfl, rfl⟩; rw [g3]))
        all_goals (go_ret; exact ⟨ret_int Hc.out.symm, hb1⟩)
    · have Hc : Hid (alCode es ls hold = 2) := Lib.hid (by
        simp only [Bool.and_eq_false_iff, decide_eq_false_iff_not] at g2
        rw [alCode, if_neg (by simp [g1]), if_pos (by rw [Hm.out]; rcases g2 with g | g; exact .inl g; exact .inr (by omega))])
      go_enter Try.func13, Try.ntmps13
      go_wp2_with (first
        | (go_at_call 21; refine (spec_l16Ok _ _ _ es _ hmax h).mono ?_; rintro e w1 ⟨rfl, hb1⟩; rw [g1])
        | (go_at_call 22; refine (spec_l16Levels _ _ _ ls _ hmax2 (h2.on hb1)).mono ?_; rintro e w2 ⟨rfl, rfl⟩; rw [g2]))
      all_goals (go_ret; exact ⟨ret_int Hc.out.symm, hb1⟩)
  · have Hc : Hid (alCode es ls hold = 1) := Lib.hid (by rw [alCode, if_pos g1])
    go_enter Try.func13, Try.ntmps13
    go_wp2_with (go_at_call 21; refine (spec_l16Ok _ _ _ es _ hmax h).mono ?_; rintro e w1 ⟨rfl, hb1⟩; rw [g1])
    all_goals (go_ret; exact ⟨ret_int Hc.out.symm, hb1⟩)
set_option maxHeartbeats 400000 in
theorem spec_l16Stage (A : Option Addr) (n c : Nat) (es : List Int) (x : Int) (w : World) (hmax : n ≤ 1048576) (h : Sl w w.heap.size 1 icell A n es) :
    Calls Try.prog 24 #[.slice A n c, .int .i64 x] w fun e w' => e = .returned (.int .i64 (stg es x)) ∧ w = w' := by
  have Hn := Lib.hid h.len
  go_enter Try.func24, Try.ntmps24
  go_wp2
  go_loop [5, 6] (fun s i => ∃ (k t : Nat), k ≤ n ∧ i = .int .i64 k ∧ s = .int .i64 t ∧ t ≤ k ∧ Hid (t = stN es x k)) (fun _ i => n - (intOf i).toNat)
  case atStart => exact ⟨0, 0, by omega, rfl, rfl, by omega, Lib.hid rfl⟩
  case round =>
    obtain ⟨k, t, hk, rfl, rfl, htk, Ht⟩ := hrel
    by_cases hlt : k < n
    · obtain ⟨b, off, rfl, hb, H⟩ := h.at_ (by omega)
      obtain ⟨e, he⟩ := h.get hlt
      have c0 := H.i1 he
      have Hp : Hid (stP es x k = decide (e ≤ x)) := Lib.hid (stP_at he)
      clear he
      go_wp2
      · go_round
        case rel => exact ⟨k + 1, t + 1, by omega, by go_num, by go_num, by omega, Lib.hid (by rw [stN_yes (by rw [Hp.out]; simp; omega), Ht.out])⟩
        case measure => simp [intOf]; omega
      · go_round
        case rel => exact ⟨k + 1, t, by omega, by go_num, rfl, by omega, Lib.hid (by rw [stN_no (by rw [Hp.out]; simp; omega), Ht.out])⟩
        case measure => simp [intOf]; omega
    · go_wp2
      go_ret
      have hkn : k = n := by omega
      subst hkn
      exact ⟨ret_int (by rw [Ht.out, stg, Hn.out]), rfl⟩
theorem impl_stageOf_1 (i : Nat) (g0 g1 : Nat) (A : Option Addr) (n c : Nat) (es : List Int) (m : Int) (W : World) (hi : i < n) (hmax : n ≤ 1048576)
    (x0 : W.cell? ⟨g0, 0, none⟩ = some (.slice A n c)) (x1 : W.cell? ⟨g1, 0, none⟩ = some (.int .i64 m)) (h : Sl W W.heap.size 1 icell A n es) :
    Calls Try.prog 36 #[.int .i64 i, .pointer (some ⟨g0, 0, none⟩), .pointer (some ⟨g1, 0, none⟩)] W fun e w' => e = .returned (.bool (stP es m i)) ∧ Below W.heap.size W w' := by
  obtain ⟨b, off, rfl, hb, H⟩ := h.at_ (by omega)
  obtain ⟨e, he⟩ := h.get hi
  have c0 := H.i1c hb he
  rw [stP_at he]
  clear he
  go_enter Try.func36, Try.ntmps36
  have z0 := fun d os => cell_regrown x0 d os
  have z1 := fun d os => cell_regrown x1 d os
  have hi0 : (0 : Int) ≤ (i : Int) := by omega
  have hin' : (i : Int) < (n : Int) := by omega
  go_wp2_with fail
  refine wp_region_quiet_below (by kernel_rfl) (by kernel_rfl) ?_
  repeat (go_big_quiet_step (fail))
  refine wpQuiet_nil ?_
  intro wq hwq
  have hbq := below_of_class hwq
  clear hwq
  go_wp2
  go_ret
  exact ⟨rfl, hbq⟩
set_option maxHeartbeats 400000 in
theorem impl_stageOf (A : Option Addr) (n c : Nat) (es : List Int) (m : Int) (w : World) (hmax : n ≤ 1048576) (h : Sl w w.heap.size 1 icell A n es) :
    Calls Try.prog 29 #[.slice A n c, .int .i64 m] w fun e w' => e = .returned (.int .i64 (stg es m)) ∧ Below w.heap.size w w' := by
  obtain ⟨wA, hwA⟩ : ∃ wA, wA = (w.alloc (.cells #[.slice A n c] 22)).alloc (.cells #[.int .i64 m] 2) := ⟨_, rfl⟩
  have hb1 := Below.refl wA.heap.size wA
  rw [hwA] at hb1
  obtain ⟨x0, x1, hs1, hbel⟩ := boxes2 hb1
  clear hwA hb1
  have Hl := Lib.hid h.len
  have hst := stN_le es m n
  go_enter Try.func29, Try.ntmps29
  go_wp2_with fail
  refine (impl_size_int64 _ _ _ _ (by omega)).mono ?_
  rintro e w' ⟨rfl, rfl⟩
  go_wp2_with fail
  have hcall : ∀ args W, (callFunc 36 args).run Try.prog W = .ok (.enter 36 args) W := fun _ _ => by kernel_rfl
  refine (impl_indicesWhere 36 _ n (stP es m) _ hmax hcall (fun i W hi hW => ?_)).mono ?_
  · exact impl_stageOf_1 i _ _ A n c es m W hi hmax (cell_on x0 hW (by omega)) (cell_on x1 hW hs1) ((h.on hbel).on hW)
  rintro e w2 ⟨v, rfl, ho, hb2⟩
  obtain ⟨A2, n2, c2, rfl, hl2, _⟩ := own_shape ho
  have hn2 : n2 = stN es m n := hl2.symm
  clear ho hl2
  subst hn2
  go_wp2_with fail
  refine (impl_size_int64 _ _ _ _ (by omega)).mono ?_
  rintro e w' ⟨rfl, rfl⟩
  go_wp2_with fail
  go_ret
  exact ⟨ret_int (by rw [stg, Hl.out]), below_then hbel hb2⟩

end Go.Proofs.Ytolnbbfbeieicaa

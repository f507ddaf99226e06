/- Walks over functions of this seat, by contract. Conditions: those that each theorem states. -/
import Derived.Test.YtccajbnklegniaaD5
import Derived.Test.YtccajbnklegniaaStp
namespace Go.Proofs.Ytccajbnklegniaa
open Go.RowKit Go.Sort

section
variable {p : Q4 → Bool} {es : List Q4}
theorem fi_at {k : Nat} {e : Q4} (h : ∀ j x, j < k → es[j]? = some x → p x = false) (he : es[k]? = some e) (hp : p e = true) : es.findIdx p = k := by
  obtain ⟨hk, hx⟩ := List.getElem?_eq_some_iff.1 he
  rw [List.findIdx_eq hk]
  exact ⟨by rw [hx]; exact hp, fun j hj => h j _ hj (List.getElem?_eq_getElem _)⟩
theorem fi_none (h : ∀ (j : Nat) x, es[j]? = some x → p x = false) : es.findIdx p = es.length := by
  rw [List.findIdx_eq_length]
  intro x hx
  obtain ⟨k, hk, rfl⟩ := List.mem_iff_getElem.1 hx
  exact h k _ (List.getElem?_eq_getElem hk)
theorem fi_get (h : es.findIdx p < es.length) : ∃ e, es[es.findIdx p]? = some e ∧ p e = true :=
  ⟨es[es.findIdx p], List.getElem?_eq_getElem h, List.findIdx_getElem⟩
theorem fi_lt {j : Nat} {x : Q4} (hj : j < es.findIdx p) (hx : es[j]? = some x) : p x = false := by
  obtain ⟨hk, rfl⟩ := List.getElem?_eq_some_iff.1 hx
  simpa using List.not_of_lt_findIdx hj
end
def idIs (id : Int) (q : Q4) : Bool := q.a == id
def idGe (id : Int) (q : Q4) : Bool := decide (id ≤ q.a)
/-- the place of an id, the length where it is not there -/
def fnd (es : List Q4) (id : Int) : Nat := es.findIdx (idIs id)
def fndR (es : List Q4) (id : Int) : Int := if fnd es id < es.length then fnd es id else -1
/-- the first place that is not below an id -/
def pat (es : List Q4) (id : Int) : Nat := es.findIdx (idGe id)
def thr (es : List Q4) (id : Int) : Bool := (es[pat es id]?).any (idIs id)
theorem fnd_le (es : List Q4) (id : Int) : fnd es id ≤ es.length := List.findIdx_le_length
theorem pat_le (es : List Q4) (id : Int) : pat es id ≤ es.length := List.findIdx_le_length
/-- the ids rise -/
def rising (es : List Q4) : Prop := ∀ (i j : Nat) x y, i < j → es[i]? = some x → es[j]? = some y → x.a < y.a
theorem rising_of {es : List Q4} (h : ∀ (k : Nat) e e', es[k]? = some e → es[k+1]? = some e' → e.a < e'.a) : rising es := by
  intro i j
  induction j with
  | zero => intro x y hij; omega
  | succ j ih =>
    intro x y hij hx hy
    have hj : j < es.length := by have := (List.getElem?_eq_some_iff.1 hy).1; omega
    have h1 := h j _ y (List.getElem?_eq_getElem hj) hy
    rcases Nat.lt_or_ge i j with h2 | h2
    · have := ih x _ h2 hx (List.getElem?_eq_getElem hj); omega
    · have : i = j := by omega
      subst this
      rw [List.getElem?_eq_getElem hj] at hx; injection hx with hx; subst hx; exact h1
theorem thr_fnd {es : List Q4} {id : Int} (h : rising es) : thr es id = decide (fnd es id < es.length) := by
  by_cases hf : fnd es id < es.length
  · obtain ⟨e, he, hp⟩ := fi_get hf
    have hid : e.a = id := by simpa [idIs] using hp
    have : pat es id = fnd es id := fi_at (fun j x hj hx => by
      have := h j _ x e hj hx he
      simp [idGe]; omega) he (by simp [idGe, hid])
    rw [thr, this]
    have he' : es[fnd es id]? = some e := he
    rw [he']; simp [hp, hf]
  · have hn : ∀ (j : Nat) x, es[j]? = some x → idIs id x = false := fun j x hx => fi_lt (p := idIs id) (by
      have := (List.getElem?_eq_some_iff.1 hx).1
      have e1 : es.findIdx (idIs id) = fnd es id := rfl
      omega) hx
    have : thr es id = false := by
      unfold thr
      cases hx : es[pat es id]? with
      | none => rfl
      | some e => exact hn _ e hx
    rw [this]; simp [hf]
theorem pat_fnd {es : List Q4} {id : Int} (h : rising es) (hf : fnd es id < es.length) : pat es id = fnd es id := by
  obtain ⟨e, he, hp⟩ := fi_get hf
  have hid : e.a = id := by simpa [idIs] using hp
  exact fi_at (fun j x hj hx => by
    have := h j _ x e hj hx he
    simp [idGe]; omega) he (by simp [idGe, hid])
theorem sl_box4 (w : World) (p : Q4) (E : Nat) : Sl (w.alloc (.cells #[.int .i64 p.a, .int .i64 p.b, .int .i64 p.c, .int .i64 p.d] E)) (w.heap.size + 1) 4 Q4.cells (some ⟨w.heap.size, 0, none⟩) 1 [p] :=
  ⟨rfl, fun _ => ⟨_, _, rfl, by omega, fun k e he j v hv => by
    have hk : k < [p].length := (List.getElem?_eq_some_iff.1 he).1
    have hk0 : k = 0 := by simpa using hk
    subst hk0
    simp at he; subst he
    rw [cell_of_row _ _ _ _ _ (0, 0) (heap_alloc_new w _), Nat.zero_mul, Nat.zero_add, ← Array.getElem?_toList]
    exact hv⟩⟩
theorem sl_box4h (w : World) (p : Q4) (E : Nat) : Sl (w.alloc (.cells #[.int .i64 p.a, .int .i64 p.b, .int .i64 p.c, .int .i64 p.d] E)) (w.alloc (.cells #[.int .i64 p.a, .int .i64 p.b, .int .i64 p.c, .int .i64 p.d] E)).heap.size 4 Q4.cells (some ⟨w.heap.size, 0, none⟩) 1 [p] := by
  have := sl_box4 w p E
  simpa using this
theorem clone_front (A : Option Addr) (k c n : Nat) (es : List Q4) (w : World) (hmax : n ≤ 1048576) (h : Sl w w.heap.size 4 Q4.cells A n es) (hk : k ≤ n) (W : World) (hW : Below w.heap.size w W) :
    Calls Try.prog 55 #[.slice A k c] W fun e w' => ∃ A2 n2 c2, e = .returned (.slice A2 n2 c2) ∧ Own w' w.heap.size 45 4 Q4.cells (.slice A2 n2 c2) (es.take k) ∧ Below W.heap.size W w' ∧ Below w.heap.size w w' := by
  refine (impl_clone_Defect A k c (es.take k) W (by omega) ((h.on hW).front k hk)).mono ?_
  rintro e w' ⟨v, rfl, ho, hb⟩
  obtain ⟨A2, n2, c2, rfl, _, _⟩ := own_shape ho
  exact ⟨A2, n2, c2, rfl, ho.base_le hW.size, hb, below_then hW hb⟩
def putAt (es : List Q4) (k : Nat) (p : Q4) : List Q4 := es.take k ++ [p] ++ es.drop k
theorem putAt_len (es : List Q4) (k : Nat) (p : Q4) (hk : k ≤ es.length) : (putAt es k p).length = es.length + 1 := by
  simp only [putAt, List.length_append, List.length_take, List.length_drop, List.length_cons, List.length_nil]; omega
def dGe (p : Q4) (x : Q4) : Bool := !dLt x p
def dpat (es : List Q4) (p : Q4) : Nat := es.findIdx (dGe p)
def dThere (es : List Q4) (p : Q4) : Bool := (es[dpat es p]?).any (fun x => !dLt p x)
def addDCode (es : List Q4) (p : Q4) : Int := if defectsOk es = false then 1 else if defectOk p = false then 2 else if dThere es p = true then 4 else if es.length < 60 then 0 else 5
def addDOut (es : List Q4) (p : Q4) : List Q4 := if addDCode es p = 0 then putAt es (dpat es p) p else []
theorem addDOut_neg {es : List Q4} {p : Q4} (h : addDCode es p ≠ 0) : addDOut es p = [] := if_neg h
theorem addDOut_pos {es : List Q4} {p : Q4} {k : Nat} (h : addDCode es p = 0) (hk : dpat es p = k) : addDOut es p = putAt es k p := by rw [addDOut, if_pos h, hk]
theorem addDOut_len (es : List Q4) (p : Q4) : (addDOut es p).length ≤ 60 := by
  by_cases h : addDCode es p = 0
  · have : es.length < 60 := by
      rcases Nat.lt_or_ge es.length 60 with h1 | h1
      · exact h1
      · exfalso; revert h; unfold addDCode; repeat' split
        all_goals omega
    rw [addDOut, if_pos h, putAt_len es (dpat es p) p List.findIdx_le_length]; omega
  · rw [addDOut_neg h]; simp
theorem addDCode_at {es : List Q4} {p : Q4} (g1 : defectsOk es = true) (g2 : defectOk p = true) : addDCode es p = if dThere es p = true then 4 else if es.length < 60 then 0 else 5 := by
  unfold addDCode; rw [if_neg (by simp [g1]), if_neg (by simp [g2])]
theorem dThere_at {es : List Q4} {p : Q4} {k : Nat} {e : Q4} (hk : dpat es p = k) (he : es[k]? = some e) : dThere es p = !dLt p e := by
  rw [dThere, hk, he]; rfl
theorem dThere_end {es : List Q4} {p : Q4} (hk : dpat es p = es.length) : dThere es p = false := by
  rw [dThere, hk, List.getElem?_eq_none (Nat.le_refl _)]; rfl
set_option maxHeartbeats 2000000 in
theorem impl_AddDefect (A : Option Addr) (n c : Nat) (es : List Q4) (p : Q4) (w : World) (hmax : n ≤ 1048576) (hnc : n ≤ c) (h : Sl w w.heap.size 4 Q4.cells A n es) :
    Calls Try.prog 33 #[.slice A n c, .agg #[.int .i64 p.a, .int .i64 p.b, .int .i64 p.c, .int .i64 p.d]] w fun e w' => ∃ v, e = .returned (.tuple #[v, .int .i64 (addDCode es p)]) ∧ Own w' w.heap.size 45 4 Q4.cells v (addDOut es p) ∧ Below w.heap.size w w' := by
  obtain ⟨i0, hi, hz0, hz1, hz2⟩ := info_parts info_Defect
  have hal := below_al (Below.refl w.heap.size w) (.cells #[.int .i64 p.a, .int .i64 p.b, .int .i64 p.c, .int .i64 p.d] 45)
  have step : ∀ (k : Nat) (e : Q4) (es : List Q4), (∀ j x, j < k → es[j]? = some x → dGe p x = false) → es[k]? = some e → dLt e p = true → ∀ j x, j < k + 1 → es[j]? = some x → dGe p x = false := fun k e es hg he hl j x hj hx => by
    rcases Nat.lt_or_ge j k with h1 | h1
    · exact hg j x h1 hx
    · have : j = k := by omega
      subst this; rw [he] at hx; injection hx with hx; subst hx; simp [dGe, hl]
  rcases Bool.eq_false_or_eq_true (defectsOk es) with g1 | g1
  · rcases Bool.eq_false_or_eq_true (defectOk p) with g2 | g2
    · have Hn := Lib.hid h.len
      have HL := Lib.hid (defects_all g1).1
      have G1 := Lib.hid g1
      have G2 := Lib.hid g2
      go_enter Try.func33, Try.ntmps33
      go_wp2_with (first
        | (go_at_call 21; refine (impl_ValidDefects _ _ _ es _ hmax (h.on hal)).mono ?_; rintro e w1 ⟨rfl, hb1⟩; rw [g1]; have hbel := hb1; obtain ⟨x0, x1, x2, x3⟩ := box4k hb1)
        | (go_at_call 52; refine (impl_isDefect p _).mono ?_; rintro e w2 ⟨rfl, hb2⟩; rw [g2]; have hbel := below_then hb1 hb2; obtain ⟨x0, x1, x2, x3⟩ := box4k hbel))
      clear g1 g2
      go_loopw [6] (fun i wr => ∃ k : Nat, k ≤ n ∧ i = .int .i64 k ∧ Hid (∀ j x, j < k → es[j]? = some x → dGe p x = false) ∧ Below (w.alloc (.cells #[.int .i64 p.a, .int .i64 p.b, .int .i64 p.c, .int .i64 p.d] 45)).heap.size (w.alloc (.cells #[.int .i64 p.a, .int .i64 p.b, .int .i64 p.c, .int .i64 p.d] 45)) wr) (fun i _ => n - (intOf i).toNat)
      case atStart => exact ⟨0, by omega, rfl, Lib.hid (fun j x hj => by omega), hbel⟩
      case round =>
        clear hbel hb1 hb2 x0 x1 x2 x3
        obtain ⟨k, hk, rfl, Hgood, hbel⟩ := hrel
        by_cases hlt : k < n
        · obtain ⟨b, off, rfl, hb, H⟩ := h.at_ (by omega)
          obtain ⟨e, he⟩ := h.get hlt
          have He := Lib.hid he
          clear he
          obtain ⟨r, hr⟩ : ∃ r, dLt e p = r := ⟨_, rfl⟩
          have Hr := Lib.hid hr
          clear hr
          obtain ⟨x0, x1, x2, x3⟩ := box4k hbel
          have z0 := fun d os => cell_regrown x0 d os
          have z1 := fun d os => cell_regrown x1 d os
          have z2 := fun d os => cell_regrown x2 d os
          have z3 := fun d os => cell_regrown x3 d os
          obtain ⟨c0, c1, c2, c3⟩ := (H.below (below_then hal hbel) hb).q4c (Nat.lt_of_lt_of_le hb (below_then hal hbel).size) He.out
          go_wp2_with fail
          refine wp_region_quiet_below (by kernel_rfl) (by kernel_rfl) ?_
          repeat (go_big_quiet_step (exact Calls.regrown_of (impl_lessDefect_r e p r Hr.out _)))
          refine wpQuiet_nil ?_
          intro wq hwq
          have hbel := below_then hbel (below_of_class hwq)
          clear hwq
          clear x0 x1 x2 x3 z0 z1 z2 z3 c0 c1 c2 c3
          cases r with
          | true =>
            go_wp2_with fail
            go_roundw
            case rel => exact ⟨k + 1, by omega, by go_num, Lib.hid (step _ _ _ Hgood.out He.out Hr.out), hbel⟩
            case measure => simp [intOf]; omega
          | false =>
            have Hk : Hid (dpat es p = k) := fi_at (p := dGe p) Hgood.out He.out (by simp [dGe, Hr.out])
            have Hd := Lib.hid (dThere_at Hk.out He.out)
            clear Hr
            obtain ⟨r, hr⟩ : ∃ r, dLt p e = r := ⟨_, rfl⟩
            have Hr := Lib.hid hr
            clear hr
            obtain ⟨x0, x1, x2, x3⟩ := box4k hbel
            have z0 := fun d os => cell_regrown x0 d os
            have z1 := fun d os => cell_regrown x1 d os
            have z2 := fun d os => cell_regrown x2 d os
            have z3 := fun d os => cell_regrown x3 d os
            obtain ⟨c0, c1, c2, c3⟩ := (H.below (below_then hal hbel) hb).q4c (Nat.lt_of_lt_of_le hb (below_then hal hbel).size) He.out
            go_wp2_with fail
            refine wp_region_quiet_below (by kernel_rfl) (by kernel_rfl) ?_
            repeat (go_big_quiet_step (exact Calls.regrown_of (impl_lessDefect_r p e r Hr.out _)))
            refine wpQuiet_nil ?_
            intro wq hwq
            have hbel := below_then hbel (below_of_class hwq)
            clear hwq
            clear x0 x1 x2 x3 z0 z1 z2 z3 c0 c1 c2 c3
            cases r with
            | false =>
              have Ht : Hid (dThere es p = true) := by show dThere es p = true; rw [Hd.out, Hr.out]; rfl
              have Hc : Hid (addDCode es p = 4) := by show addDCode es p = 4; rw [addDCode_at G1.out G2.out, if_pos Ht.out]
              have Ho : Hid (addDOut es p = []) := addDOut_neg (by rw [Hc.out]; omega)
              go_wp2_with fail
              go_ret2
              have hbw := below_then hal hbel
              exact ⟨_, by rw [Hc.out]; rfl, by rw [Ho.out]; exact own_new_empty _ _ _ _ _ hbw.size, below_al hbw _⟩
            | true =>
              have Ht : Hid (dThere es p = false) := by show dThere es p = false; rw [Hd.out, Hr.out]; rfl
              by_cases k6 : es.length < 60
              · have hn60 : ((n : Int) == 60) = false := by rw [← Hn.out]; simp; omega
                have hn60' : (n : Int) < 60 := by rw [← Hn.out]; omega
                have Hc : Hid (addDCode es p = 0) := by show addDCode es p = 0; rw [addDCode_at G1.out G2.out, if_neg (by rw [Ht.out]; simp), if_pos k6]
                have Ho : Hid (addDOut es p = putAt es k p) := addDOut_pos Hc.out Hk.out
                clear k6
                obtain ⟨w1, rfl⟩ : ∃ w1, w1 = wq := ⟨_, rfl⟩
                have hkc : (k : Int) ≤ (c : Int) := by omega
                have hkn : (k : Int) ≤ (n : Int) := by omega
                have hpl : k ≤ n := by omega
                obtain ⟨x0, x1, x2, x3⟩ := box4k hbel
                go_wp2_with fail
                by_cases hck0 : c = k
                · exfalso; omega
                · have hSl1 := (h.on hal).on hbel
                  have hws : w.heap.size < w1.heap.size := by have := hbel.size; simp at this; omega
                  have hback : ∀ W, Below w1.heap.size w1 W → Sl W W.heap.size 4 Q4.cells (some ⟨b, off + k * 4, none⟩) (n - k) (es.drop k) := fun W hW => by
                    have := (hSl1.on hW).back k c hpl hnc
                    rw [if_neg hck0] at this; simpa [Addr.add_lit] using this
                  go_region_held3 (fun w' => w'.cell? ⟨w.heap.size, 0, none⟩ = some (.int .i64 p.a) ∧ w'.cell? ⟨w.heap.size, 1, none⟩ = some (.int .i64 p.b) ∧ w'.cell? ⟨w.heap.size, 2, none⟩ = some (.int .i64 p.c) ∧ w'.cell? ⟨w.heap.size, 3, none⟩ = some (.int .i64 p.d))
                    (go_keep)
                    (first
                      | (go_at_call 55; refine (clone_front (some ⟨b, off, none⟩) k _ n es w1 hmax hSl1 hpl _ (by first | exact below_dr (Below.refl _ _) | exact below_al (below_dr (Below.refl _ _)) _ | exact below_dr (below_al (Below.refl _ _) _))).mono ?_; rintro e' w2 ⟨A2, n2, cc2, rfl, hO2, hb2, hbw2⟩; have z0 := cell_on x0 hbw2 hws; have z1 := cell_on x1 hbw2 hws; have z2 := cell_on x2 hbw2 hws; have z3 := cell_on x3 hbw2 hws)
                      | (refine step_app (by rfl) _ _ 28 (by rfl) w1.heap.size 45 i0 _ 4 32 Try.underlying28 hi hz0 hz1 hz2 rfl (by omega) Q4.cells_len q4_one (.slice A2 n2 cc2) (es.take k) [p] (by rfl) (own_alloc hO2 _) (w2.heap.size + 1) (some ⟨w2.heap.size, 0, none⟩) 1 1 (by rfl) (sl_box4 w2 p _) (by rw [List.length_take]; omega) (by omega) (by omega) (by have := hbw2.size; simp; omega) ?_; intro v3 w3 ho3 hg3; have hb3 := own_grown (below_al hbw2 _) (own_alloc hO2 _) (Nat.le_refl _) (by have := hbw2.size; simp; omega) hg3; have z0 := cell_on x0 hb3 hws; have z1 := cell_on x1 hb3 hws; have z2 := cell_on x2 hb3 hws; have z3 := cell_on x3 hb3 hws)
                      | (refine step_app (by rfl) _ _ 28 (by rfl) w1.heap.size 45 i0 _ 4 32 Try.underlying28 hi hz0 hz1 hz2 rfl (by omega) Q4.cells_len q4_one (.slice A2 n2 cc2) (es.take k) [p] (by rfl) hO2 w2.heap.size (some ⟨w1.heap.size, 0, none⟩) 1 1 (by rfl) (by first | exact (sl_box4h w1.drew p _).on hb2 | exact ((sl_box4h w1 p _).on (below_dr (Below.refl _ _))).on hb2) (by rw [List.length_take]; omega) (by omega) (by omega) (by have := hbw2.size; omega) ?_; intro v3 w3 ho3 hg3; have hb3 := own_grown hbw2 hO2 (Nat.le_refl _) hbw2.size hg3; have z0 := cell_on x0 hb3 hws; have z1 := cell_on x1 hb3 hws; have z2 := cell_on x2 hb3 hws; have z3 := cell_on x3 hb3 hws)
                      | (refine step_app (by rfl) _ _ 28 (by rfl) w1.heap.size 45 i0 _ 4 32 Try.underlying28 hi hz0 hz1 hz2 rfl (by omega) Q4.cells_len q4_one v3 (es.take k ++ [p]) (es.drop k) (by rfl) ho3 w3.heap.size _ _ _ (by rfl) (hback _ hb3) (by rw [List.length_append, List.length_take]; simp; omega) (by omega) (by omega) (by have := hb3.size; omega) ?_; intro v4 w4 ho4 hg4; have hb4 := own_grown hb3 ho3 (Nat.le_refl _) hb3.size hg4; have z0 := cell_on x0 hb4 hws; have z1 := cell_on x1 hb4 hws; have z2 := cell_on x2 hb4 hws; have z3 := cell_on x3 hb4 hws))
                  all_goals (go_wp2; go_ret2; exact ⟨_, by rw [Hc.out]; rfl, by rw [Ho.out]; exact ho4.base_le (Nat.le_of_lt hws), below_then (below_then hal hbel) hb4⟩)
              · have hn60 : ((n : Int) == 60) = true := by rw [← Hn.out]; simp; have := HL.out; omega
                have hn60' : (60 : Int) ≤ (n : Int) := by rw [← Hn.out]; omega
                have Hc : Hid (addDCode es p = 5) := by show addDCode es p = 5; rw [addDCode_at G1.out G2.out, if_neg (by rw [Ht.out]; simp), if_neg k6]
                have Ho : Hid (addDOut es p = []) := addDOut_neg (by rw [Hc.out]; omega)
                go_wp2_with fail
                go_ret2
                have hbw := below_then hal hbel
                exact ⟨_, by rw [Hc.out]; rfl, by rw [Ho.out]; exact own_new_empty _ _ _ _ _ hbw.size, below_al hbw _⟩
        · have Hk : Hid (dpat es p = k) := by
            have hk2 : dpat es p = es.length := fi_none fun j x hx => Hgood.out j x (by have := (List.getElem?_eq_some_iff.1 hx).1; have := Hn.out; omega) hx
            show dpat es p = k
            rw [hk2, Hn.out]; omega
          have Ht : Hid (dThere es p = false) := dThere_end (by rw [Hk.out, Hn.out]; omega)
          obtain ⟨x0, x1, x2, x3⟩ := box4k hbel
          have z0 := fun d os => cell_regrown x0 d os
          have z1 := fun d os => cell_regrown x1 d os
          have z2 := fun d os => cell_regrown x2 d os
          have z3 := fun d os => cell_regrown x3 d os
          go_wp2_with fail
          refine wp_region_quiet_below (by kernel_rfl) (by kernel_rfl) ?_
          repeat (go_big_quiet_step (fail))
          refine wpQuiet_nil ?_
          intro wq hwq
          have hbel := below_then hbel (below_of_class hwq)
          clear hwq
          go_wp2_with fail
          refine wp_region_quiet_below (by kernel_rfl) (by kernel_rfl) ?_
          repeat (go_big_quiet_step (fail))
          refine wpQuiet_nil ?_
          intro wq hwq
          have hbel := below_then hbel (below_of_class hwq)
          clear hwq
          clear x0 x1 x2 x3 z0 z1 z2 z3
          by_cases k6 : es.length < 60
          · have hn60 : ((n : Int) == 60) = false := by rw [← Hn.out]; simp; omega
            have hn60' : (n : Int) < 60 := by rw [← Hn.out]; omega
            have Hc : Hid (addDCode es p = 0) := by show addDCode es p = 0; rw [addDCode_at G1.out G2.out, if_neg (by rw [Ht.out]; simp), if_pos k6]
            have Ho : Hid (addDOut es p = putAt es k p) := addDOut_pos Hc.out Hk.out
            clear k6
            obtain ⟨w1, rfl⟩ : ∃ w1, w1 = wq := ⟨_, rfl⟩
            have hkc : (k : Int) ≤ (c : Int) := by omega
            have hkn : (k : Int) ≤ (n : Int) := by omega
            have hpl : k ≤ n := by omega
            obtain ⟨x0, x1, x2, x3⟩ := box4k hbel
            go_wp2_with fail
            by_cases hck0 : c = k
            · have hSl1 := (h.on hal).on hbel
              have hws : w.heap.size < w1.heap.size := by have := hbel.size; simp at this; omega
              have hback : ∀ W, Below w1.heap.size w1 W → Sl W W.heap.size 4 Q4.cells A (n - k) (es.drop k) := fun W hW => by
                have := (hSl1.on hW).back k c hpl hnc
                rwa [if_pos hck0] at this
              go_region_held3 (fun w' => w'.cell? ⟨w.heap.size, 0, none⟩ = some (.int .i64 p.a) ∧ w'.cell? ⟨w.heap.size, 1, none⟩ = some (.int .i64 p.b) ∧ w'.cell? ⟨w.heap.size, 2, none⟩ = some (.int .i64 p.c) ∧ w'.cell? ⟨w.heap.size, 3, none⟩ = some (.int .i64 p.d))
                (go_keep)
                (first
                  | (go_at_call 55; refine (clone_front A k _ n es w1 hmax hSl1 hpl _ (by first | exact below_dr (Below.refl _ _) | exact below_al (below_dr (Below.refl _ _)) _ | exact below_dr (below_al (Below.refl _ _) _))).mono ?_; rintro e' w2 ⟨A2, n2, cc2, rfl, hO2, hb2, hbw2⟩; have z0 := cell_on x0 hbw2 hws; have z1 := cell_on x1 hbw2 hws; have z2 := cell_on x2 hbw2 hws; have z3 := cell_on x3 hbw2 hws)
                  | (refine step_app (by rfl) _ _ 28 (by rfl) w1.heap.size 45 i0 _ 4 32 Try.underlying28 hi hz0 hz1 hz2 rfl (by omega) Q4.cells_len q4_one (.slice A2 n2 cc2) (es.take k) [p] (by rfl) (own_alloc hO2 _) (w2.heap.size + 1) (some ⟨w2.heap.size, 0, none⟩) 1 1 (by rfl) (sl_box4 w2 p _) (by rw [List.length_take]; omega) (by omega) (by omega) (by have := hbw2.size; simp; omega) ?_; intro v3 w3 ho3 hg3; have hb3 := own_grown (below_al hbw2 _) (own_alloc hO2 _) (Nat.le_refl _) (by have := hbw2.size; simp; omega) hg3; have z0 := cell_on x0 hb3 hws; have z1 := cell_on x1 hb3 hws; have z2 := cell_on x2 hb3 hws; have z3 := cell_on x3 hb3 hws)
                  | (refine step_app (by rfl) _ _ 28 (by rfl) w1.heap.size 45 i0 _ 4 32 Try.underlying28 hi hz0 hz1 hz2 rfl (by omega) Q4.cells_len q4_one (.slice A2 n2 cc2) (es.take k) [p] (by rfl) hO2 w2.heap.size (some ⟨w1.heap.size, 0, none⟩) 1 1 (by rfl) (by first | exact (sl_box4h w1.drew p _).on hb2 | exact ((sl_box4h w1 p _).on (below_dr (Below.refl _ _))).on hb2) (by rw [List.length_take]; omega) (by omega) (by omega) (by have := hbw2.size; omega) ?_; intro v3 w3 ho3 hg3; have hb3 := own_grown hbw2 hO2 (Nat.le_refl _) hbw2.size hg3; have z0 := cell_on x0 hb3 hws; have z1 := cell_on x1 hb3 hws; have z2 := cell_on x2 hb3 hws; have z3 := cell_on x3 hb3 hws)
                  | (refine step_app (by rfl) _ _ 28 (by rfl) w1.heap.size 45 i0 _ 4 32 Try.underlying28 hi hz0 hz1 hz2 rfl (by omega) Q4.cells_len q4_one v3 (es.take k ++ [p]) (es.drop k) (by rfl) ho3 w3.heap.size _ _ _ (by rfl) (hback _ hb3) (by rw [List.length_append, List.length_take]; simp; omega) (by omega) (by omega) (by have := hb3.size; omega) ?_; intro v4 w4 ho4 hg4; have hb4 := own_grown hb3 ho3 (Nat.le_refl _) hb3.size hg4; have z0 := cell_on x0 hb4 hws; have z1 := cell_on x1 hb4 hws; have z2 := cell_on x2 hb4 hws; have z3 := cell_on x3 hb4 hws))
              all_goals (go_wp2; go_ret2; exact ⟨_, by rw [Hc.out]; rfl, by rw [Ho.out]; exact ho4.base_le (Nat.le_of_lt hws), below_then (below_then hal hbel) hb4⟩)
            · have hSl1 := (h.on hal).on hbel
              have hws : w.heap.size < w1.heap.size := by have := hbel.size; simp at this; omega
              have hback : ∀ W, Below w1.heap.size w1 W → Sl W W.heap.size 4 Q4.cells (A.map (·.add (k * 4))) (n - k) (es.drop k) := fun W hW => by
                have := (hSl1.on hW).back k c hpl hnc
                rwa [if_neg hck0] at this
              go_region_held3 (fun w' => w'.cell? ⟨w.heap.size, 0, none⟩ = some (.int .i64 p.a) ∧ w'.cell? ⟨w.heap.size, 1, none⟩ = some (.int .i64 p.b) ∧ w'.cell? ⟨w.heap.size, 2, none⟩ = some (.int .i64 p.c) ∧ w'.cell? ⟨w.heap.size, 3, none⟩ = some (.int .i64 p.d))
                (go_keep)
                (first
                  | (go_at_call 55; refine (clone_front A k _ n es w1 hmax hSl1 hpl _ (by first | exact below_dr (Below.refl _ _) | exact below_al (below_dr (Below.refl _ _)) _ | exact below_dr (below_al (Below.refl _ _) _))).mono ?_; rintro e' w2 ⟨A2, n2, cc2, rfl, hO2, hb2, hbw2⟩; have z0 := cell_on x0 hbw2 hws; have z1 := cell_on x1 hbw2 hws; have z2 := cell_on x2 hbw2 hws; have z3 := cell_on x3 hbw2 hws)
                  | (refine step_app (by rfl) _ _ 28 (by rfl) w1.heap.size 45 i0 _ 4 32 Try.underlying28 hi hz0 hz1 hz2 rfl (by omega) Q4.cells_len q4_one (.slice A2 n2 cc2) (es.take k) [p] (by rfl) (own_alloc hO2 _) (w2.heap.size + 1) (some ⟨w2.heap.size, 0, none⟩) 1 1 (by rfl) (sl_box4 w2 p _) (by rw [List.length_take]; omega) (by omega) (by omega) (by have := hbw2.size; simp; omega) ?_; intro v3 w3 ho3 hg3; have hb3 := own_grown (below_al hbw2 _) (own_alloc hO2 _) (Nat.le_refl _) (by have := hbw2.size; simp; omega) hg3; have z0 := cell_on x0 hb3 hws; have z1 := cell_on x1 hb3 hws; have z2 := cell_on x2 hb3 hws; have z3 := cell_on x3 hb3 hws)
                  | (refine step_app (by rfl) _ _ 28 (by rfl) w1.heap.size 45 i0 _ 4 32 Try.underlying28 hi hz0 hz1 hz2 rfl (by omega) Q4.cells_len q4_one (.slice A2 n2 cc2) (es.take k) [p] (by rfl) hO2 w2.heap.size (some ⟨w1.heap.size, 0, none⟩) 1 1 (by rfl) (by first | exact (sl_box4h w1.drew p _).on hb2 | exact ((sl_box4h w1 p _).on (below_dr (Below.refl _ _))).on hb2) (by rw [List.length_take]; omega) (by omega) (by omega) (by have := hbw2.size; omega) ?_; intro v3 w3 ho3 hg3; have hb3 := own_grown hbw2 hO2 (Nat.le_refl _) hbw2.size hg3; have z0 := cell_on x0 hb3 hws; have z1 := cell_on x1 hb3 hws; have z2 := cell_on x2 hb3 hws; have z3 := cell_on x3 hb3 hws)
                  | (refine step_app (by rfl) _ _ 28 (by rfl) w1.heap.size 45 i0 _ 4 32 Try.underlying28 hi hz0 hz1 hz2 rfl (by omega) Q4.cells_len q4_one v3 (es.take k ++ [p]) (es.drop k) (by rfl) ho3 w3.heap.size _ _ _ (by rfl) (hback _ hb3) (by rw [List.length_append, List.length_take]; simp; omega) (by omega) (by omega) (by have := hb3.size; omega) ?_; intro v4 w4 ho4 hg4; have hb4 := own_grown hb3 ho3 (Nat.le_refl _) hb3.size hg4; have z0 := cell_on x0 hb4 hws; have z1 := cell_on x1 hb4 hws; have z2 := cell_on x2 hb4 hws; have z3 := cell_on x3 hb4 hws))
              all_goals (go_wp2; go_ret2; exact ⟨_, by rw [Hc.out]; rfl, by rw [Ho.out]; exact ho4.base_le (Nat.le_of_lt hws), below_then (below_then hal hbel) hb4⟩)
          · have hn60 : ((n : Int) == 60) = true := by rw [← Hn.out]; simp; have := HL.out; omega
            have hn60' : (60 : Int) ≤ (n : Int) := by rw [← Hn.out]; omega
            have Hc : Hid (addDCode es p = 5) := by show addDCode es p = 5; rw [addDCode_at G1.out G2.out, if_neg (by rw [Ht.out]; simp), if_neg k6]
            have Ho : Hid (addDOut es p = []) := addDOut_neg (by rw [Hc.out]; omega)
            go_wp2_with fail
            go_ret2
            have hbw := below_then hal hbel
            exact ⟨_, by rw [Hc.out]; rfl, by rw [Ho.out]; exact own_new_empty _ _ _ _ _ hbw.size, below_al hbw _⟩
    · have hc : addDCode es p = 2 := by simp [addDCode, g1, g2]
      rw [hc, addDOut_neg (by omega)]
      clear hc
      go_enter Try.func33, Try.ntmps33
      go_wp2_with (first
        | (go_at_call 21; refine (impl_ValidDefects _ _ _ es _ hmax (h.on hal)).mono ?_; rintro e w1 ⟨rfl, hb1⟩; rw [g1]; have hbel := hb1; obtain ⟨x0, x1, x2, x3⟩ := box4k hb1)
        | (go_at_call 52; refine (impl_isDefect p _).mono ?_; rintro e w2 ⟨rfl, hb2⟩; rw [g2]; have hbel := below_then hb1 hb2; obtain ⟨x0, x1, x2, x3⟩ := box4k hbel))
      go_ret2
      have hbw := below_then hal hbel
      exact ⟨_, rfl, own_new_empty _ _ _ _ _ hbw.size, below_al hbw _⟩
  · have hc : addDCode es p = 1 := by simp [addDCode, g1]
    rw [hc, addDOut_neg (by omega)]
    clear hc
    go_enter Try.func33, Try.ntmps33
    go_wp2_with (first
      | (go_at_call 21; refine (impl_ValidDefects _ _ _ es _ hmax (h.on hal)).mono ?_; rintro e w1 ⟨rfl, hb1⟩; rw [g1]; have hbel := hb1; obtain ⟨x0, x1, x2, x3⟩ := box4k hb1)
      | (go_at_call 52; refine (impl_isDefect p _).mono ?_; rintro e w2 ⟨rfl, hb2⟩; rw [g2]; have hbel := below_then hb1 hb2; obtain ⟨x0, x1, x2, x3⟩ := box4k hbel))
    go_ret2
    have hbw := below_then hal hbel
    exact ⟨_, rfl, own_new_empty _ _ _ _ _ hbw.size, below_al hbw _⟩
set_option maxHeartbeats 2000000 in
theorem spec_AddDefect (A : Option Addr) (n c : Nat) (es : List Q4) (p : Q4) (w : World) (hmax : n ≤ 1048576) (hnc : n ≤ c) (h : Sl w w.heap.size 4 Q4.cells A n es) :
    Calls Try.prog 31 #[.slice A n c, .agg #[.int .i64 p.a, .int .i64 p.b, .int .i64 p.c, .int .i64 p.d]] w fun e w' => ∃ v, e = .returned (.tuple #[v, .int .i64 (addDCode es p)]) ∧ Own w' w.heap.size 45 4 Q4.cells v (addDOut es p) ∧ Below w.heap.size w w' := by
  obtain ⟨i0, hi, hz0, hz1, hz2⟩ := info_parts info_Defect
  have hal := below_al (Below.refl w.heap.size w) (.cells #[.int .i64 p.a, .int .i64 p.b, .int .i64 p.c, .int .i64 p.d] 45)
  have step : ∀ (k : Nat) (e : Q4) (es : List Q4), (∀ j x, j < k → es[j]? = some x → dGe p x = false) → es[k]? = some e → dLt e p = true → ∀ j x, j < k + 1 → es[j]? = some x → dGe p x = false := fun k e es hg he hl j x hj hx => by
    rcases Nat.lt_or_ge j k with h1 | h1
    · exact hg j x h1 hx
    · have : j = k := by omega
      subst this; rw [he] at hx; injection hx with hx; subst hx; simp [dGe, hl]
  rcases Bool.eq_false_or_eq_true (defectsOk es) with g1 | g1
  · rcases Bool.eq_false_or_eq_true (defectOk p) with g2 | g2
    · have Hn := Lib.hid h.len
      have HL := Lib.hid (defects_all g1).1
      have G1 := Lib.hid g1
      have G2 := Lib.hid g2
      go_enter Try.func31, Try.ntmps31
      go_wp2_with (first
        | (go_at_call 49; refine (spec_l18Ok _ _ _ es _ hmax (h.on hal)).mono ?_; rintro e w1 ⟨rfl, hb1⟩; rw [g1]; have hbel := hb1; obtain ⟨x0, x1, x2, x3⟩ := box4k hb1)
        | (go_at_call 56; refine (spec_l18One p _).mono ?_; rintro e w2 ⟨rfl, hb2⟩; rw [g2]; have hbel := below_then hb1 hb2; obtain ⟨x0, x1, x2, x3⟩ := box4k hbel))
      clear g1 g2
      go_loopw [6] (fun i wr => ∃ k : Nat, k ≤ n ∧ i = .int .i64 k ∧ Hid (∀ j x, j < k → es[j]? = some x → dGe p x = false) ∧ Below (w.alloc (.cells #[.int .i64 p.a, .int .i64 p.b, .int .i64 p.c, .int .i64 p.d] 45)).heap.size (w.alloc (.cells #[.int .i64 p.a, .int .i64 p.b, .int .i64 p.c, .int .i64 p.d] 45)) wr) (fun i _ => n - (intOf i).toNat)
      case atStart => exact ⟨0, by omega, rfl, Lib.hid (fun j x hj => by omega), hbel⟩
      case round =>
        clear hbel hb1 hb2 x0 x1 x2 x3
        obtain ⟨k, hk, rfl, Hgood, hbel⟩ := hrel
        by_cases hlt : k < n
        · obtain ⟨b, off, rfl, hb, H⟩ := h.at_ (by omega)
          obtain ⟨e, he⟩ := h.get hlt
          have He := Lib.hid he
          clear he
          obtain ⟨r, hr⟩ : ∃ r, dCmp e p = r := ⟨_, rfl⟩
          have hbd : -1 ≤ r ∧ r ≤ 1 := by rw [← hr]; exact dCmp_bd _ _
          have Hr := Lib.hid hr
          clear hr
          rcases Int.lt_or_le r 0 with hr0 | hr0
          · obtain ⟨x0, x1, x2, x3⟩ := box4k hbel
            have z0 := fun d os => cell_regrown x0 d os
            have z1 := fun d os => cell_regrown x1 d os
            have z2 := fun d os => cell_regrown x2 d os
            have z3 := fun d os => cell_regrown x3 d os
            obtain ⟨c0, c1, c2, c3⟩ := (H.below (below_then hal hbel) hb).q4c (Nat.lt_of_lt_of_le hb (below_then hal hbel).size) He.out
            go_wp2_with fail
            refine wp_region_quiet_below (by kernel_rfl) (by kernel_rfl) ?_
            repeat (go_big_quiet_step (exact Calls.regrown_of (spec_l18Before_r e p r Hr.out _)))
            refine wpQuiet_nil ?_
            intro wq hwq
            have hbel := below_then hbel (below_of_class hwq)
            clear hwq
            clear x0 x1 x2 x3 z0 z1 z2 z3 c0 c1 c2 c3
            have hlt' : dLt e p = true := dCmp_neg.1 (by rw [Hr.out]; exact hr0)
            go_wp2_with fail
            go_roundw
            case rel => exact ⟨k + 1, by omega, by go_num, Lib.hid (step _ _ _ Hgood.out He.out hlt'), hbel⟩
            case measure => simp [intOf]; omega
          · have hlt' : dLt e p = false := by
              cases hx : dLt e p with
              | false => rfl
              | true => have := dCmp_neg.2 hx; rw [Hr.out] at this; omega
            have Hk : Hid (dpat es p = k) := fi_at (p := dGe p) Hgood.out He.out (by simp [dGe, hlt'])
            have Hd := Lib.hid (dThere_at Hk.out He.out)
            obtain ⟨x0, x1, x2, x3⟩ := box4k hbel
            have z0 := fun d os => cell_regrown x0 d os
            have z1 := fun d os => cell_regrown x1 d os
            have z2 := fun d os => cell_regrown x2 d os
            have z3 := fun d os => cell_regrown x3 d os
            obtain ⟨c0, c1, c2, c3⟩ := (H.below (below_then hal hbel) hb).q4c (Nat.lt_of_lt_of_le hb (below_then hal hbel).size) He.out
            go_wp2_with fail
            refine wp_region_quiet_below (by kernel_rfl) (by kernel_rfl) ?_
            repeat (go_big_quiet_step (exact Calls.regrown_of (spec_l18Before_r e p r Hr.out _)))
            refine wpQuiet_nil ?_
            intro wq hwq
            have hbel := below_then hbel (below_of_class hwq)
            clear hwq
            clear x0 x1 x2 x3 z0 z1 z2 z3 c0 c1 c2 c3
            have Hl := Lib.hid hlt'
            clear hlt'
            obtain ⟨x0, x1, x2, x3⟩ := box4k hbel
            have z0 := fun d os => cell_regrown x0 d os
            have z1 := fun d os => cell_regrown x1 d os
            have z2 := fun d os => cell_regrown x2 d os
            have z3 := fun d os => cell_regrown x3 d os
            obtain ⟨c0, c1, c2, c3⟩ := (H.below (below_then hal hbel) hb).q4c (Nat.lt_of_lt_of_le hb (below_then hal hbel).size) He.out
            go_wp2_with fail
            by_cases r0 : r = 0
            · have r0' : (r == 0) = true := by simpa using r0
              have Ht : Hid (dThere es p = true) := by show dThere es p = true; rw [Hd.out]; have := (dCmp_zero.1 (Hr.out.trans r0)).2; rw [this]; rfl
              refine wp_region_quiet_below (by kernel_rfl) (by kernel_rfl) ?_
              repeat (go_big_quiet_step (exact Calls.regrown_of (spec_l18Before_r e p r Hr.out _)))
              refine wpQuiet_nil ?_
              intro wq hwq
              have hbel := below_then hbel (below_of_class hwq)
              clear hwq
              clear x0 x1 x2 x3 z0 z1 z2 z3 c0 c1 c2 c3
              have Hc : Hid (addDCode es p = 4) := by show addDCode es p = 4; rw [addDCode_at G1.out G2.out, if_pos Ht.out]
              have Ho : Hid (addDOut es p = []) := addDOut_neg (by rw [Hc.out]; omega)
              go_wp2_with fail
              go_ret2
              have hbw := below_then hal hbel
              exact ⟨_, by rw [Hc.out]; rfl, by rw [Ho.out]; exact own_nil _ _ _ _ _, hbw⟩
            · have r0' : (r == 0) = false := by simpa using r0
              have Ht : Hid (dThere es p = false) := by
                show dThere es p = false
                rw [Hd.out]
                cases hx : dLt p e with
                | true => rfl
                | false => exact absurd (Hr.out.symm.trans (dCmp_zero.2 ⟨Hl.out, hx⟩)) r0
              refine wp_region_quiet_below (by kernel_rfl) (by kernel_rfl) ?_
              repeat (go_big_quiet_step (exact Calls.regrown_of (spec_l18Before_r e p r Hr.out _)))
              refine wpQuiet_nil ?_
              intro wq hwq
              have hbel := below_then hbel (below_of_class hwq)
              clear hwq
              clear x0 x1 x2 x3 z0 z1 z2 z3 c0 c1 c2 c3
              by_cases k6 : es.length < 60
              · have hn60 : ((n : Int) == 60) = false := by rw [← Hn.out]; simp; omega
                have hn60' : (n : Int) < 60 := by rw [← Hn.out]; omega
                have Hc : Hid (addDCode es p = 0) := by show addDCode es p = 0; rw [addDCode_at G1.out G2.out, if_neg (by rw [Ht.out]; simp), if_pos k6]
                have Ho : Hid (addDOut es p = putAt es k p) := addDOut_pos Hc.out Hk.out
                clear k6
                have hkc : (k : Int) ≤ (c : Int) := by omega
                have hkn : (k : Int) ≤ (n : Int) := by omega
                have hpl : k ≤ n := by omega
                obtain ⟨x0, x1, x2, x3⟩ := box4k hbel
                by_cases hck0 : c = k
                · exfalso; omega
                · have hback : ∀ W, Below w.heap.size w W → Sl W w.heap.size 4 Q4.cells (some ⟨b, off + k * 4, none⟩) (n - k) (es.drop k) := fun W hW => by
                    have := (h.below hW).back k c hpl hnc
                    rw [if_neg hck0] at this; simpa [Addr.add_lit] using this
                  go_wp2_with (first
                    | (at_builtin; refine wpList_app rfl _ _ 28 rfl (w.alloc (.cells #[.int .i64 p.a, .int .i64 p.b, .int .i64 p.c, .int .i64 p.d] 45)).heap.size 45 i0 _ 4 32 Try.underlying28 hi hz0 hz1 hz2 rfl (by omega) Q4.cells_len q4_one _ ([] : List Q4) (es.take k) rfl (own_new_empty _ _ _ _ _ hbel.size) w.heap.size _ k _ rfl ((h.front k hpl).below (below_al (below_then hal hbel) _)) (by simp) (by omega) (by omega) (by have := hbel.size; simp at this ⊢; omega) ?_; intro v3 w3 ho3 hg3; rw [List.nil_append] at ho3; have hb3 := own_grown (below_al hbel (.cells #[] 45)) (own_new_empty _ (w.alloc (.cells #[.int .i64 p.a, .int .i64 p.b, .int .i64 p.c, .int .i64 p.d] 45)).heap.size _ 4 Q4.cells hbel.size) (Nat.le_refl _) (by have := hbel.size; simp at this ⊢; omega) hg3; obtain ⟨y0, y1, y2, y3⟩ := box4k hb3; obtain ⟨A3, n3, c3, rfl, _, _⟩ := own_shape ho3)
                    | (at_builtin; refine wpList_push rfl _ _ 28 rfl (w.alloc (.cells #[.int .i64 p.a, .int .i64 p.b, .int .i64 p.c, .int .i64 p.d] 45)).heap.size 45 i0 _ 4 32 Try.underlying28 hi hz0 hz1 hz2 rfl (by omega) Q4.cells_len q4_one _ (es.take k) p rfl ho3 _ rfl _ rfl (by first | rfl | simp) (by rw [List.length_take]; omega) (by omega) (by have := hb3.size; simp at this ⊢; omega) ?_; intro v4 w4 ho4 hg4; have hb4 := own_grown hb3 ho3 (Nat.le_refl _) hb3.size hg4; obtain ⟨A4, n4, c4, rfl, _, _⟩ := own_shape ho4)
                    | (at_builtin; refine wpList_app rfl _ _ 28 rfl (w.alloc (.cells #[.int .i64 p.a, .int .i64 p.b, .int .i64 p.c, .int .i64 p.d] 45)).heap.size 45 i0 _ 4 32 Try.underlying28 hi hz0 hz1 hz2 rfl (by omega) Q4.cells_len q4_one _ (es.take k ++ [p]) (es.drop k) rfl ho4 w.heap.size _ _ _ rfl (hback _ (below_then hal hb4)) (by rw [List.length_append, List.length_take]; simp; omega) (by omega) (by omega) hb4.size ?_; intro v5 w5 ho5 hg5; have hb5 := own_grown hb4 ho4 (Nat.le_refl _) hb4.size hg5))
                  go_ret2
                  exact ⟨_, by rw [Hc.out]; rfl, by rw [Ho.out]; exact ho5.base_le (by simp), below_then hal hb5⟩
              · have hn60 : ((n : Int) == 60) = true := by rw [← Hn.out]; simp; have := HL.out; omega
                have hn60' : (60 : Int) ≤ (n : Int) := by rw [← Hn.out]; omega
                have Hc : Hid (addDCode es p = 5) := by show addDCode es p = 5; rw [addDCode_at G1.out G2.out, if_neg (by rw [Ht.out]; simp), if_neg k6]
                have Ho : Hid (addDOut es p = []) := addDOut_neg (by rw [Hc.out]; omega)
                go_wp2_with fail
                go_ret2
                have hbw := below_then hal hbel
                exact ⟨_, by rw [Hc.out]; rfl, by rw [Ho.out]; exact own_nil _ _ _ _ _, hbw⟩
        · have Hk : Hid (dpat es p = k) := by
            have hk2 : dpat es p = es.length := fi_none fun j x hx => Hgood.out j x (by have := (List.getElem?_eq_some_iff.1 hx).1; have := Hn.out; omega) hx
            show dpat es p = k
            rw [hk2, Hn.out]; omega
          have Ht : Hid (dThere es p = false) := dThere_end (by rw [Hk.out, Hn.out]; omega)
          obtain ⟨x0, x1, x2, x3⟩ := box4k hbel
          have z0 := fun d os => cell_regrown x0 d os
          have z1 := fun d os => cell_regrown x1 d os
          have z2 := fun d os => cell_regrown x2 d os
          have z3 := fun d os => cell_regrown x3 d os
          go_wp2_with fail
          refine wp_region_quiet_below (by kernel_rfl) (by kernel_rfl) ?_
          repeat (go_big_quiet_step (fail))
          refine wpQuiet_nil ?_
          intro wq hwq
          have hbel := below_then hbel (below_of_class hwq)
          clear hwq
          go_wp2_with fail
          refine wp_region_quiet_below (by kernel_rfl) (by kernel_rfl) ?_
          repeat (go_big_quiet_step (fail))
          refine wpQuiet_nil ?_
          intro wq hwq
          have hbel := below_then hbel (below_of_class hwq)
          clear hwq
          clear x0 x1 x2 x3 z0 z1 z2 z3
          by_cases k6 : es.length < 60
          · have hn60 : ((n : Int) == 60) = false := by rw [← Hn.out]; simp; omega
            have hn60' : (n : Int) < 60 := by rw [← Hn.out]; omega
            have Hc : Hid (addDCode es p = 0) := by show addDCode es p = 0; rw [addDCode_at G1.out G2.out, if_neg (by rw [Ht.out]; simp), if_pos k6]
            have Ho : Hid (addDOut es p = putAt es k p) := addDOut_pos Hc.out Hk.out
            clear k6
            have hkc : (k : Int) ≤ (c : Int) := by omega
            have hkn : (k : Int) ≤ (n : Int) := by omega
            have hpl : k ≤ n := by omega
            obtain ⟨x0, x1, x2, x3⟩ := box4k hbel
            by_cases hck0 : c = k
            · have hback : ∀ W, Below w.heap.size w W → Sl W w.heap.size 4 Q4.cells A (n - k) (es.drop k) := fun W hW => by
                have := (h.below hW).back k c hpl hnc
                rwa [if_pos hck0] at this
              go_wp2_with (first
                | (at_builtin; refine wpList_app rfl _ _ 28 rfl (w.alloc (.cells #[.int .i64 p.a, .int .i64 p.b, .int .i64 p.c, .int .i64 p.d] 45)).heap.size 45 i0 _ 4 32 Try.underlying28 hi hz0 hz1 hz2 rfl (by omega) Q4.cells_len q4_one _ ([] : List Q4) (es.take k) rfl (own_new_empty _ _ _ _ _ hbel.size) w.heap.size _ k _ rfl ((h.front k hpl).below (below_al (below_then hal hbel) _)) (by simp) (by omega) (by omega) (by have := hbel.size; simp at this ⊢; omega) ?_; intro v3 w3 ho3 hg3; rw [List.nil_append] at ho3; have hb3 := own_grown (below_al hbel (.cells #[] 45)) (own_new_empty _ (w.alloc (.cells #[.int .i64 p.a, .int .i64 p.b, .int .i64 p.c, .int .i64 p.d] 45)).heap.size _ 4 Q4.cells hbel.size) (Nat.le_refl _) (by have := hbel.size; simp at this ⊢; omega) hg3; obtain ⟨y0, y1, y2, y3⟩ := box4k hb3; obtain ⟨A3, n3, c3, rfl, _, _⟩ := own_shape ho3)
                | (at_builtin; refine wpList_push rfl _ _ 28 rfl (w.alloc (.cells #[.int .i64 p.a, .int .i64 p.b, .int .i64 p.c, .int .i64 p.d] 45)).heap.size 45 i0 _ 4 32 Try.underlying28 hi hz0 hz1 hz2 rfl (by omega) Q4.cells_len q4_one _ (es.take k) p rfl ho3 _ rfl _ rfl (by first | rfl | simp) (by rw [List.length_take]; omega) (by omega) (by have := hb3.size; simp at this ⊢; omega) ?_; intro v4 w4 ho4 hg4; have hb4 := own_grown hb3 ho3 (Nat.le_refl _) hb3.size hg4; obtain ⟨A4, n4, c4, rfl, _, _⟩ := own_shape ho4)
                | (at_builtin; refine wpList_app rfl _ _ 28 rfl (w.alloc (.cells #[.int .i64 p.a, .int .i64 p.b, .int .i64 p.c, .int .i64 p.d] 45)).heap.size 45 i0 _ 4 32 Try.underlying28 hi hz0 hz1 hz2 rfl (by omega) Q4.cells_len q4_one _ (es.take k ++ [p]) (es.drop k) rfl ho4 w.heap.size _ _ _ rfl (hback _ (below_then hal hb4)) (by rw [List.length_append, List.length_take]; simp; omega) (by omega) (by omega) hb4.size ?_; intro v5 w5 ho5 hg5; have hb5 := own_grown hb4 ho4 (Nat.le_refl _) hb4.size hg5))
              go_ret2
              exact ⟨_, by rw [Hc.out]; rfl, by rw [Ho.out]; exact ho5.base_le (by simp), below_then hal hb5⟩
            · have hback : ∀ W, Below w.heap.size w W → Sl W w.heap.size 4 Q4.cells (Option.map (fun (x : Addr) => x.add (k * 4)) A) (n - k) (es.drop k) := fun W hW => by
                have := (h.below hW).back k c hpl hnc
                rwa [if_neg hck0] at this
              go_wp2_with (first
                | (at_builtin; refine wpList_app rfl _ _ 28 rfl (w.alloc (.cells #[.int .i64 p.a, .int .i64 p.b, .int .i64 p.c, .int .i64 p.d] 45)).heap.size 45 i0 _ 4 32 Try.underlying28 hi hz0 hz1 hz2 rfl (by omega) Q4.cells_len q4_one _ ([] : List Q4) (es.take k) rfl (own_new_empty _ _ _ _ _ hbel.size) w.heap.size _ k _ rfl ((h.front k hpl).below (below_al (below_then hal hbel) _)) (by simp) (by omega) (by omega) (by have := hbel.size; simp at this ⊢; omega) ?_; intro v3 w3 ho3 hg3; rw [List.nil_append] at ho3; have hb3 := own_grown (below_al hbel (.cells #[] 45)) (own_new_empty _ (w.alloc (.cells #[.int .i64 p.a, .int .i64 p.b, .int .i64 p.c, .int .i64 p.d] 45)).heap.size _ 4 Q4.cells hbel.size) (Nat.le_refl _) (by have := hbel.size; simp at this ⊢; omega) hg3; obtain ⟨y0, y1, y2, y3⟩ := box4k hb3; obtain ⟨A3, n3, c3, rfl, _, _⟩ := own_shape ho3)
                | (at_builtin; refine wpList_push rfl _ _ 28 rfl (w.alloc (.cells #[.int .i64 p.a, .int .i64 p.b, .int .i64 p.c, .int .i64 p.d] 45)).heap.size 45 i0 _ 4 32 Try.underlying28 hi hz0 hz1 hz2 rfl (by omega) Q4.cells_len q4_one _ (es.take k) p rfl ho3 _ rfl _ rfl (by first | rfl | simp) (by rw [List.length_take]; omega) (by omega) (by have := hb3.size; simp at this ⊢; omega) ?_; intro v4 w4 ho4 hg4; have hb4 := own_grown hb3 ho3 (Nat.le_refl _) hb3.size hg4; obtain ⟨A4, n4, c4, rfl, _, _⟩ := own_shape ho4)
                | (at_builtin; refine wpList_app rfl _ _ 28 rfl (w.alloc (.cells #[.int .i64 p.a, .int .i64 p.b, .int .i64 p.c, .int .i64 p.d] 45)).heap.size 45 i0 _ 4 32 Try.underlying28 hi hz0 hz1 hz2 rfl (by omega) Q4.cells_len q4_one _ (es.take k ++ [p]) (es.drop k) rfl ho4 w.heap.size _ _ _ rfl (hback _ (below_then hal hb4)) (by rw [List.length_append, List.length_take]; simp; omega) (by omega) (by omega) hb4.size ?_; intro v5 w5 ho5 hg5; have hb5 := own_grown hb4 ho4 (Nat.le_refl _) hb4.size hg5))
              go_ret2
              exact ⟨_, by rw [Hc.out]; rfl, by rw [Ho.out]; exact ho5.base_le (by simp), below_then hal hb5⟩
          · have hn60 : ((n : Int) == 60) = true := by rw [← Hn.out]; simp; have := HL.out; omega
            have hn60' : (60 : Int) ≤ (n : Int) := by rw [← Hn.out]; omega
            have Hc : Hid (addDCode es p = 5) := by show addDCode es p = 5; rw [addDCode_at G1.out G2.out, if_neg (by rw [Ht.out]; simp), if_neg k6]
            have Ho : Hid (addDOut es p = []) := addDOut_neg (by rw [Hc.out]; omega)
            go_wp2_with fail
            go_ret2
            have hbw := below_then hal hbel
            exact ⟨_, by rw [Hc.out]; rfl, by rw [Ho.out]; exact own_nil _ _ _ _ _, hbw⟩
    · have hc : addDCode es p = 2 := by simp [addDCode, g1, g2]
      rw [hc, addDOut_neg (by omega)]
      clear hc
      go_enter Try.func31, Try.ntmps31
      go_wp2_with (first
        | (go_at_call 49; refine (spec_l18Ok _ _ _ es _ hmax (h.on hal)).mono ?_; rintro e w1 ⟨rfl, hb1⟩; rw [g1]; have hbel := hb1; obtain ⟨x0, x1, x2, x3⟩ := box4k hb1)
        | (go_at_call 56; refine (spec_l18One p _).mono ?_; rintro e w2 ⟨rfl, hb2⟩; rw [g2]; have hbel := below_then hb1 hb2; obtain ⟨x0, x1, x2, x3⟩ := box4k hbel))
      go_ret2
      have hbw := below_then hal hbel
      exact ⟨_, rfl, own_nil _ _ _ _ _, hbw⟩
  · have hc : addDCode es p = 1 := by simp [addDCode, g1]
    rw [hc, addDOut_neg (by omega)]
    clear hc
    go_enter Try.func31, Try.ntmps31
    go_wp2_with (first
      | (go_at_call 49; refine (spec_l18Ok _ _ _ es _ hmax (h.on hal)).mono ?_; rintro e w1 ⟨rfl, hb1⟩; rw [g1]; have hbel := hb1; obtain ⟨x0, x1, x2, x3⟩ := box4k hb1)
      | (go_at_call 56; refine (spec_l18One p _).mono ?_; rintro e w2 ⟨rfl, hb2⟩; rw [g2]; have hbel := below_then hb1 hb2; obtain ⟨x0, x1, x2, x3⟩ := box4k hbel))
    go_ret2
    have hbw := below_then hal hbel
    exact ⟨_, rfl, own_nil _ _ _ _ _, hbw⟩

end Go.Proofs.Ytccajbnklegniaa

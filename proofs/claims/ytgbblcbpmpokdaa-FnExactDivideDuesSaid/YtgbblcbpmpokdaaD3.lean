/- Walks over functions of this seat, by contract. Conditions: those that each theorem states. -/
import Derived.Test.YtgbblcbpmpokdaaD2
import Derived.Test.YtgbblcbpmpokdaaApp
namespace Go.Proofs.Ytgbblcbpmpokdaa
open Go.RowKit Go.Sort

theorem info_i64 : (Try.prog.info? 2).map (fun i => (i.zero, i.size, i.bytes)) = some (some (.int .i64 0), 1, 8) := by kernel_rfl
set_option maxHeartbeats 400000 in
set_option maxRecDepth 100000 in
theorem impl_indicesWhere (g : Nat) (caps : Array Value) (n : Nat) (p : Nat → Bool) (w : World) (hmax : n ≤ 1048576) (hcall : ∀ args W, (callFunc g args).run Try.prog W = .ok (.enter g args) W)
    (hso : ∀ (i : Nat) (W : World), i < n → Below w.heap.size w W → Calls Try.prog g (#[.int .i64 i] ++ caps) W fun e w' => e = .returned (.bool (p i)) ∧ Below W.heap.size W w') :
    Calls Try.prog 76 #[.int .i64 n, .func (.func g) #[] caps] w fun e w' => ∃ v, e = .returned v ∧ Own w' w.heap.size 2 1 icell v (idxs p n) ∧ Below w.heap.size w w' := by
  obtain ⟨i0, hi, hz0, hz1, hz2⟩ := info_parts info_i64
  have HSO := Lib.hid hso
  clear hso
  go_enter Try.func76, Try.ntmps76
  go_wp2
  go_loopw [5, 6] (fun v i wr => ∃ k : Nat, k ≤ n ∧ i = .int .i64 k ∧ Own wr w.heap.size 2 1 icell v (idxs p k) ∧ Below w.heap.size w wr) (fun _ i _ => n - (intOf i).toNat)
  case atStart => exact ⟨0, by omega, rfl, own_new_empty _ _ _ _ _ (Nat.le_refl _), below_al (Below.refl _ _) _⟩
  case round =>
    obtain ⟨k, hk, rfl, hown, hbel⟩ := hrel
    have Hown := Lib.hid hown
    have hll := idxs_len p k
    clear hown
    by_cases hlt : k < n
    · go_wp2_with (first
        | (at_builtin; refine wpList_push rfl _ _ 23 rfl w.heap.size 2 i0 (.int .i64 0) 1 8 Try.underlying23 hi hz0 hz1 hz2 rfl (by omega) icell_len (fun e u hu => by simp [icell] at hu; subst hu; rfl) _ _ (k : Int) rfl (Hown.out.below hb1 (Nat.le_refl _)) _ rfl _ rfl (by first | rfl | simp) (by omega) (by omega) (by have := hbel.size; have := hb1.size; omega) ?_; intro v2 w2 ho2 hg2; have hbel2 := own_grown (below_then hbel hb1) (Hown.out.below hb1 (Nat.le_refl _)) (Nat.le_refl _) (Nat.le_trans hbel.size hb1.size) hg2; have Ho2 := Lib.hid ho2; clear ho2)
        | (refine (HSO.out k _ hlt hbel).mono ?_; rintro e w1 ⟨rfl, hb1⟩))
      · have hp : p k = true := by assumption
        go_roundw
        case rel => exact ⟨k + 1, by omega, by go_num, by rw [idxs_yes hp]; exact Ho2.out, hbel2⟩
        case measure => simp [intOf]; omega
      · have hp : p k = false := by assumption
        go_roundw
        case rel => exact ⟨k + 1, by omega, by go_num, by rw [idxs_no hp]; exact Hown.out.below hb1 (Nat.le_refl _), below_then hbel hb1⟩
        case measure => simp [intOf]; omega
    · go_wp2
      go_ret
      have hkn : k = n := by omega
      subst hkn
      exact ⟨_, rfl, Hown.out, hbel⟩
def dcode (es : List Q4) (day : Int) : Int := if defectsOk es = false then 1 else if inR day 1 100000 = false then 2 else 0
theorem dcode_zero {es : List Q4} {day : Int} : dcode es day = 0 ↔ defectsOk es = true ∧ inR day 1 100000 = true := by
  unfold dcode; cases defectsOk es <;> cases inR day 1 100000 <;> simp
def dOpen (q : Q4) (day : Int) : Bool := decide (q.c ≤ day) && (q.d == 0 || decide (day < q.d))
def openP (es : List Q4) (day : Int) (i : Nat) : Bool := match es[i]? with | some q => dOpen q day | none => false
def openIdx (es : List Q4) (day : Int) : List Int := idxs (openP es day) es.length
def openRes (es : List Q4) (day : Int) : List Int := if dcode es day = 0 then openIdx es day else []
theorem openP_at {es : List Q4} {day : Int} {i : Nat} {q : Q4} (h : es[i]? = some q) : openP es day i = dOpen q day := by simp [openP, h]
theorem impl_isOpen (q : Q4) (day : Int) (w : World) : Calls Try.prog 79 #[.agg #[.int .i64 q.a, .int .i64 q.b, .int .i64 q.c, .int .i64 q.d], .int .i64 day] w fun e w' => e = .returned (.bool (dOpen q day)) ∧ Below w.heap.size w w' := by
  go_enter Try.func79, Try.ntmps79
  go_wp2
  all_goals (go_ret; exact ⟨ret_bool (by simp_all [dOpen]; try omega), below_al (Below.refl _ _) _⟩)
theorem impl_isOpen_r (q : Q4) (day : Int) (r : Bool) (hr : dOpen q day = r) (w : World) : Calls Try.prog 79 #[.agg #[.int .i64 q.a, .int .i64 q.b, .int .i64 q.c, .int .i64 q.d], .int .i64 day] w fun e w' => e = .returned (.bool r) ∧ Below w.heap.size w w' := by
  subst hr; exact impl_isOpen q day w
theorem spec_l18Open (q : Q4) (day : Int) (w : World) : Calls Try.prog 72 #[.agg #[.int .i64 q.a, .int .i64 q.b, .int .i64 q.c, .int .i64 q.d], .int .i64 day] w fun e w' => e = .returned (.bool (dOpen q day)) ∧ Below w.heap.size w w' := by
  go_enter Try.func72, Try.ntmps72
  go_wp2
  all_goals (go_ret; exact ⟨ret_bool (by simp_all [dOpen]; try omega), below_al (Below.refl _ _) _⟩)
theorem spec_l18Code (A : Option Addr) (n c : Nat) (es : List Q4) (day : Int) (w : World) (hmax : n ≤ 1048576) (h : Sl w w.heap.size 4 Q4.cells A n es) :
    Calls Try.prog 37 #[.slice A n c, .int .i64 day] w fun e w' => e = .returned (.int .i64 (dcode es day)) ∧ Below w.heap.size w w' := by
  rcases Bool.eq_false_or_eq_true (defectsOk es) with g1 | g1 <;> rcases Bool.eq_false_or_eq_true (inR day 1 100000) with g2 | g2
  all_goals
    go_enter Try.func37, Try.ntmps37
    go_wp2_with (first
      | (go_at_call 71; refine (spec_l18Ok _ _ _ es _ hmax h).mono ?_; rintro e w1 ⟨rfl, hb1⟩; rw [g1])
      | (go_at_call 38; refine (spec_l00In _ _ _ _).mono ?_; rintro e w' ⟨rfl, rfl⟩; rw [g2]))
    go_ret
    exact ⟨ret_int (by simp [dcode, g1, g2]), hb1⟩
theorem impl_defectsCode (A : Option Addr) (n c : Nat) (es : List Q4) (day : Int) (w : World) (hmax : n ≤ 1048576) (h : Sl w w.heap.size 4 Q4.cells A n es) :
    Calls Try.prog 44 #[.slice A n c, .int .i64 day] w fun e w' => e = .returned (.int .i64 (dcode es day)) ∧ Below w.heap.size w w' := by
  rcases Bool.eq_false_or_eq_true (defectsOk es) with g1 | g1 <;> rcases Bool.eq_false_or_eq_true (inR day 1 100000) with g2 | g2
  all_goals
    go_enter Try.func44, Try.ntmps44
    go_wp2_with (first
      | (go_at_call 74; refine (impl_ValidDefects _ _ _ es _ hmax h).mono ?_; rintro e w1 ⟨rfl, hb1⟩; rw [g1])
      | (go_at_call 75; refine (impl_isDate _ _).mono ?_; rintro e w' ⟨rfl, rfl⟩; rw [g2]))
    go_ret
    exact ⟨ret_int (by simp [dcode, g1, g2]), hb1⟩
set_option maxRecDepth 100000 in
theorem impl_openDefects_1 (i : Nat) (g0 g1 : Nat) (A : Option Addr) (n c : Nat) (es : List Q4) (day : Int) (W : World) (hi : i < n) (hmax : n ≤ 1048576)
    (x0 : W.cell? ⟨g0, 0, none⟩ = some (.slice A n c)) (x1 : W.cell? ⟨g1, 0, none⟩ = some (.int .i64 day)) (h : Sl W W.heap.size 4 Q4.cells A n es) :
    Calls Try.prog 78 #[.int .i64 i, .pointer (some ⟨g0, 0, none⟩), .pointer (some ⟨g1, 0, none⟩)] W fun e w' => e = .returned (.bool (openP es day i)) ∧ Below W.heap.size W w' := by
  obtain ⟨b, off, rfl, hb, H⟩ := h.at_ (by omega)
  obtain ⟨e, he⟩ := h.get hi
  obtain ⟨c0, c1, c2, c3⟩ := H.q4 he
  rw [openP_at he]
  clear he
  go_enter Try.func78, Try.ntmps78
  have z0 := fun d os => cell_regrown x0 d os
  have z1 := fun d os => cell_regrown x1 d os
  have y0 := fun d os => cell_regrown c0 d os
  have y1 := fun d os => cell_regrown c1 d os
  have y2 := fun d os => cell_regrown c2 d os
  have y3 := fun d os => cell_regrown c3 d os
  go_wp2_with fail
  refine wp_region_quiet_below (by kernel_rfl) (by kernel_rfl) ?_
  repeat (go_big_quiet_step (exact Calls.regrown_of (impl_isOpen e _ _)))
  refine wpQuiet_nil ?_
  intro wq hwq
  have hbq := below_of_class hwq
  clear hwq
  go_wp2
  go_ret
  exact ⟨rfl, hbq⟩
set_option maxHeartbeats 400000 in
set_option maxRecDepth 100000 in
theorem impl_openDefects (A : Option Addr) (n c : Nat) (es : List Q4) (day : Int) (w : World) (hmax : n ≤ 1048576) (h : Sl w w.heap.size 4 Q4.cells A n es) :
    Calls Try.prog 46 #[.slice A n c, .int .i64 day] w fun e w' => ∃ v, e = .returned v ∧ Own w' w.heap.size 2 1 icell v (openIdx es day) ∧ Below w.heap.size w w' := by
  obtain ⟨wA, hwA⟩ : ∃ wA, wA = (w.alloc (.cells #[.slice A n c] 38)).alloc (.cells #[.int .i64 day] 2) := ⟨_, rfl⟩
  have hb1 := Below.refl wA.heap.size wA
  rw [hwA] at hb1
  obtain ⟨x0, x1, hs1, hbel⟩ := boxes2 hb1
  clear hwA hb1
  go_enter Try.func46, Try.ntmps46
  go_wp2_with fail
  refine (impl_size_impl.Defect _ _ _ _ (by omega)).mono ?_
  rintro e w' ⟨rfl, rfl⟩
  go_wp2_with fail
  have hcall : ∀ args W, (callFunc 78 args).run Try.prog W = .ok (.enter 78 args) W := fun _ _ => by kernel_rfl
  refine (impl_indicesWhere 78 _ n (openP es day) _ hmax hcall (fun i W hi hW => ?_)).mono ?_
  · exact impl_openDefects_1 i _ _ A n c es day W hi hmax (cell_on x0 hW (by omega)) (cell_on x1 hW hs1) ((h.on hbel).on hW)
  rintro e w2 ⟨v, rfl, ho, hb2⟩
  go_wp2_with fail
  go_ret
  exact ⟨v, rfl, by rw [openIdx, h.len]; exact ho.base_le hbel.size, below_then hbel hb2⟩
set_option maxHeartbeats 400000 in
set_option maxRecDepth 100000 in
theorem spec_l18List (A : Option Addr) (n c : Nat) (es : List Q4) (day : Int) (w : World) (hmax : n ≤ 1048576) (h : Sl w w.heap.size 4 Q4.cells A n es) :
    Calls Try.prog 39 #[.slice A n c, .int .i64 day] w fun e w' => ∃ v, e = .returned v ∧ Own w' w.heap.size 2 1 icell v (openIdx es day) ∧ Below w.heap.size w w' := by
  obtain ⟨i0, hi, hz0, hz1, hz2⟩ := info_parts info_i64
  have Hn := Lib.hid h.len
  go_enter Try.func39, Try.ntmps39
  go_wp2
  go_loopw [5, 6] (fun v i wr => ∃ k : Nat, k ≤ n ∧ i = .int .i64 k ∧ Own wr w.heap.size 2 1 icell v (idxs (openP es day) k) ∧ Below w.heap.size w wr) (fun _ i _ => n - (intOf i).toNat)
  case atStart => exact ⟨0, by omega, rfl, own_new_empty _ _ _ _ _ (Nat.le_refl _), below_al (Below.refl _ _) _⟩
  case round =>
    obtain ⟨k, hk, rfl, hown, hbel⟩ := hrel
    have Hown := Lib.hid hown
    clear hown
    have hll := idxs_len (openP es day) k
    by_cases hlt : k < n
    · obtain ⟨b, off, rfl, hb, H⟩ := h.at_ (by omega)
      obtain ⟨e, he⟩ := h.get hlt
      obtain ⟨c0, c1, c2, c3⟩ := (H.below hbel hb).q4 he
      have Hp : Hid (openP es day k = dOpen e day) := by show openP es day k = dOpen e day; exact openP_at he
      clear he
      go_wp2_with (first
        | (at_builtin; refine wpList_push rfl _ _ 23 rfl w.heap.size 2 i0 (.int .i64 0) 1 8 Try.underlying23 hi hz0 hz1 hz2 rfl (by omega) icell_len (fun e u hu => by simp [icell] at hu; subst hu; rfl) _ _ (k : Int) rfl (Hown.out.below hb2 (Nat.le_refl _)) _ rfl _ rfl (by first | rfl | simp) (by omega) (by omega) (by have := hbel.size; have := hb2.size; omega) ?_; intro v3 w3 ho3 hg3; have hbel3 := own_grown (below_then hbel hb2) (Hown.out.below hb2 (Nat.le_refl _)) (Nat.le_refl _) (Nat.le_trans hbel.size hb2.size) hg3; have Ho3 := Lib.hid ho3; clear ho3)
        | (go_at_call 72; refine (spec_l18Open e _ _).mono ?_; rintro e' w2 ⟨rfl, hb2⟩))
      · have hp : dOpen e day = true := by assumption
        go_roundw
        case rel => exact ⟨k + 1, by omega, by go_num, by rw [idxs_yes (by rw [Hp.out]; exact hp)]; exact Ho3.out, hbel3⟩
        case measure => simp [intOf]; omega
      · have hp : dOpen e day = false := by assumption
        go_roundw
        case rel => exact ⟨k + 1, by omega, by go_num, by rw [idxs_no (by rw [Hp.out]; exact hp)]; exact Hown.out.below hb2 (Nat.le_refl _), below_then hbel hb2⟩
        case measure => simp [intOf]; omega
    · go_wp2
      go_ret
      have hkn : k = n := by omega
      subst hkn
      exact ⟨_, rfl, by rw [openIdx, Hn.out]; exact Hown.out, hbel⟩

end Go.Proofs.Ytgbblcbpmpokdaa

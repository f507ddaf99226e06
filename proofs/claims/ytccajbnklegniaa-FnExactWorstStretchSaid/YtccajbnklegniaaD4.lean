/- Walks over functions of this seat, by contract. Conditions: those that each theorem states. -/
import Derived.Test.YtccajbnklegniaaD3
namespace Go.Proofs.Ytccajbnklegniaa
open Go.RowKit Go.Sort

/-- the sums of val by key, for the keys below N -/
def sumsOf (key val : Q4 → Int) (N : Nat) (es : List Q4) : List Int := (List.range N).map fun (o : Nat) => sumBy (fun q => if key q = (o : Int) then val q else 0) es
theorem sumsOf_len (key val : Q4 → Int) (N : Nat) (es : List Q4) : (sumsOf key val N es).length = N := by simp [sumsOf]
theorem sumsOf_get {key val : Q4 → Int} {N : Nat} {es : List Q4} {o : Nat} (h : o < N) : (sumsOf key val N es)[o]? = some (sumBy (fun q => if key q = (o : Int) then val q else 0) es) := by
  simp [sumsOf, h]
theorem sumsOf_zero (key val : Q4 → Int) (N : Nat) (es : List Q4) : sumsOf key val N (es.take 0) = List.replicate N 0 := by
  apply List.ext_getElem
  · simp [sumsOf]
  · intro i h1 h2; simp [sumsOf, sumBy]
theorem sumsOf_succ {key val : Q4 → Int} {N : Nat} {es : List Q4} {k o : Nat} {e : Q4} (he : es[k]? = some e) (ho : key e = (o : Int)) :
    sumsOf key val N (es.take (k + 1)) = (sumsOf key val N (es.take k)).set o (sumBy (fun q => if key q = (o : Int) then val q else 0) (es.take k) + val e) := by
  apply List.ext_getElem?
  intro i
  rw [List.getElem?_set]
  rcases Nat.lt_or_ge i N with hi | hi
  · rw [sumsOf_get hi, sumsOf_get hi, sumBy_succ he, sumsOf_len]
    by_cases h : o = i
    · subst h; rw [if_pos rfl, if_pos hi, if_pos ho]
    · have : ¬ key e = (i : Int) := by omega
      rw [if_neg h, if_neg this, Int.add_zero]
  · rw [List.getElem?_eq_none (by rw [sumsOf_len]; exact hi), List.getElem?_eq_none (by rw [sumsOf_len]; exact hi), sumsOf_len]
    split <;> simp_all <;> omega
theorem own_zeros (w : World) (E N : Nat) (hm : N ≤ 1048576) : Own (w.alloc (.cells (madeCells #[.int .i64 0] N) E)) w.heap.size E 1 icell (.slice (some ⟨w.heap.size, 0, none⟩) N N) (List.replicate N (0 : Int)) := by
  refine ⟨by rw [flat_len icell_len], .inr ⟨w.heap.size, N, _, by simp, Nat.le_refl _, heap_alloc_new w _, by simp, by unfold maxLen; omega, by simp [size_madeCells], ?_⟩⟩
  rw [icell_flat]
  apply List.ext_getElem
  · simp [madeCells]
  · intro i h1 h2
    simp [madeCells, Nat.mod_one]
theorem idxs_filter (p : Nat → Bool) (f : Int → Bool) (n : Nat) : (idxs p n).filter f = idxs (fun i => p i && f (i : Int)) n := by
  induction n with
  | zero => rfl
  | succ n ih =>
    cases hp : p n with
    | false => rw [idxs_no hp, ih, idxs_no (by simp [hp])]
    | true =>
      rw [idxs_yes hp, List.filter_append, ih]
      cases hf : f (n : Int) with
      | false => rw [idxs_no (by simp [hf])]; simp [hf]
      | true => rw [idxs_yes (by simp [hp, hf])]; simp [hf]
def daysOf (k : Int) : Int := if k = 1 then 30 else if k = 2 then 90 else if k = 3 then 10 else if k = 4 then 365 else 3
theorem daysOf_bd (k : Int) : 3 ≤ daysOf k ∧ daysOf k ≤ 365 := by unfold daysOf; repeat' split
                                                                  all_goals omega
def daysCode (k : Int) : Int := if inR k 1 5 = true then 0 else 2
def daysRes (k : Int) : Int := if inR k 1 5 = true then daysOf k else 0
theorem impl_daysFor (k : Int) (h1 : 1 ≤ k) (h2 : k ≤ 5) (w : World) : Calls Try.prog 46 #[.int .i64 k] w fun e w' => e = .returned (.int .i64 (daysOf k)) ∧ Below w.heap.size w w' := by
  have hk : k = 1 ∨ k = 2 ∨ k = 3 ∨ k = 4 ∨ k = 5 := by omega
  clear h1 h2
  have i1 : ∀ w, (Instr.index 69 (.agg #[.int .i64 0, .int .i64 30, .int .i64 90, .int .i64 10, .int .i64 365, .int .i64 3]) (.int .i64 1)).run Try.prog w = .ok (.int .i64 30) w := fun _ => by kernel_rfl
  have i2 : ∀ w, (Instr.index 69 (.agg #[.int .i64 0, .int .i64 30, .int .i64 90, .int .i64 10, .int .i64 365, .int .i64 3]) (.int .i64 2)).run Try.prog w = .ok (.int .i64 90) w := fun _ => by kernel_rfl
  have i3 : ∀ w, (Instr.index 69 (.agg #[.int .i64 0, .int .i64 30, .int .i64 90, .int .i64 10, .int .i64 365, .int .i64 3]) (.int .i64 3)).run Try.prog w = .ok (.int .i64 10) w := fun _ => by kernel_rfl
  have i4 : ∀ w, (Instr.index 69 (.agg #[.int .i64 0, .int .i64 30, .int .i64 90, .int .i64 10, .int .i64 365, .int .i64 3]) (.int .i64 4)).run Try.prog w = .ok (.int .i64 365) w := fun _ => by kernel_rfl
  have i5 : ∀ w, (Instr.index 69 (.agg #[.int .i64 0, .int .i64 30, .int .i64 90, .int .i64 10, .int .i64 365, .int .i64 3]) (.int .i64 5)).run Try.prog w = .ok (.int .i64 3) w := fun _ => by kernel_rfl
  rcases hk with rfl | rfl | rfl | rfl | rfl
  all_goals
    go_enter Try.func46, Try.ntmps46
    go_wp2
    go_ret
    first | exact ⟨rfl, Below.refl _ _⟩ | exact ⟨rfl, below_al (Below.refl _ _) _⟩
theorem spec_l18Days (k : Int) (h1 : 1 ≤ k) (h2 : k ≤ 5) (w : World) : Calls Try.prog 44 #[.int .i64 k] w fun e w' => e = .returned (.int .i64 (daysOf k)) ∧ Below w.heap.size w w' := by
  have hk : k = 1 ∨ k = 2 ∨ k = 3 ∨ k = 4 ∨ k = 5 := by omega
  clear h1 h2
  rcases hk with rfl | rfl | rfl | rfl | rfl
  all_goals
    go_enter Try.func44, Try.ntmps44
    go_wp2
    go_ret
    exact ⟨rfl, below_al (Below.refl _ _) _⟩
theorem impl_DaysFor (k : Int) (w : World) : Calls Try.prog 14 #[.int .i64 k] w fun e w' => e = .returned (.tuple #[.int .i64 (daysRes k), .int .i64 (daysCode k)]) ∧ Below w.heap.size w w' := by
  rcases Bool.eq_false_or_eq_true (inR k 1 5) with g | g
  · obtain ⟨h1, h2⟩ := inR_iff.1 g
    rw [daysRes, daysCode, if_pos g, if_pos g]
    go_enter Try.func14, Try.ntmps14
    go_wp2_with (first
      | (go_at_call 45; refine (impl_in _ _ _ _).mono ?_; rintro e w' ⟨rfl, rfl⟩; rw [g])
      | (go_at_call 46; refine (impl_daysFor _ h1 h2 _).mono ?_; rintro e w' ⟨rfl, hb1⟩))
    go_ret2
    exact ⟨rfl, hb1⟩
  · rw [daysRes, daysCode, if_neg (by simp [g]), if_neg (by simp [g])]
    go_enter Try.func14, Try.ntmps14
    go_wp2_with (go_at_call 45; refine (impl_in _ _ _ _).mono ?_; rintro e w' ⟨rfl, rfl⟩; rw [g])
    go_ret2
    exact ⟨rfl, Below.refl _ _⟩
theorem spec_DaysFor (k : Int) (w : World) : Calls Try.prog 13 #[.int .i64 k] w fun e w' => e = .returned (.tuple #[.int .i64 (daysRes k), .int .i64 (daysCode k)]) ∧ Below w.heap.size w w' := by
  rcases Bool.eq_false_or_eq_true (inR k 1 5) with g | g
  · obtain ⟨h1, h2⟩ := inR_iff.1 g
    rw [daysRes, daysCode, if_pos g, if_pos g]
    go_enter Try.func13, Try.ntmps13
    go_wp2_with (first
      | (go_at_call 43; refine (spec_l00In _ _ _ _).mono ?_; rintro e w' ⟨rfl, rfl⟩; rw [g])
      | (go_at_call 44; refine (spec_l18Days _ h1 h2 _).mono ?_; rintro e w' ⟨rfl, hb1⟩))
    go_ret2
    exact ⟨rfl, hb1⟩
  · rw [daysRes, daysCode, if_neg (by simp [g]), if_neg (by simp [g])]
    go_enter Try.func13, Try.ntmps13
    go_wp2_with (go_at_call 43; refine (spec_l00In _ _ _ _).mono ?_; rintro e w' ⟨rfl, rfl⟩; rw [g])
    go_ret2
    exact ⟨rfl, Below.refl _ _⟩
def lateD (es : List Q4) (day : Int) (x : Int) : Bool := match es[x.toNat]? with | some q => decide (q.c + daysOf q.b < day) | none => false
def lateP (es : List Q4) (day : Int) (i : Nat) : Bool := openP es day i && lateD es day (i : Int)
def lateRes (es : List Q4) (day : Int) : List Int := if dcode es day = 0 then idxs (lateP es day) es.length else []
theorem lateD_at {es : List Q4} {day : Int} {i : Nat} {q : Q4} (h : es[i]? = some q) : lateD es day (i : Int) = decide (q.c + daysOf q.b < day) := by simp [lateD, h]
theorem impl_LateDefects_1 (i : Nat) (g0 g1 : Nat) (A : Option Addr) (n c : Nat) (es : List Q4) (day : Int) (W : World) (hi : i < n) (hmax : n ≤ 1048576) (hok : defectsOk es = true)
    (x0 : W.cell? ⟨g0, 0, none⟩ = some (.slice A n c)) (x1 : W.cell? ⟨g1, 0, none⟩ = some (.int .i64 day)) (h : Sl W W.heap.size 4 Q4.cells A n es) :
    Calls Try.prog 70 #[.int .i64 i, .pointer (some ⟨g0, 0, none⟩), .pointer (some ⟨g1, 0, none⟩)] W fun e w' => e = .returned (.bool (lateP es day i)) ∧ Below W.heap.size W w' := by
  obtain ⟨b, off, rfl, hb, H⟩ := h.at_ (by omega)
  obtain ⟨e, he⟩ := h.get hi
  obtain ⟨c0, c1, c2, c3⟩ := H.q4 he
  obtain ⟨_, ⟨b1, b2⟩, ⟨b3, b4⟩, _⟩ := defectOk_iff.1 ((defects_all hok).2 e (List.mem_of_getElem? he))
  obtain ⟨b5, b6⟩ := daysOf_bd e.b
  rw [lateP, openP_at he, lateD_at he]
  clear he
  rcases Bool.eq_false_or_eq_true (dOpen e day) with ho | ho
  all_goals
    rw [ho]
    go_enter Try.func70, Try.ntmps70
    have z0 := fun d os => cell_regrown x0 d os
    have z1 := fun d os => cell_regrown x1 d os
    have y0 := fun d os => cell_regrown c0 d os
    have y1 := fun d os => cell_regrown c1 d os
    have y2 := fun d os => cell_regrown c2 d os
    have y3 := fun d os => cell_regrown c3 d os
    go_wp2_with fail
    refine wp_region_quiet_below (by kernel_rfl) (by kernel_rfl) ?_
    repeat (go_big_quiet_step (first | exact Calls.regrown_of (impl_isOpen_r e _ _ ho _) | exact Calls.regrown_of (impl_daysFor _ b1 b2 _)))
    refine wpQuiet_nil ?_
    intro wq hwq
    have hbq := below_of_class hwq
    clear hwq
    go_wp2
    go_ret
    exact ⟨rfl, hbq⟩
set_option maxHeartbeats 400000 in
theorem impl_LateDefects (A : Option Addr) (n c : Nat) (es : List Q4) (day : Int) (w : World) (hmax : n ≤ 1048576) (h : Sl w w.heap.size 4 Q4.cells A n es) :
    Calls Try.prog 42 #[.slice A n c, .int .i64 day] w fun e w' => ∃ v, e = .returned (.tuple #[v, .int .i64 (dcode es day)]) ∧ Own w' w.heap.size 2 1 icell v (lateRes es day) ∧ Below w.heap.size w w' := by
  by_cases k : dcode es day = 0
  · have hr : lateRes es day = idxs (lateP es day) n := by rw [lateRes, if_pos k, h.len]
    obtain ⟨k1, k2⟩ := dcode_zero.1 k
    rw [hr, k]
    go_enter Try.func42, Try.ntmps42
    go_wp2_with (go_at_call 65; refine (impl_defectsCode _ _ _ es _ _ hmax (h.on (below_al (below_al (Below.refl _ _) _) _))).mono ?_; rintro e w1 ⟨rfl, hb1⟩; obtain ⟨x0, x1, hs1, hbel⟩ := boxes2 hb1; rw [k])
    refine (impl_size_impl.Defect _ _ _ _ (by omega)).mono ?_
    rintro e w' ⟨rfl, rfl⟩
    go_wp2_with fail
    have hcall : ∀ args W, (callFunc 70 args).run Try.prog W = .ok (.enter 70 args) W := fun _ _ => by kernel_rfl
    refine (impl_indicesWhere 70 _ n (lateP es day) w1 hmax hcall (fun i W hi hW => ?_)).mono ?_
    · exact impl_LateDefects_1 i _ _ A n c es day W hi hmax k1 (cell_on x0 hW (by omega)) (cell_on x1 hW hs1) ((h.on hbel).on hW)
    rintro e w2 ⟨v, rfl, ho, hb2⟩
    go_wp2_with fail
    go_ret2
    exact ⟨v, rfl, ho.base_le hbel.size, below_then hbel hb2⟩
  · have hr : lateRes es day = [] := if_neg k
    have hne : (dcode es day != 0) = true := by simpa using k
    rw [hr]
    go_enter Try.func42, Try.ntmps42
    go_wp2_with (go_at_call 65; refine (impl_defectsCode _ _ _ es _ _ hmax (h.on (below_al (below_al (Below.refl _ _) _) _))).mono ?_; rintro e w1 ⟨rfl, hb1⟩; obtain ⟨x0, x1, hs1, hbel⟩ := boxes2 hb1)
    go_ret2
    exact ⟨_, rfl, own_new_empty _ _ _ _ _ hbel.size, below_al hbel _⟩

end Go.Proofs.Ytccajbnklegniaa

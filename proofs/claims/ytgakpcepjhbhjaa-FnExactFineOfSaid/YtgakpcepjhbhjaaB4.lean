/- Walks over functions of this seat, by contract. Conditions: those that each theorem states. -/
import Derived.Test.YtgakpcepjhbhjaaIx
namespace Go.Proofs.Ytgakpcepjhbhjaa
open Go.RowKit Go.Sort

def overCode (es : List Q4) (day days : Int) : Int := if billsOk es = false then 1 else if daysOk day days = false then 2 else 0
def overP (es : List Q4) (day days : Int) (i : Nat) : Bool := match es[i]? with | some q => lateB q day days | none => false
def overRes (es : List Q4) (day days : Int) : List Int := if overCode es day days = 0 then idxs (overP es day days) es.length else []
theorem overCode_zero {es : List Q4} {day days : Int} : overCode es day days = 0 ↔ billsOk es = true ∧ daysOk day days = true := by
  unfold overCode
  cases billsOk es <;> cases daysOk day days <;> simp
theorem impl_OverdueBills_1 (i : Nat) (g0 g1 g2 : Nat) (A : Option Addr) (n c : Nat) (es : List Q4) (day days : Int) (W : World) (hi : i < n) (hmax : n ≤ 1048576) (hok : billsOk es = true) (hdays : daysOk day days = true)
    (x0 : W.cell? ⟨g0, 0, none⟩ = some (.slice A n c)) (x1 : W.cell? ⟨g1, 0, none⟩ = some (.int .i64 day)) (x2 : W.cell? ⟨g2, 0, none⟩ = some (.int .i64 days)) (h : Sl W W.heap.size 4 Q4.cells A n es) :
    Calls Try.prog 54 #[.int .i64 i, .pointer (some ⟨g0, 0, none⟩), .pointer (some ⟨g1, 0, none⟩), .pointer (some ⟨g2, 0, none⟩)] W fun e w' => e = .returned (.bool (overP es day days i)) ∧ Below W.heap.size W w' := by
  obtain ⟨b, off, rfl, hb, H⟩ := h.at_ (by omega)
  obtain ⟨e, he⟩ := h.get hi
  obtain ⟨c0, c1, c2, c3⟩ := H.q4 he
  obtain ⟨_, hbb, hcc, hdd⟩ := billOk_iff.1 ((bills_all hok).2 e (List.mem_of_getElem? he))
  have hr : overP es day days i = lateB e day days := by simp [overP, he]
  rw [hr]
  clear hr he
  go_enter Try.func54, Try.ntmps54
  have z0 := fun d os => cell_regrown x0 d os
  have z1 := fun d os => cell_regrown x1 d os
  have z2 := fun d os => cell_regrown x2 d os
  have y0 := fun d os => cell_regrown c0 d os
  have y1 := fun d os => cell_regrown c1 d os
  have y2 := fun d os => cell_regrown c2 d os
  have y3 := fun d os => cell_regrown c3 d os
  go_wp2_with fail
  refine wp_region_quiet_below (by kernel_rfl) (by kernel_rfl) ?_
  repeat (go_big_quiet_step (exact Calls.regrown_of (Bill_isOverdue e _ _ _ hbb (daysOk_iff.1 hdays).2 hdd.1 hcc.2 hdd.2)))
  refine wpQuiet_nil ?_
  intro wq hwq
  have hbq := below_of_class hwq
  clear hwq
  go_wp2
  go_ret
  exact ⟨rfl, hbq⟩
set_option maxHeartbeats 400000 in
theorem impl_OverdueBills (A : Option Addr) (n c : Nat) (es : List Q4) (day days : Int) (w : World) (hmax : n ≤ 1048576) (h : Sl w w.heap.size 4 Q4.cells A n es) :
    Calls Try.prog 26 #[.slice A n c, .int .i64 day, .int .i64 days] w fun e w' => ∃ v, e = .returned (.tuple #[v, .int .i64 (overCode es day days)]) ∧ Own w' w.heap.size 2 1 icell v (overRes es day days) ∧ Below w.heap.size w w' := by
  by_cases k1 : billsOk es = true
  · by_cases k2 : daysOk day days = true
    · go_enter Try.func26, Try.ntmps26
      go_wp2_with (first
        | (go_at_call 20; refine (impl_ValidBills _ _ _ es _ hmax (h.on (below_al (below_al (below_al (Below.refl _ _) _) _) _))).mono ?_; rintro e w1 ⟨rfl, hb1⟩; obtain ⟨x0, x1, x2, hs1, hbel⟩ := boxes3 hb1; rw [k1])
        | (go_at_call 40; refine (impl_areDueDays _ _ _).mono ?_; rintro e w' ⟨rfl, rfl⟩; rw [k2]))
      refine (impl_size_impl.Bill _ _ _ _ (by omega)).mono ?_
      rintro e w' ⟨rfl, rfl⟩
      go_wp2_with fail
      have hcall : ∀ args W, (callFunc 54 args).run Try.prog W = .ok (.enter 54 args) W := fun _ _ => by kernel_rfl
      refine (impl_indicesWhere 54 _ n (overP es day days) w1 hmax hcall (fun i W hi hW => ?_)).mono ?_
      · exact impl_OverdueBills_1 i _ _ _ A n c es day days W hi hmax k1 k2 (cell_on x0 hW (by omega)) (cell_on x1 hW (by omega)) (cell_on x2 hW hs1) ((h.on hbel).on hW)
      rintro e w2 ⟨v, rfl, ho, hb2⟩
      go_wp2_with fail
      go_ret2
      have hc : overCode es day days = 0 := overCode_zero.2 ⟨k1, k2⟩
      have hr : overRes es day days = idxs (overP es day days) n := by rw [overRes, if_pos hc, h.len]
      exact ⟨v, by rw [hc]; rfl, by rw [hr]; exact ho.base_le hbel.size, below_then hbel hb2⟩
    · have k2' : daysOk day days = false := by simpa using k2
      go_enter Try.func26, Try.ntmps26
      go_wp2_with (first
        | (go_at_call 20; refine (impl_ValidBills _ _ _ es _ hmax (h.on (below_al (below_al (below_al (Below.refl _ _) _) _) _))).mono ?_; rintro e w1 ⟨rfl, hb1⟩; obtain ⟨x0, x1, x2, hs1, hbel⟩ := boxes3 hb1; rw [k1])
        | (go_at_call 40; refine (impl_areDueDays _ _ _).mono ?_; rintro e w' ⟨rfl, rfl⟩; rw [k2']))
      go_ret2
      have hc : overCode es day days = 2 := by simp [overCode, k1, k2]
      have hr : overRes es day days = [] := by rw [overRes, if_neg (by rw [hc]; decide)]
      exact ⟨_, by rw [hc]; rfl, by rw [hr]; exact own_new_empty _ _ _ _ _ hbel.size, below_al hbel _⟩
  · have k1' : billsOk es = false := by simpa using k1
    go_enter Try.func26, Try.ntmps26
    go_wp2_with (go_at_call 20; refine (impl_ValidBills _ _ _ es _ hmax (h.on (below_al (below_al (below_al (Below.refl _ _) _) _) _))).mono ?_; rintro e w1 ⟨rfl, hb1⟩; obtain ⟨x0, x1, x2, hs1, hbel⟩ := boxes3 hb1; rw [k1'])
    go_ret2
    have hc : overCode es day days = 1 := by simp [overCode, k1]
    have hr : overRes es day days = [] := by rw [overRes, if_neg (by rw [hc]; decide)]
    exact ⟨_, by rw [hc]; rfl, by rw [hr]; exact own_new_empty _ _ _ _ _ hbel.size, below_al hbel _⟩

end Go.Proofs.Ytgakpcepjhbhjaa

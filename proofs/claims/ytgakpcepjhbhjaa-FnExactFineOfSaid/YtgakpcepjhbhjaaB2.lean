/- Walks over functions of this seat, by contract. Conditions: those that each theorem states. -/
import Derived.Test.YtgakpcepjhbhjaaBl
namespace Go.Proofs.Ytgakpcepjhbhjaa
open Go.RowKit Go.Sort

def lateB (q : Q4) (day days : Int) : Bool := decide (q.d < q.c) && decide (q.b + days < day)
theorem spec_l20Late (q : Q4) (day days : Int) (w : World) (hb : 0 ≤ q.b ∧ q.b ≤ 100000) (hd : 0 ≤ days ∧ days ≤ 1000) :
    Calls Try.prog 38 #[.agg #[.int .i64 q.a, .int .i64 q.b, .int .i64 q.c, .int .i64 q.d], .int .i64 day, .int .i64 days] w fun e w' => e = .returned (.bool (lateB q day days)) ∧ Below w.heap.size w w' := by
  obtain ⟨h1, h2⟩ := hb
  obtain ⟨h3, h4⟩ := hd
  by_cases k1 : q.d < q.c
  all_goals by_cases k2 : q.b + days < day
  all_goals
    go_enter Try.func38, Try.ntmps38
    go_wp2
    go_ret
    exact ⟨ret_bool (by simp [lateB, k1, k2]), below_al (Below.refl _ _) _⟩
theorem Bill_open (q : Q4) (w : World) (hd : 0 ≤ q.d) (hc : q.c ≤ 1000000000) (hdc : q.d ≤ q.c) :
    Calls Try.prog 42 #[.agg #[.int .i64 q.a, .int .i64 q.b, .int .i64 q.c, .int .i64 q.d]] w fun e w' => e = .returned (.int .i64 (q.c - q.d)) ∧ Below w.heap.size w w' := by
  go_enter Try.func42, Try.ntmps42
  go_wp2
  go_ret
  exact ⟨rfl, below_al (Below.refl _ _) _⟩
theorem Bill_isOverdue (q : Q4) (day days : Int) (w : World) (hb : 0 ≤ q.b ∧ q.b ≤ 100000) (hd : 0 ≤ days ∧ days ≤ 1000) (hp : 0 ≤ q.d) (hc : q.c ≤ 1000000000) (hdc : q.d ≤ q.c) :
    Calls Try.prog 41 #[.agg #[.int .i64 q.a, .int .i64 q.b, .int .i64 q.c, .int .i64 q.d], .int .i64 day, .int .i64 days] w fun e w' => e = .returned (.bool (lateB q day days)) ∧ Below w.heap.size w w' := by
  obtain ⟨h1, h2⟩ := hb
  obtain ⟨h3, h4⟩ := hd
  by_cases k1 : q.d < q.c
  all_goals by_cases k2 : q.b + days < day
  all_goals
    go_enter Try.func41, Try.ntmps41
    go_wp2_with (go_at_call 42; refine (Bill_open q _ hp hc hdc).mono ?_; rintro e w' ⟨rfl, hb1⟩; obtain ⟨hcell, hfro⟩ := below_reads hb1)
    go_ret
    exact ⟨ret_bool (by simp [lateB]; omega), below_then (below_al (Below.refl _ _) _) hb1⟩
def fine (q : Q4) (day days : Int) : Int × Int :=
  if billOk q = false then (0, 1) else if daysOk day days = false then (0, 2) else if lateB q day days = false then (0, 0) else ((q.c - q.d) / 100 * ((day - q.b - days + 29) / 30), 0)
theorem daysOk_iff {day days : Int} : daysOk day days = true ↔ (0 ≤ day ∧ day ≤ 100000) ∧ 0 ≤ days ∧ days ≤ 1000 := by simp [daysOk, inR_iff]
theorem fine_bd {c d b day days : Int} (h1 : 0 ≤ c - d) (h2 : c - d ≤ 1000000000) (h3 : 0 ≤ day - b - days + 29) (h4 : day - b - days + 29 ≤ 200000) :
    0 ≤ (c - d) / 100 * ((day - b - days + 29) / 30) ∧ (c - d) / 100 * ((day - b - days + 29) / 30) ≤ 100000000000 := by
  have h5 : 0 ≤ (c - d) / 100 ∧ (c - d) / 100 ≤ 10000000 := by omega
  have h6 : 0 ≤ (day - b - days + 29) / 30 ∧ (day - b - days + 29) / 30 ≤ 7000 := by omega
  refine ⟨Int.mul_nonneg h5.1 h6.1, ?_⟩
  have := Int.mul_le_mul h5.2 h6.2 h6.1 (by omega)
  omega
theorem spec_FineOf (q : Q4) (day days : Int) (w : World) :
    Calls Try.prog 11 #[.agg #[.int .i64 q.a, .int .i64 q.b, .int .i64 q.c, .int .i64 q.d], .int .i64 day, .int .i64 days] w fun e w' => e = .returned (.tuple #[.int .i64 (fine q day days).1, .int .i64 (fine q day days).2]) ∧ Below w.heap.size w w' := by
  by_cases k1 : billOk q = true
  · obtain ⟨_, hb, hc, hd⟩ := billOk_iff.1 k1
    by_cases k2 : daysOk day days = true
    · obtain ⟨g1, g2⟩ := daysOk_iff.1 k2
      by_cases k3 : lateB q day days = true
      · obtain ⟨b1, b2⟩ := hb
        obtain ⟨c1, c2⟩ := hc
        obtain ⟨d1, d2⟩ := hd
        obtain ⟨g11, g12⟩ := g1
        obtain ⟨g21, g22⟩ := g2
        have hl : q.d < q.c ∧ q.b + days < day := by simpa [lateB] using k3
        obtain ⟨l1, l2⟩ := hl
        obtain ⟨m1, m2⟩ := fine_bd (c := q.c) (d := q.d) (b := q.b) (day := day) (days := days) (by omega) (by omega) (by omega) (by omega)
        have hfine : fine q day days = ((q.c - q.d) / 100 * ((day - q.b - days + 29) / 30), 0) := by unfold fine; simp [k1, k2, k3]
        rw [hfine]
        clear hfine
        go_enter Try.func11, Try.ntmps11
        go_wp2_with (first
          | (go_at_call 36; refine (spec_l20One_at q true k1 _).mono ?_; rintro e w1 ⟨rfl, hb1⟩; obtain ⟨x0, x1, x2, x3⟩ := box4k hb1)
          | (go_at_call 37; refine (spec_l20Days _ _ _).mono ?_; rintro e w' ⟨rfl, rfl⟩; rw [k2])
          | (go_at_call 38; refine (spec_l20Late q _ _ _ ⟨b1, b2⟩ ⟨g21, g22⟩).mono ?_; rintro e w2 ⟨rfl, hb2⟩; have hb3 := below_then hb1 hb2; obtain ⟨y0, y1, y2, y3⟩ := box4k hb3; rw [k3]))
        go_ret2
        exact ⟨rfl, below_then (below_al (Below.refl _ _) _) hb3⟩
      · have k3' : lateB q day days = false := by simpa using k3
        have hfine : fine q day days = (0, 0) := by unfold fine; simp [k1, k2, k3]
        rw [hfine]
        go_enter Try.func11, Try.ntmps11
        go_wp2_with (first
          | (go_at_call 36; refine (spec_l20One_at q true k1 _).mono ?_; rintro e w1 ⟨rfl, hb1⟩; obtain ⟨x0, x1, x2, x3⟩ := box4k hb1)
          | (go_at_call 37; refine (spec_l20Days _ _ _).mono ?_; rintro e w' ⟨rfl, rfl⟩; rw [k2])
          | (go_at_call 38; refine (spec_l20Late q _ _ _ hb g2).mono ?_; rintro e w2 ⟨rfl, hb2⟩; have hb3 := below_then hb1 hb2; obtain ⟨y0, y1, y2, y3⟩ := box4k hb3; rw [k3']))
        go_ret2
        exact ⟨rfl, below_then (below_al (Below.refl _ _) _) hb3⟩
    · have k2' : daysOk day days = false := by simpa using k2
      have hfine : fine q day days = (0, 2) := by unfold fine; simp [k1, k2]
      rw [hfine]
      go_enter Try.func11, Try.ntmps11
      go_wp2_with (first
        | (go_at_call 36; refine (spec_l20One_at q true k1 _).mono ?_; rintro e w1 ⟨rfl, hb1⟩; obtain ⟨x0, x1, x2, x3⟩ := box4k hb1)
        | (go_at_call 37; refine (spec_l20Days _ _ _).mono ?_; rintro e w' ⟨rfl, rfl⟩; rw [k2']))
      go_ret2
      exact ⟨rfl, below_then (below_al (Below.refl _ _) _) hb1⟩
  · have k1' : billOk q = false := by simpa using k1
    have hfine : fine q day days = (0, 1) := by unfold fine; simp [k1]
    rw [hfine]
    go_enter Try.func11, Try.ntmps11
    go_wp2_with (go_at_call 36; refine (spec_l20One_at q false k1' _).mono ?_; rintro e w1 ⟨rfl, hb1⟩; obtain ⟨x0, x1, x2, x3⟩ := box4k hb1)
    go_ret2
    exact ⟨rfl, below_then (below_al (Below.refl _ _) _) hb1⟩
theorem impl_FineOf (q : Q4) (day days : Int) (w : World) :
    Calls Try.prog 13 #[.agg #[.int .i64 q.a, .int .i64 q.b, .int .i64 q.c, .int .i64 q.d], .int .i64 day, .int .i64 days] w fun e w' => e = .returned (.tuple #[.int .i64 (fine q day days).1, .int .i64 (fine q day days).2]) ∧ Below w.heap.size w w' := by
  by_cases k1 : billOk q = true
  · obtain ⟨_, hb, hc, hd⟩ := billOk_iff.1 k1
    by_cases k2 : daysOk day days = true
    · obtain ⟨g1, g2⟩ := daysOk_iff.1 k2
      by_cases k3 : lateB q day days = true
      · obtain ⟨b1, b2⟩ := hb
        obtain ⟨c1, c2⟩ := hc
        obtain ⟨d1, d2⟩ := hd
        obtain ⟨g11, g12⟩ := g1
        obtain ⟨g21, g22⟩ := g2
        have hl : q.d < q.c ∧ q.b + days < day := by simpa [lateB] using k3
        obtain ⟨l1, l2⟩ := hl
        obtain ⟨m1, m2⟩ := fine_bd (c := q.c) (d := q.d) (b := q.b) (day := day) (days := days) (by omega) (by omega) (by omega) (by omega)
        have hfine : fine q day days = ((q.c - q.d) / 100 * ((day - q.b - days + 29) / 30), 0) := by unfold fine; simp [k1, k2, k3]
        rw [hfine]
        clear hfine
        go_enter Try.func13, Try.ntmps13
        go_wp2_with (first
          | (go_at_call 39; refine (impl_isBill q _).mono ?_; rintro e w1 ⟨rfl, hb1⟩; obtain ⟨x0, x1, x2, x3⟩ := box4k hb1; rw [k1])
          | (go_at_call 40; refine (impl_areDueDays _ _ _).mono ?_; rintro e w' ⟨rfl, rfl⟩; rw [k2])
          | (go_at_call 43; refine (impl_ceilDiv_30 _ (by omega) (by omega) _).mono ?_; rintro e w' ⟨rfl, rfl⟩)
          | (go_at_call 42; refine (Bill_open q _ d1 c2 d2).mono ?_; rintro e w4 ⟨rfl, hb4⟩; have hb5 := below_then hb3 hb4; obtain ⟨z0, z1, z2, z3⟩ := box4k hb5)
          | (go_at_call 41; refine (Bill_isOverdue q _ _ _ ⟨b1, b2⟩ ⟨g21, g22⟩ d1 c2 d2).mono ?_; rintro e w2 ⟨rfl, hb2⟩; have hb3 := below_then hb1 hb2; obtain ⟨y0, y1, y2, y3⟩ := box4k hb3; rw [k3]))
        have z0 := fun d os => cell_regrown y0 d os
        have z1 := fun d os => cell_regrown y1 d os
        have z2 := fun d os => cell_regrown y2 d os
        have z3 := fun d os => cell_regrown y3 d os
        refine wp_region_quiet_below (by kernel_rfl) (by kernel_rfl) ?_
        repeat (go_big_quiet_step (first
          | (go_at_call 42; exact Calls.regrown_of (Bill_open q _ d1 c2 d2))
          | (go_at_call 43; exact Calls.regrown_of (calls_below (impl_ceilDiv_30 _ (by omega) (by omega) _)))))
        refine wpQuiet_nil ?_
        intro wq hwq
        have hb4 := below_then hb3 (below_of_class hwq)
        clear hwq z0 z1 z2 z3
        go_wp2
        go_ret2
        exact ⟨rfl, below_then (below_al (Below.refl _ _) _) hb4⟩
      · have k3' : lateB q day days = false := by simpa using k3
        have hfine : fine q day days = (0, 0) := by unfold fine; simp [k1, k2, k3]
        rw [hfine]
        go_enter Try.func13, Try.ntmps13
        go_wp2_with (first
          | (go_at_call 39; refine (impl_isBill q _).mono ?_; rintro e w1 ⟨rfl, hb1⟩; obtain ⟨x0, x1, x2, x3⟩ := box4k hb1; rw [k1])
          | (go_at_call 40; refine (impl_areDueDays _ _ _).mono ?_; rintro e w' ⟨rfl, rfl⟩; rw [k2])
          | (go_at_call 41; refine (Bill_isOverdue q _ _ _ hb g2 hd.1 hc.2 hd.2).mono ?_; rintro e w2 ⟨rfl, hb2⟩; have hb3 := below_then hb1 hb2; obtain ⟨y0, y1, y2, y3⟩ := box4k hb3; rw [k3']))
        go_ret2
        exact ⟨rfl, below_then (below_al (Below.refl _ _) _) hb3⟩
    · have k2' : daysOk day days = false := by simpa using k2
      have hfine : fine q day days = (0, 2) := by unfold fine; simp [k1, k2]
      rw [hfine]
      go_enter Try.func13, Try.ntmps13
      go_wp2_with (first
        | (go_at_call 39; refine (impl_isBill q _).mono ?_; rintro e w1 ⟨rfl, hb1⟩; obtain ⟨x0, x1, x2, x3⟩ := box4k hb1; rw [k1])
        | (go_at_call 40; refine (impl_areDueDays _ _ _).mono ?_; rintro e w' ⟨rfl, rfl⟩; rw [k2']))
      go_ret2
      exact ⟨rfl, below_then (below_al (Below.refl _ _) _) hb1⟩
  · have k1' : billOk q = false := by simpa using k1
    have hfine : fine q day days = (0, 1) := by unfold fine; simp [k1]
    rw [hfine]
    go_enter Try.func13, Try.ntmps13
    go_wp2_with (go_at_call 39; refine (impl_isBill q _).mono ?_; rintro e w1 ⟨rfl, hb1⟩; obtain ⟨x0, x1, x2, x3⟩ := box4k hb1; rw [k1'])
    go_ret2
    exact ⟨rfl, below_then (below_al (Below.refl _ _) _) hb1⟩

end Go.Proofs.Ytgakpcepjhbhjaa

/- Walks over functions of this seat, by contract. Conditions: those that each theorem states. -/
import Derived.Test.YtgakpcepjhbhjaaCl
namespace Go.Proofs.Ytgakpcepjhbhjaa
open Go.RowKit Go.Sort

set_option maxHeartbeats 400000 in
theorem spec_OverdueBills (A : Option Addr) (n c : Nat) (es : List Q4) (day days : Int) (w : World) (hmax : n ≤ 1048576) (h : Sl w w.heap.size 4 Q4.cells A n es) :
    Calls Try.prog 25 #[.slice A n c, .int .i64 day, .int .i64 days] w fun e w' => ∃ v, e = .returned (.tuple #[v, .int .i64 (overCode es day days)]) ∧ Own w' w.heap.size 2 1 icell v (overRes es day days) ∧ Below w.heap.size w w' := by
  obtain ⟨i0, hi, hz0, hz1, hz2⟩ := info_parts info_i64
  by_cases k1 : billsOk es = true
  · by_cases k2 : daysOk day days = true
    · have Hn := Lib.hid h.len
      have Hk := Lib.hid k1
      obtain ⟨⟨d1, d2⟩, d3, d4⟩ := daysOk_iff.1 k2
      have Hr : Hid (∀ v w', Own w' w.heap.size 2 1 icell v (idxs (overP es day days) n) → overCode es day days = 0 ∧ Own w' w.heap.size 2 1 icell v (overRes es day days)) := fun v w' ho => by
        have hc : overCode es day days = 0 := overCode_zero.2 ⟨k1, k2⟩
        exact ⟨hc, by rw [overRes, if_pos hc, Hn.out]; exact ho⟩
      go_enter Try.func25, Try.ntmps25
      go_wp2_with (first
        | (go_at_call 46; refine (spec_l20Ok _ _ _ es _ hmax h).mono ?_; rintro e w1 ⟨rfl, hb1⟩; rw [k1])
        | (go_at_call 37; refine (spec_l20Days _ _ _).mono ?_; rintro e w' ⟨rfl, rfl⟩; rw [k2]))
      clear k1 k2
      go_loopw [8, 9] (fun v i wr => ∃ k : Nat, k ≤ n ∧ i = .int .i64 k ∧ Own wr w.heap.size 2 1 icell v (idxs (overP es day days) k) ∧ Below w.heap.size w wr) (fun _ i _ => n - (intOf i).toNat)
      case atStart => exact ⟨0, by omega, rfl, own_new_empty _ _ _ _ _ hb1.size, below_al hb1 _⟩
      case round =>
        obtain ⟨k, hk, rfl, hown, hbel⟩ := hrel
        have Hown := Lib.hid hown
        clear hown
        have hll := idxs_len (overP es day days) k
        by_cases hlt : k < n
        · obtain ⟨b, off, rfl, hb, H⟩ := h.at_ (by omega)
          obtain ⟨e, he⟩ := h.get hlt
          obtain ⟨c0, c1, c2, c3⟩ := (H.below hbel hb).q4 he
          obtain ⟨_, ⟨b1, b2⟩, _, _⟩ := billOk_iff.1 ((bills_all Hk.out).2 e (List.mem_of_getElem? he))
          have Hp : Hid (overP es day days k = lateB e day days) := by show overP es day days k = lateB e day days; simp [overP, he]
          clear he
          go_wp2_with (first
            | (at_builtin; refine wpList_push rfl _ _ 41 rfl w.heap.size 2 i0 (.int .i64 0) 1 8 Try.underlying41 hi hz0 hz1 hz2 rfl (by omega) icell_len (fun e u hu => by simp [icell] at hu; subst hu; rfl) _ _ (k : Int) rfl (Hown.out.below hb2 (Nat.le_refl _)) _ rfl _ rfl (by first | rfl | simp) (by omega) (by omega) (by have := hbel.size; have := hb2.size; omega) ?_; intro v3 w3 ho3 hg3; have hbel3 := own_grown (below_then hbel hb2) (Hown.out.below hb2 (Nat.le_refl _)) (Nat.le_refl _) (Nat.le_trans hbel.size hb2.size) hg3; have Ho3 := Lib.hid ho3; clear ho3)
            | (go_at_call 38; refine (spec_l20Late e _ _ _ ⟨b1, b2⟩ ⟨d3, d4⟩).mono ?_; rintro e' w2 ⟨rfl, hb2⟩))
          · have hp : lateB e day days = true := by assumption
            go_roundw
            case rel => exact ⟨k + 1, by omega, by go_num, by rw [idxs_yes (by rw [Hp.out]; exact hp)]; exact Ho3.out, hbel3⟩
            case measure => simp [intOf]; omega
          · have hp : lateB e day days = false := by assumption
            go_roundw
            case rel => exact ⟨k + 1, by omega, by go_num, by rw [idxs_no (by rw [Hp.out]; exact hp)]; exact Hown.out.below hb2 (Nat.le_refl _), below_then hbel hb2⟩
            case measure => simp [intOf]; omega
        · go_wp2
          go_ret2
          have hkn : k = n := by omega
          subst hkn
          obtain ⟨h1, h2⟩ := Hr.out _ _ Hown.out
          exact ⟨_, by rw [h1]; rfl, h2, hbel⟩
    · have k2' : daysOk day days = false := by simpa using k2
      go_enter Try.func25, Try.ntmps25
      go_wp2_with (first
        | (go_at_call 46; refine (spec_l20Ok _ _ _ es _ hmax h).mono ?_; rintro e w1 ⟨rfl, hb1⟩; rw [k1])
        | (go_at_call 37; refine (spec_l20Days _ _ _).mono ?_; rintro e w' ⟨rfl, rfl⟩; rw [k2']))
      go_ret2
      have hc : overCode es day days = 2 := by simp [overCode, k1, k2]
      have hr : overRes es day days = [] := by rw [overRes, if_neg (by rw [hc]; decide)]
      exact ⟨_, by rw [hc]; rfl, by rw [hr]; exact own_nil _ _ _ _ _, hb1⟩
  · have k1' : billsOk es = false := by simpa using k1
    go_enter Try.func25, Try.ntmps25
    go_wp2_with (go_at_call 46; refine (spec_l20Ok _ _ _ es _ hmax h).mono ?_; rintro e w1 ⟨rfl, hb1⟩; rw [k1'])
    go_ret2
    have hc : overCode es day days = 1 := by simp [overCode, k1]
    have hr : overRes es day days = [] := by rw [overRes, if_neg (by rw [hc]; decide)]
    exact ⟨_, by rw [hc]; rfl, by rw [hr]; exact own_nil _ _ _ _ _, hb1⟩

end Go.Proofs.Ytgakpcepjhbhjaa

/- Walks over functions of this seat, by contract. Conditions: those that each theorem states. -/
import Derived.Test.YtogjkcakoahpiaaDoorR5
namespace Go.Proofs.YtogjkcakoahpiaaDoor
open Go.RowKit Go.Sort

set_option maxHeartbeats 4000000 in
set_option maxRecDepth 100000 in
set_option linter.unusedSimpArgs false in
theorem spec_ReadDefect (l : List UInt8) (w : World) (hl : l.length ≤ 1048576) : Calls Tryd.prog 5 #[.string (bs l)] w fun e w' => e = .returned (resQ (readF (spl 32 l))) ∧ Below w.heap.size w w' := by
  obtain ⟨ws, hws⟩ : ∃ ws, spl 32 l = ws := ⟨_, rfl⟩
  have C1 := Lib.hid (fun W => spec_l01Split l 32 32 (by decide) W hl)
  have hwl : ∀ x ∈ ws, x.length ≤ 1048576 := fun x hx => by have := spl_long (c := 32) (l := l) (x := x) (by rw [hws]; exact hx); omega
  have hne : ws ≠ [] := by rw [← hws]; exact spl_ne 32 l
  rw [hws] at C1 ⊢
  clear hws
  have hb0 : 0 < ws.length := List.length_pos_iff.2 hne
  by_cases h4 : ws.length = 4
  rotate_left
  by_cases h6 : ws.length = 6
  rotate_left
  · have HR := Lib.hid (readF_len h4 h6)
    obtain ⟨b0, rest, rfl⟩ : ∃ b rest, ws = b :: rest := by
      cases ws with
      | nil => simp at hb0
      | cons b rest => exact ⟨b, rest, rfl⟩
    obtain ⟨m, hm⟩ : ∃ m, ((b0 :: rest).map bs).length = m := ⟨_, rfl⟩
    have hm4 : ¬ (m : Int) = 4 := by rw [List.length_map] at hm; omega
    have hm6 : ¬ (m : Int) = 6 := by rw [List.length_map] at hm; omega
    have hm0 : 0 < m := by rw [List.length_map] at hm; omega
    have Hm := Lib.hid hm
    clear h4 h6 hb0 hne hm
    go_enter Tryd.func5, Tryd.ntmps5
    go_wp2_with fail
    refine (C1.out _).mono ?_
    rintro e w1 ⟨v, rfl, ho, hB⟩
    obtain ⟨g, c, rfl, hgb, hg, hh⟩ := own_cells ho scl_len Hm.out hm0
    clear ho
    have c0 := hh.s0 (k := 0) rfl
    clear hh
    obtain ⟨k0, k1, k2, k3, kf, kl⟩ := box4s hB
    have j0 : (0 : Int) < (m : Int) := by omega
    go_wp2_with fail
    exact bodyPost_ret (v := .tuple #[.agg #[.int .i64 0, .int .i64 0, .int .i64 0, .int .i64 0], .bool false]) (by simp [results, Tryd.results5, go_sem, k0, k1, k2, k3, kl]) rfl ⟨by rw [HR.out]; rfl, below_st4 (below_one hB) (Nat.le_refl _) _ _ _ _ _ _ _ _⟩
  · obtain ⟨a0, a1, a2, a3, rfl⟩ := four_of h4
    clear h4 hb0 hne
    have hl0 := hwl a0 (by simp)
    have hl3 := hwl a3 (by simp)
    clear hwl
    rcases List.eq_nil_or_concat a0 with rfl | ⟨r, x, rfl⟩
    · have HR := Lib.hid (readF4_not (a0 := []) (a1 := a1) (a2 := a2) (a3 := a3) (fun h => by have := h.1; simp at this))
      have hsz : (bs []).size = 0 := rfl
      go_enter Tryd.func5, Tryd.ntmps5
      go_wp2_with fail
      refine (C1.out _).mono ?_
      rintro e w1 ⟨v, rfl, ho, hB⟩
      obtain ⟨g, c, rfl, hgb, hg, hh⟩ := own_cells ho scl_len rfl (by decide : 0 < 4)
      clear ho
      have c0 := hh.s0 (k := 0) rfl
      have c1 := hh.s0 (k := 1) rfl
      have c2 := hh.s0 (k := 2) rfl
      have c3 := hh.s0 (k := 3) rfl
      clear hh
      obtain ⟨k0, k1, k2, k3, kf, kl⟩ := box4s hB
      go_wp2_with fail
      exact bodyPost_ret (v := .tuple #[.agg #[.int .i64 0, .int .i64 0, .int .i64 0, .int .i64 0], .bool false]) (by simp [results, Tryd.results5, go_sem, k0, k1, k2, k3, kl]) rfl ⟨by rw [HR.out]; rfl, below_st4 (below_one hB) (Nat.le_refl _) _ _ _ _ _ _ _ _⟩
    simp only [List.concat_eq_append] at *
    have hr : r.length ≤ 1048576 := by simp at hl0; omega
    have hsz : (bs (r ++ [x])).size = r.length + 1 := by rw [bs_size]; simp
    have hg0 : (bs (r ++ [x]))[r.length]'(by rw [hsz]; omega) = x := by rw [bs_get]; simp
    have hw : IntKind.i64.wrap (r.length : Int) = (r.length : Int) := by rw [IntKind.wrap_i64]; omega
    have i0 : (0 : Int) ≤ (r.length : Int) := by omega
    have i1 : (r.length : Int) < (r.length : Int) + 1 := by omega
    have i2 : ¬ (r.length : Int) < 0 := by omega
    by_cases hx : x = 109
    rotate_left
    · have HR := Lib.hid (readF4_not (a0 := r ++ [x]) (a1 := a1) (a2 := a2) (a3 := a3) (fun h => hx (by have := h.1; simpa using this)))
      have hxn : ((x.toNat : Int) != 109) = true := by rw [bne_iff_ne]; intro h; exact hx (UInt8.toNat_inj.1 (by rw [show (109 : UInt8).toNat = 109 from rfl]; omega))
      clear hx
      go_enter Tryd.func5, Tryd.ntmps5
      go_wp2_with fail
      refine (C1.out _).mono ?_
      rintro e w1 ⟨v, rfl, ho, hB⟩
      obtain ⟨g, c, rfl, hgb, hg, hh⟩ := own_cells ho scl_len rfl (by decide : 0 < 4)
      clear ho
      have c0 := hh.s0 (k := 0) rfl
      have c1 := hh.s0 (k := 1) rfl
      have c2 := hh.s0 (k := 2) rfl
      have c3 := hh.s0 (k := 3) rfl
      clear hh
      obtain ⟨k0, k1, k2, k3, kf, kl⟩ := box4s hB
      go_wp2_with fail
      exact bodyPost_ret (v := .tuple #[.agg #[.int .i64 0, .int .i64 0, .int .i64 0, .int .i64 0], .bool false]) (by simp [results, Tryd.results5, go_sem, k0, k1, k2, k3, kl]) rfl ⟨by rw [HR.out]; rfl, below_st4 (below_one hB) (Nat.le_refl _) _ _ _ _ _ _ _ _⟩
    subst hx
    have hx : ((109 : UInt8).toNat : Int) = 109 := rfl
    by_cases h2 : a2 = [102, 111, 117, 110, 100]
    rotate_left
    · have HR := Lib.hid (readF4_not (a0 := r ++ [109]) (a1 := a1) (a2 := a2) (a3 := a3) (fun h => h2 h.2))
      have q2 : ¬ (bs a2).toList = [102, 111, 117, 110, 100] := by rw [bs_toList]; exact h2
      clear h2
      go_enter Tryd.func5, Tryd.ntmps5
      go_wp2_with fail
      refine (C1.out _).mono ?_
      rintro e w1 ⟨v, rfl, ho, hB⟩
      obtain ⟨g, c, rfl, hgb, hg, hh⟩ := own_cells ho scl_len rfl (by decide : 0 < 4)
      clear ho
      have c0 := hh.s0 (k := 0) rfl
      have c1 := hh.s0 (k := 1) rfl
      have c2 := hh.s0 (k := 2) rfl
      have c3 := hh.s0 (k := 3) rfl
      clear hh
      obtain ⟨k0, k1, k2, k3, kf, kl⟩ := box4s hB
      go_wp2_with fail
      exact bodyPost_ret (v := .tuple #[.agg #[.int .i64 0, .int .i64 0, .int .i64 0, .int .i64 0], .bool false]) (by simp [results, Tryd.results5, go_sem, k0, k1, k2, k3, kl]) rfl ⟨by rw [HR.out]; rfl, below_st4 (below_one hB) (Nat.le_refl _) _ _ _ _ _ _ _ _⟩
    subst h2
    have q2 : (bs [102, 111, 117, 110, 100]).toList = [102, 111, 117, 110, 100] := bs_toList _
    rw [readF4_in]
    exact spec_rd4 l r a1 a3 w C1 hr hl3
  · obtain ⟨a0, a1, a2, a3, a4, a5, rfl⟩ := six_of h6
    clear h4
    clear h6 hb0 hne
    have hl0 := hwl a0 (by simp)
    have hl3 := hwl a3 (by simp)
    have hl5 := hwl a5 (by simp)
    clear hwl
    rcases List.eq_nil_or_concat a0 with rfl | ⟨r, x, rfl⟩
    · have HR := Lib.hid (readF6_not (a0 := []) (a1 := a1) (a2 := a2) (a3 := a3) (a4 := a4) (a5 := a5) (fun h => by have := h.1; simp at this))
      have hsz : (bs []).size = 0 := rfl
      go_enter Tryd.func5, Tryd.ntmps5
      go_wp2_with fail
      refine (C1.out _).mono ?_
      rintro e w1 ⟨v, rfl, ho, hB⟩
      obtain ⟨g, c, rfl, hgb, hg, hh⟩ := own_cells ho scl_len rfl (by decide : 0 < 6)
      clear ho
      have c0 := hh.s0 (k := 0) rfl
      have c1 := hh.s0 (k := 1) rfl
      have c2 := hh.s0 (k := 2) rfl
      have c3 := hh.s0 (k := 3) rfl
      have c4 := hh.s0 (k := 4) rfl
      have c5 := hh.s0 (k := 5) rfl
      clear hh
      obtain ⟨k0, k1, k2, k3, kf, kl⟩ := box4s hB
      go_wp2_with fail
      exact bodyPost_ret (v := .tuple #[.agg #[.int .i64 0, .int .i64 0, .int .i64 0, .int .i64 0], .bool false]) (by simp [results, Tryd.results5, go_sem, k0, k1, k2, k3, kl]) rfl ⟨by rw [HR.out]; rfl, below_st4 (below_one hB) (Nat.le_refl _) _ _ _ _ _ _ _ _⟩
    simp only [List.concat_eq_append] at *
    have hr : r.length ≤ 1048576 := by simp at hl0; omega
    have hsz : (bs (r ++ [x])).size = r.length + 1 := by rw [bs_size]; simp
    have hg0 : (bs (r ++ [x]))[r.length]'(by rw [hsz]; omega) = x := by rw [bs_get]; simp
    have hw : IntKind.i64.wrap (r.length : Int) = (r.length : Int) := by rw [IntKind.wrap_i64]; omega
    have i0 : (0 : Int) ≤ (r.length : Int) := by omega
    have i1 : (r.length : Int) < (r.length : Int) + 1 := by omega
    have i2 : ¬ (r.length : Int) < 0 := by omega
    by_cases hx : x = 109
    rotate_left
    · have HR := Lib.hid (readF6_not (a0 := r ++ [x]) (a1 := a1) (a2 := a2) (a3 := a3) (a4 := a4) (a5 := a5) (fun h => hx (by have := h.1; simpa using this)))
      have hxn : ((x.toNat : Int) != 109) = true := by rw [bne_iff_ne]; intro h; exact hx (UInt8.toNat_inj.1 (by rw [show (109 : UInt8).toNat = 109 from rfl]; omega))
      clear hx
      go_enter Tryd.func5, Tryd.ntmps5
      go_wp2_with fail
      refine (C1.out _).mono ?_
      rintro e w1 ⟨v, rfl, ho, hB⟩
      obtain ⟨g, c, rfl, hgb, hg, hh⟩ := own_cells ho scl_len rfl (by decide : 0 < 6)
      clear ho
      have c0 := hh.s0 (k := 0) rfl
      have c1 := hh.s0 (k := 1) rfl
      have c2 := hh.s0 (k := 2) rfl
      have c3 := hh.s0 (k := 3) rfl
      have c4 := hh.s0 (k := 4) rfl
      have c5 := hh.s0 (k := 5) rfl
      clear hh
      obtain ⟨k0, k1, k2, k3, kf, kl⟩ := box4s hB
      go_wp2_with fail
      exact bodyPost_ret (v := .tuple #[.agg #[.int .i64 0, .int .i64 0, .int .i64 0, .int .i64 0], .bool false]) (by simp [results, Tryd.results5, go_sem, k0, k1, k2, k3, kl]) rfl ⟨by rw [HR.out]; rfl, below_st4 (below_one hB) (Nat.le_refl _) _ _ _ _ _ _ _ _⟩
    subst hx
    have hx : ((109 : UInt8).toNat : Int) = 109 := rfl
    by_cases h2 : a2 = [102, 111, 117, 110, 100]
    rotate_left
    · have HR := Lib.hid (readF6_not (a0 := r ++ [109]) (a1 := a1) (a2 := a2) (a3 := a3) (a4 := a4) (a5 := a5) (fun h => h2 h.2.1))
      have q2 : ¬ (bs a2).toList = [102, 111, 117, 110, 100] := by rw [bs_toList]; exact h2
      clear h2
      go_enter Tryd.func5, Tryd.ntmps5
      go_wp2_with fail
      refine (C1.out _).mono ?_
      rintro e w1 ⟨v, rfl, ho, hB⟩
      obtain ⟨g, c, rfl, hgb, hg, hh⟩ := own_cells ho scl_len rfl (by decide : 0 < 6)
      clear ho
      have c0 := hh.s0 (k := 0) rfl
      have c1 := hh.s0 (k := 1) rfl
      have c2 := hh.s0 (k := 2) rfl
      have c3 := hh.s0 (k := 3) rfl
      have c4 := hh.s0 (k := 4) rfl
      have c5 := hh.s0 (k := 5) rfl
      clear hh
      obtain ⟨k0, k1, k2, k3, kf, kl⟩ := box4s hB
      go_wp2_with fail
      exact bodyPost_ret (v := .tuple #[.agg #[.int .i64 0, .int .i64 0, .int .i64 0, .int .i64 0], .bool false]) (by simp [results, Tryd.results5, go_sem, k0, k1, k2, k3, kl]) rfl ⟨by rw [HR.out]; rfl, below_st4 (below_one hB) (Nat.le_refl _) _ _ _ _ _ _ _ _⟩
    subst h2
    have q2 : (bs [102, 111, 117, 110, 100]).toList = [102, 111, 117, 110, 100] := bs_toList _
    by_cases h4 : a4 = [109, 101, 110, 100, 101, 100]
    rotate_left
    · have HR := Lib.hid (readF6_not (a0 := r ++ [109]) (a1 := a1) (a2 := [102, 111, 117, 110, 100]) (a3 := a3) (a4 := a4) (a5 := a5) (fun h => h4 h.2.2))
      have q4 : ¬ (bs a4).toList = [109, 101, 110, 100, 101, 100] := by rw [bs_toList]; exact h4
      have q4b : ((bs a4).toList == [109, 101, 110, 100, 101, 100]) = false := by rw [beq_eq_false_iff_ne]; exact q4
      clear h4
      go_enter Tryd.func5, Tryd.ntmps5
      go_wp2_with fail
      refine (C1.out _).mono ?_
      rintro e w1 ⟨v, rfl, ho, hB⟩
      obtain ⟨g, c, rfl, hgb, hg, hh⟩ := own_cells ho scl_len rfl (by decide : 0 < 6)
      clear ho
      have c0 := hh.s0 (k := 0) rfl
      have c1 := hh.s0 (k := 1) rfl
      have c2 := hh.s0 (k := 2) rfl
      have c3 := hh.s0 (k := 3) rfl
      have c4 := hh.s0 (k := 4) rfl
      have c5 := hh.s0 (k := 5) rfl
      clear hh
      obtain ⟨k0, k1, k2, k3, kf, kl⟩ := box4s hB
      go_wp2_with fail
      exact bodyPost_ret (v := .tuple #[.agg #[.int .i64 0, .int .i64 0, .int .i64 0, .int .i64 0], .bool false]) (by simp [results, Tryd.results5, go_sem, k0, k1, k2, k3, kl]) rfl ⟨by rw [HR.out]; rfl, below_st4 (below_one hB) (Nat.le_refl _) _ _ _ _ _ _ _ _⟩
    subst h4
    rw [readF6_in]
    exact spec_rd6 l r a1 a3 a5 w C1 hr hl3 hl5

end Go.Proofs.YtogjkcakoahpiaaDoor

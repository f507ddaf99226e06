/- Walks over functions of this seat, by contract. Conditions: those that each theorem states. -/
import Derived.Test.YtjnbdmpgkbbmmaaDoorR5
namespace Go.Proofs.YtjnbdmpgkbbmmaaDoor
open Go.RowKit Go.Sort

/-- what a text gives by its numbers -/
def giveP (l : List UInt8) : Option Q4 := match numsOf l with
  | [a, b, c, d] => if parcelOk ⟨a, b, c, d⟩ = true ∧ parcelTxt ⟨a, b, c, d⟩ = bs l then some ⟨a, b, c, d⟩ else none
  | _ => none
theorem giveP_len {l : List UInt8} (h : (numsOf l).length ≠ 4) : giveP l = none := by
  unfold giveP
  split
  · rename_i h4; rw [h4] at h; simp at h
  · rfl
theorem giveP_four {l : List UInt8} {a b c d : Int} (h : numsOf l = [a, b, c, d]) : giveP l = if parcelOk ⟨a, b, c, d⟩ = true ∧ parcelTxt ⟨a, b, c, d⟩ = bs l then some ⟨a, b, c, d⟩ else none := by
  unfold giveP; rw [h]
theorem bytes_eq {x y : ByteArray} (h : x.toList = y.toList) : x = y := by
  rw [ByteArray.toList_eq, ByteArray.toList_eq] at h
  exact ByteArray.ext (Array.toList_inj.1 h)
theorem four {α : Type} {ws : List α} (h : ws.length = 4) : ∃ a b c d, ws = [a, b, c, d] := by
  match ws, h with
  | [a, b, c, d], _ => exact ⟨_, _, _, _, rfl⟩
theorem own_four {w : World} {base : Nat} {E : TypeId} {v : Value} {a b c d : Int} (h : Own w base E 1 icell v [a, b, c, d]) :
    ∃ g k, v = .slice (some ⟨g, 0, none⟩) 4 k ∧ base ≤ g ∧ g < w.heap.size ∧ w.cell? ⟨g, 0, none⟩ = some (.int .i64 a) ∧ w.cell? ⟨g, 1, none⟩ = some (.int .i64 b) ∧ w.cell? ⟨g, 2, none⟩ = some (.int .i64 c) ∧ w.cell? ⟨g, 3, none⟩ = some (.int .i64 d) := by
  obtain ⟨g, k, hv, hgb, hg, hh⟩ := own_cells h icell_len rfl (by decide : 0 < 4)
  exact ⟨g, k, hv, hgb, hg, hh.n0 (k := 0) rfl, hh.n0 (k := 1) rfl, hh.n0 (k := 2) rfl, hh.n0 (k := 3) rfl⟩
set_option maxHeartbeats 2000000 in
set_option maxRecDepth 100000 in
set_option linter.unusedSimpArgs false in
theorem impl_ReadParcel (l : List UInt8) (w : World) (hl : l.length ≤ 1048576) (htab : Lib.TabIs Tryd.prog w "internal/strconv.uint64pow10" .u64 Lib.pow10Tab)
    (tp1 : TypeId) (p1 : Value) (hv1 : w.var? Tryd.prog "strconv.ErrRange" = some #[.iface tp1 p1]) (tp2 : TypeId) (p2 : Value) (hv2 : w.var? Tryd.prog "strconv.ErrSyntax" = some #[.iface tp2 p2]) :
    Calls Tryd.prog 35 #[.string (bs l)] w fun e w' => e = .returned (resQ (giveP l)) ∧ Below w.heap.size w w' := by
  have hb0 := below_al (Below.refl _ w) (.cells #[.int .i64 0, .int .i64 0, .int .i64 0, .int .i64 0] 31)
  by_cases hn : (numsOf l).length = 4
  case neg =>
    have HR := Lib.hid (giveP_len hn)
    go_enter Tryd.func35, Tryd.ntmps35
    go_wp2_with (go_at_call 59; refine (impl_numbersIn l _ hl (tab_on htab hb0) tp1 p1 (var_on hv1 hb0) tp2 p2 (var_on hv2 hb0)).mono ?_; rintro e w1 ⟨v, rfl, ho, hB⟩; obtain ⟨A, n, c, rfl, hm, hcc⟩ := own_shape ho; have hn4 : ¬ (n : Int) = 4 := (by omega); clear ho; obtain ⟨k0, k1, k2, k3, kf, kl⟩ := box4s hB)
    exact bodyPost_ret (v := .tuple #[.agg #[.int .i64 0, .int .i64 0, .int .i64 0, .int .i64 0], .bool false]) (by simp [results, Tryd.results35, go_sem, k0, k1, k2, k3, kl]) rfl ⟨by rw [HR.out]; rfl, below_st4 (below_one hB) (Nat.le_refl _) _ _ _ _ _ _ _ _⟩
  obtain ⟨a, b, c, d, hq⟩ := four hn
  have Hq := Lib.hid hq
  clear hn hq
  go_enter Tryd.func35, Tryd.ntmps35
  go_wp2_with (go_at_call 59; refine (impl_numbersIn l _ hl (tab_on htab hb0) tp1 p1 (var_on hv1 hb0) tp2 p2 (var_on hv2 hb0)).mono ?_; rintro e w1 ⟨v, rfl, ho, hB⟩; rw [Hq.out] at ho; obtain ⟨g, k, rfl, hgb, hg, c0, c1, c2, c3⟩ := own_four ho; clear ho; obtain ⟨k0, k1, k2, k3, kf, kl⟩ := box4s hB)
  go_region
  obtain ⟨w2, hw2⟩ : ∃ ws, (w1.alloc (.cells #[.int .i64 a, .int .i64 b, .int .i64 c, .int .i64 d] 31)).drew = ws := ⟨_, rfl⟩
  have hB2 := below_dr (below_al hB (.cells #[.int .i64 a, .int .i64 b, .int .i64 c, .int .i64 d] 31))
  have hY2 := below_dr (Below.refl (w1.alloc (.cells #[.int .i64 a, .int .i64 b, .int .i64 c, .int .i64 d] 31)).heap.size (w1.alloc (.cells #[.int .i64 a, .int .i64 b, .int .i64 c, .int .i64 d] 31)))
  rw [hw2] at hB2 hY2 ⊢
  clear hw2 k0 k1 k2 k3 kf kl c0 c1 c2 c3
  obtain ⟨y0, y1, y2, y3, yf, yl⟩ := box4s hY2
  obtain ⟨k0, k1, k2, k3, kf, kl⟩ := box4s hB2
  obtain ⟨T, hT⟩ : ∃ T, parcelOut ⟨a, b, c, d⟩ = T := ⟨_, rfl⟩
  rcases gp : parcelOk ⟨a, b, c, d⟩
  case false =>
    have HR : Hid (giveP l = none) := Lib.hid (by rw [giveP_four Hq.out, if_neg (by rw [gp]; simp)])
    go_wp2_with (go_at_call 43; refine (impl_isParcel ⟨a, b, c, d⟩ _).mono ?_; rintro e w3 ⟨rfl, hb3⟩; rw [gp]; have hB3 := below_then hB2 hb3; obtain ⟨k0, k1, k2, k3, kf, kl⟩ := box4s hB3; have y0 := cell_on y0 hb3 yl; have y1 := cell_on y1 hb3 yl; have y2 := cell_on y2 hb3 yl; have y3 := cell_on y3 hb3 yl; have yl := Nat.lt_of_lt_of_le yl hb3.size)
    exact bodyPost_ret (v := .tuple #[.agg #[.int .i64 0, .int .i64 0, .int .i64 0, .int .i64 0], .bool false]) (by simp [results, Tryd.results35, go_sem, k0, k1, k2, k3, kl]) rfl ⟨by rw [HR.out]; rfl, below_st4 (below_one hB3) (Nat.le_refl _) _ _ _ _ _ _ _ _⟩
  case true =>
    have hPT : parcelTxt ⟨a, b, c, d⟩ = T := by rw [← hT, parcelOut, if_pos gp]
    have HP := Lib.hid (fun W (ht : Lib.TabIs Tryd.prog W "internal/strconv.uint64pow10" .u64 Lib.pow10Tab) => impl_ParcelText ⟨a, b, c, d⟩ W ht)
    rw [hT] at HP
    by_cases he : T = bs l
    case neg =>
      have HR : Hid (giveP l = none) := Lib.hid (by rw [giveP_four Hq.out, if_neg (by rw [hPT]; exact fun h => he h.2)])
      have hne : (T.toList == (bs l).toList) = false := by rw [beq_eq_false_iff_ne]; exact fun h => he (bytes_eq h)
      clear he hT hPT
      go_wp2_with (first
        | (go_at_call 43; refine (impl_isParcel ⟨a, b, c, d⟩ _).mono ?_; rintro e w3 ⟨rfl, hb3⟩; rw [gp]; have hB3 := below_then hB2 hb3; obtain ⟨k0, k1, k2, k3, kf, kl⟩ := box4s hB3; have y0 := cell_on y0 hb3 yl; have y1 := cell_on y1 hb3 yl; have y2 := cell_on y2 hb3 yl; have y3 := cell_on y3 hb3 yl; have yl := Nat.lt_of_lt_of_le yl hb3.size)
        | (go_at_call 16; refine (HP.out _ (tab_on htab (below_one hB3))).mono ?_; rintro e w4 ⟨rfl, hb4⟩; have hB4 := below_then hB3 hb4; obtain ⟨k0, k1, k2, k3, kf, kl⟩ := box4s hB4; have y0 := cell_on y0 hb4 yl; have y1 := cell_on y1 hb4 yl; have y2 := cell_on y2 hb4 yl; have y3 := cell_on y3 hb4 yl; have yl := Nat.lt_of_lt_of_le yl hb4.size))
      exact bodyPost_ret (v := .tuple #[.agg #[.int .i64 0, .int .i64 0, .int .i64 0, .int .i64 0], .bool false]) (by simp [results, Tryd.results35, go_sem, k0, k1, k2, k3, kl]) rfl ⟨by rw [HR.out]; rfl, below_st4 (below_one hB4) (Nat.le_refl _) _ _ _ _ _ _ _ _⟩
    case pos =>
      have HR : Hid (giveP l = some ⟨a, b, c, d⟩) := Lib.hid (by rw [giveP_four Hq.out, if_pos ⟨gp, hPT.trans he⟩])
      subst he
      clear hT hPT
      go_wp2_with (first
        | (go_at_call 43; refine (impl_isParcel ⟨a, b, c, d⟩ _).mono ?_; rintro e w3 ⟨rfl, hb3⟩; rw [gp]; have hB3 := below_then hB2 hb3; obtain ⟨k0, k1, k2, k3, kf, kl⟩ := box4s hB3; have y0 := cell_on y0 hb3 yl; have y1 := cell_on y1 hb3 yl; have y2 := cell_on y2 hb3 yl; have y3 := cell_on y3 hb3 yl; have yl := Nat.lt_of_lt_of_le yl hb3.size)
        | (go_at_call 16; refine (HP.out _ (tab_on htab (below_one hB3))).mono ?_; rintro e w4 ⟨rfl, hb4⟩; have hB4 := below_then hB3 hb4; obtain ⟨k0, k1, k2, k3, kf, kl⟩ := box4s hB4; have y0 := cell_on y0 hb4 yl; have y1 := cell_on y1 hb4 yl; have y2 := cell_on y2 hb4 yl; have y3 := cell_on y3 hb4 yl; have yl := Nat.lt_of_lt_of_le yl hb4.size))
      exact bodyPost_ret (v := .tuple #[.agg #[.int .i64 a, .int .i64 b, .int .i64 c, .int .i64 d], .bool true]) (by simp [results, Tryd.results35, go_sem, k0, k1, k2, k3, kl]) rfl ⟨by rw [HR.out]; rfl, below_st4 (below_one hB4) (Nat.le_refl _) _ _ _ _ _ _ _ _⟩

end Go.Proofs.YtjnbdmpgkbbmmaaDoor

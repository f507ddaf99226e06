/- Walks over functions of this seat, by contract. Conditions: those that each theorem states. -/
import Derived.Test.YtjnbdmpgkbbmmaaDoorR8
namespace Go.Proofs.YtjnbdmpgkbbmmaaDoor
open Go.RowKit Go.Sort

def cutS (l : List UInt8) : List UInt8 := (Lib.cut l [32]).1
def cutR (l : List UInt8) : List UInt8 := (Lib.cut l [32]).2.1
theorem cut_len (l : List UInt8) : (cutS l).length ≤ l.length ∧ (cutR l).length ≤ l.length := by
  unfold cutS cutR Lib.cut
  split
  · exact ⟨by simp only [List.length_take]; omega, by simp only [List.length_drop]; omega⟩
  · exact ⟨Nat.le_refl _, by simp⟩
def giveG (l : List UInt8) : Option G3 := match numsOf (cutR l) with
  | [a, b] => if guardOk ⟨bs (cutS l), a, b⟩ = true ∧ guardTxt ⟨bs (cutS l), a, b⟩ = bs l then some ⟨bs (cutS l), a, b⟩ else none
  | _ => none
theorem giveG_len {l : List UInt8} (h : (numsOf (cutR l)).length ≠ 2) : giveG l = none := by
  unfold giveG
  split
  · rename_i h4; rw [h4] at h; simp at h
  · rfl
theorem giveG_two {l : List UInt8} {a b : Int} (h : numsOf (cutR l) = [a, b]) : giveG l = if guardOk ⟨bs (cutS l), a, b⟩ = true ∧ guardTxt ⟨bs (cutS l), a, b⟩ = bs l then some ⟨bs (cutS l), a, b⟩ else none := by
  unfold giveG; rw [h]
theorem own_two {w : World} {base : Nat} {E : TypeId} {v : Value} {a b : Int} (h : Own w base E 1 icell v [a, b]) :
    ∃ g k, v = .slice (some ⟨g, 0, none⟩) 2 k ∧ base ≤ g ∧ g < w.heap.size ∧ w.cell? ⟨g, 0, none⟩ = some (.int .i64 a) ∧ w.cell? ⟨g, 1, none⟩ = some (.int .i64 b) := by
  obtain ⟨g, k, hv, hgb, hg, hh⟩ := own_cells h icell_len rfl (by decide : 0 < 2)
  exact ⟨g, k, hv, hgb, hg, hh.n0 (k := 0) rfl, hh.n0 (k := 1) rfl⟩
theorem cut_call (l : List UInt8) (m : Int) (hl : l.length ≤ 1048576) (W : World) (hm : W.cell? ⟨0, 0, none⟩ = some (.int .i64 m)) :
    Calls Tryd.prog 60 #[.string (bs l), .string ⟨#[32]⟩] W fun e w' => e = .returned (.tuple #[.string (bs (cutS l)), .string (bs (cutR l)), .bool (Lib.cut l [32]).2.2]) ∧ Below W.heap.size W w' :=
  (Tryd.strings_Cut (bs l) ⟨#[32]⟩ m W (by rw [bs_size]; omega) hm).mono fun _ _ ⟨he, n, hw⟩ => ⟨he, by rw [hw]; exact below_drN (Below.refl _ _) n⟩
set_option maxHeartbeats 2000000 in
set_option maxRecDepth 100000 in
set_option linter.unusedSimpArgs false in
theorem impl_ReadGuard (l : List UInt8) (w : World) (hl : l.length ≤ 1048576) (m : Int) (hm : w.cell? ⟨0, 0, none⟩ = some (.int .i64 m)) (h0 : 0 < w.heap.size) (htab : Lib.TabIs Tryd.prog w "internal/strconv.uint64pow10" .u64 Lib.pow10Tab)
    (tp1 : TypeId) (p1 : Value) (hv1 : w.var? Tryd.prog "strconv.ErrRange" = some #[.iface tp1 p1]) (tp2 : TypeId) (p2 : Value) (hv2 : w.var? Tryd.prog "strconv.ErrSyntax" = some #[.iface tp2 p2]) :
    Calls Tryd.prog 32 #[.string (bs l)] w fun e w' => e = .returned (resG (giveG l)) ∧ Below w.heap.size w w' := by
  have hb0 := below_al (Below.refl _ w) (.cells #[.string ⟨#[]⟩, .int .i64 0, .int .i64 0] 44)
  obtain ⟨S, hS⟩ : ∃ S, cutS l = S := ⟨_, rfl⟩
  obtain ⟨R, hR0⟩ : ∃ R, cutR l = R := ⟨_, rfl⟩
  have hSl : S.length ≤ 1048576 := by have := (cut_len l).1; rw [hS] at this; omega
  have hRl : R.length ≤ 1048576 := by have := (cut_len l).2; rw [hR0] at this; omega
  have CN := Lib.hid (fun W ht h1 h2 => impl_numbersIn R W hRl ht tp1 p1 h1 tp2 p2 h2)
  by_cases hn : (numsOf R).length = 2
  case neg =>
    have HR := Lib.hid (giveG_len (l := l) (by rw [hR0]; exact hn))
    go_enter Tryd.func32, Tryd.ntmps32
    go_wp2_with fail
    refine (cut_call l m hl _ (cell_on hm hb0 h0)).mono ?_
    rintro e w0 ⟨rfl, hB⟩
    (try rw [hS])
    (try rw [hR0])
    have hB0 := below_one hB
    go_wp2_with fail
    refine (CN.out _ (tab_on htab hB0) (var_on hv1 hB0) (var_on hv2 hB0)).mono ?_
    rintro e w1 ⟨v, rfl, ho, hb1⟩
    have hB := below_then hB hb1
    obtain ⟨k0, k1, k2, kf, kl⟩ := box3s hB
    obtain ⟨A, n, c, rfl, hq, hcc⟩ := own_shape ho
    have hn2 : ¬ (n : Int) = 2 := by omega
    clear ho hn
    go_wp2_with fail
    exact bodyPost_ret (v := .tuple #[.agg #[.string ⟨#[]⟩, .int .i64 0, .int .i64 0], .bool false]) (by simp [results, Tryd.results32, go_sem, k0, k1, k2, kl]) rfl ⟨by rw [HR.out]; rfl, below_st3 (below_one hB) (Nat.le_refl _) _ _ _ _ _ _⟩
  obtain ⟨a, b, hq⟩ := two_of hn
  have HG := Lib.hid (giveG_two (l := l) (by rw [hR0]; exact hq))
  rw [hS] at HG
  have Hq := Lib.hid hq
  clear hn hq
  go_enter Tryd.func32, Tryd.ntmps32
  go_wp2_with fail
  refine (cut_call l m hl _ (cell_on hm hb0 h0)).mono ?_
  rintro e w0 ⟨rfl, hB⟩
  (try rw [hS])
  (try rw [hR0])
  have hB0 := below_one hB
  go_wp2_with fail
  refine (CN.out _ (tab_on htab hB0) (var_on hv1 hB0) (var_on hv2 hB0)).mono ?_
  rintro e w1 ⟨v, rfl, ho, hb1⟩
  have hB := below_then hB hb1
  obtain ⟨k0, k1, k2, kf, kl⟩ := box3s hB
  rw [Hq.out] at ho
  obtain ⟨g, k, rfl, hgb, hg, c0, c1⟩ := own_two ho
  clear ho
  go_wp2_with fail
  go_region
  obtain ⟨w2, hw2⟩ : ∃ ws, (w1.alloc (.cells #[.string (bs S), .int .i64 a, .int .i64 b] 44)).drew = ws := ⟨_, rfl⟩
  have hB2 := below_dr (below_al hB (.cells #[.string (bs S), .int .i64 a, .int .i64 b] 44))
  have hY2 := below_dr (Below.refl (w1.alloc (.cells #[.string (bs S), .int .i64 a, .int .i64 b] 44)).heap.size (w1.alloc (.cells #[.string (bs S), .int .i64 a, .int .i64 b] 44)))
  rw [hw2] at hB2 hY2 ⊢
  clear hw2 k0 k1 k2 kf kl c0 c1
  obtain ⟨y0, y1, y2, yf, yl⟩ := box3s hY2
  obtain ⟨k0, k1, k2, kf, kl⟩ := box3s hB2
  have hss : (bs S).size ≤ 1048576 := by rw [bs_size]; exact hSl
  obtain ⟨T, hT⟩ : ∃ T, guardOut ⟨bs S, a, b⟩ = T := ⟨_, rfl⟩
  rcases gp : guardOk ⟨bs S, a, b⟩
  case false =>
    have HR : Hid (giveG l = none) := Lib.hid (by rw [HG.out, if_neg (by rw [gp]; simp)])
    go_wp2_with fail
    refine (impl_isGuard ⟨bs S, a, b⟩ _ hss).mono ?_
    rintro e w3 ⟨rfl, hb3⟩
    rw [gp]
    have hB3 := below_then hB2 hb3
    obtain ⟨k0, k1, k2, kf, kl⟩ := box3s hB3
    have y0 := cell_on y0 hb3 yl
    have y1 := cell_on y1 hb3 yl
    have y2 := cell_on y2 hb3 yl
    have yl := Nat.lt_of_lt_of_le yl hb3.size
    go_wp2_with fail
    exact bodyPost_ret (v := .tuple #[.agg #[.string ⟨#[]⟩, .int .i64 0, .int .i64 0], .bool false]) (by simp [results, Tryd.results32, go_sem, k0, k1, k2, kl]) rfl ⟨by rw [HR.out]; rfl, below_st3 (below_one hB3) (Nat.le_refl _) _ _ _ _ _ _⟩
  case true =>
    have hPT : guardTxt ⟨bs S, a, b⟩ = T := by rw [← hT, guardOut, if_pos gp]
    have HP := Lib.hid (fun W (ht : Lib.TabIs Tryd.prog W "internal/strconv.uint64pow10" .u64 Lib.pow10Tab) => impl_GuardText ⟨bs S, a, b⟩ W hss ht)
    rw [hT] at HP
    by_cases he : T = bs l
    case neg =>
      have HR : Hid (giveG l = none) := Lib.hid (by rw [HG.out, if_neg (by rw [hPT]; exact fun h => he h.2)])
      have hne : (T.toList == (bs l).toList) = false := by rw [beq_eq_false_iff_ne]; exact fun h => he (bytes_eq h)
      clear he hT hPT
      go_wp2_with fail
      refine (impl_isGuard ⟨bs S, a, b⟩ _ hss).mono ?_
      rintro e w3 ⟨rfl, hb3⟩
      rw [gp]
      have hB3 := below_then hB2 hb3
      obtain ⟨k0, k1, k2, kf, kl⟩ := box3s hB3
      have y0 := cell_on y0 hb3 yl
      have y1 := cell_on y1 hb3 yl
      have y2 := cell_on y2 hb3 yl
      have yl := Nat.lt_of_lt_of_le yl hb3.size
      go_wp2_with fail
      refine (HP.out _ (tab_on htab (below_one hB3))).mono ?_
      rintro e w4 ⟨rfl, hb4⟩
      have hB4 := below_then hB3 hb4
      obtain ⟨k0, k1, k2, kf, kl⟩ := box3s hB4
      have y0 := cell_on y0 hb4 yl
      have y1 := cell_on y1 hb4 yl
      have y2 := cell_on y2 hb4 yl
      have yl := Nat.lt_of_lt_of_le yl hb4.size
      go_wp2_with fail
      exact bodyPost_ret (v := .tuple #[.agg #[.string ⟨#[]⟩, .int .i64 0, .int .i64 0], .bool false]) (by simp [results, Tryd.results32, go_sem, k0, k1, k2, kl]) rfl ⟨by rw [HR.out]; rfl, below_st3 (below_one hB4) (Nat.le_refl _) _ _ _ _ _ _⟩
    case pos =>
      have HR : Hid (giveG l = some ⟨bs S, a, b⟩) := Lib.hid (by rw [HG.out, if_pos ⟨gp, hPT.trans he⟩])
      subst he
      clear hT hPT
      go_wp2_with fail
      refine (impl_isGuard ⟨bs S, a, b⟩ _ hss).mono ?_
      rintro e w3 ⟨rfl, hb3⟩
      rw [gp]
      have hB3 := below_then hB2 hb3
      obtain ⟨k0, k1, k2, kf, kl⟩ := box3s hB3
      have y0 := cell_on y0 hb3 yl
      have y1 := cell_on y1 hb3 yl
      have y2 := cell_on y2 hb3 yl
      have yl := Nat.lt_of_lt_of_le yl hb3.size
      go_wp2_with fail
      refine (HP.out _ (tab_on htab (below_one hB3))).mono ?_
      rintro e w4 ⟨rfl, hb4⟩
      have hB4 := below_then hB3 hb4
      obtain ⟨k0, k1, k2, kf, kl⟩ := box3s hB4
      have y0 := cell_on y0 hb4 yl
      have y1 := cell_on y1 hb4 yl
      have y2 := cell_on y2 hb4 yl
      have yl := Nat.lt_of_lt_of_le yl hb4.size
      go_wp2_with fail
      exact bodyPost_ret (v := .tuple #[.agg #[.string (bs S), .int .i64 a, .int .i64 b], .bool true]) (by simp [results, Tryd.results32, go_sem, k0, k1, k2, kl]) rfl ⟨by rw [HR.out]; rfl, below_st3 (below_one hB4) (Nat.le_refl _) _ _ _ _ _ _⟩

end Go.Proofs.YtjnbdmpgkbbmmaaDoor

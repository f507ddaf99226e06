/- Walks over functions of this seat, by contract. Conditions: those that each theorem states. -/
import Derived.Test.YtogjkcakoahpiaaDoorR5
import Derived.Deep.RegionLaw
namespace Go.Proofs.YtogjkcakoahpiaaDoor
open Go.RowKit Go.Sort

def goodF (l : List UInt8) (q : Q4) : Prop := defectOk q = true ∧ defTxt q = bs l
instance (l : List UInt8) (q : Q4) : Decidable (goodF l q) := by unfold goodF; infer_instance
def findK (l : List UInt8) (a c m : Int) : Nat → Int → Option Q4
  | 0, _ => none
  | f + 1, k => if goodF l ⟨a, k, c, m⟩ then some ⟨a, k, c, m⟩ else findK l a c m f (k + 1)
def giveN (l : List UInt8) (ns : List Int) : Option Q4 := match ns with
  | [a, c] => findK l a c 0 5 1
  | [a, c, m] => findK l a c m 5 1
  | _ => none
/-- what a text gives by its numbers -/
def giveF (l : List UInt8) : Option Q4 := giveN l (numsOf l)
theorem giveF_len {l : List UInt8} (h2 : (numsOf l).length ≠ 2) (h3 : (numsOf l).length ≠ 3) : giveF l = none := by
  unfold giveF giveN; split
  · rename_i h; rw [h] at h2; simp at h2
  · rename_i h; rw [h] at h3; simp at h3
  · rfl
theorem giveF_two {l : List UInt8} {a c : Int} (h : numsOf l = [a, c]) : giveF l = findK l a c 0 5 1 := by unfold giveF; rw [h]; rfl
theorem giveF_three {l : List UInt8} {a c m : Int} (h : numsOf l = [a, c, m]) : giveF l = findK l a c m 5 1 := by unfold giveF; rw [h]; rfl
theorem two_ofF {α : Type} {ws : List α} (h : ws.length = 2) : ∃ a b, ws = [a, b] := by
  match ws, h with
  | [a, b], _ => exact ⟨_, _, rfl⟩
theorem three_ofF {α : Type} {ws : List α} (h : ws.length = 3) : ∃ a b c, ws = [a, b, c] := by
  match ws, h with
  | [a, b, c], _ => exact ⟨_, _, _, rfl⟩
theorem own_three {w : World} {base : Nat} {E : TypeId} {v : Value} {a b c : Int} (h : Own w base E 1 icell v [a, b, c]) :
    ∃ g k, v = .slice (some ⟨g, 0, none⟩) 3 k ∧ base ≤ g ∧ g < w.heap.size ∧ w.cell? ⟨g, 0, none⟩ = some (.int .i64 a) ∧ w.cell? ⟨g, 1, none⟩ = some (.int .i64 b) ∧ w.cell? ⟨g, 2, none⟩ = some (.int .i64 c) := by
  obtain ⟨g, k, hv, hgb, hg, hh⟩ := own_cells h icell_len rfl (by decide : 0 < 3)
  exact ⟨g, k, hv, hgb, hg, hh.n0 (k := 0) rfl, hh.n0 (k := 1) rfl, hh.n0 (k := 2) rfl⟩
set_option maxHeartbeats 4000000 in
set_option maxRecDepth 100000 in
set_option linter.unusedSimpArgs false in
theorem impl_rd3 (l : List UInt8) (w : World) (hl : l.length ≤ 1048576) (a c m : Int) (hq : numsOf l = [a, c, m]) (htab : Lib.TabIs Tryd.prog w "internal/strconv.uint64pow10" .u64 Lib.pow10Tab)
    (tp1 : TypeId) (p1 : Value) (hv1 : w.var? Tryd.prog "strconv.ErrRange" = some #[.iface tp1 p1]) (tp2 : TypeId) (p2 : Value) (hv2 : w.var? Tryd.prog "strconv.ErrSyntax" = some #[.iface tp2 p2]) :
    Calls Tryd.prog 6 #[.string (bs l)] w fun e w' => e = .returned (resQ (findK l a c m 5 1)) ∧ Below w.heap.size w w' := by
  have hb0 := below_al (Below.refl _ w) (.cells #[.int .i64 0, .int .i64 0, .int .i64 0, .int .i64 0] 23)
  have Hq := Lib.hid hq
  clear hq
  obtain ⟨RR, hRR⟩ : ∃ RR, findK l a c m 5 1 = RR := ⟨_, rfl⟩
  rw [hRR]
  have HR := Lib.hid hRR
  clear hRR
  go_enter Tryd.func6, Tryd.ntmps6
  go_wp2_with (go_at_call 15; refine (impl_numbersIn l _ hl (tab_on htab hb0) tp1 p1 (var_on hv1 hb0) tp2 p2 (var_on hv2 hb0)).mono ?_; rintro e w1 ⟨v, rfl, ho, hB⟩; rw [Hq.out] at ho; obtain ⟨g, k, rfl, hgb, hg, c0, c1, c2⟩ := own_three ho; clear ho)
  go_loopw [5] (fun kv wr => ∃ k : Nat, 1 ≤ k ∧ k ≤ 6 ∧ kv = .int .i64 k ∧ Hid (findK l a c m (6 - k) k = RR) ∧ Below w1.heap.size w1 wr) (fun kv _ => 6 - (intOf kv).toNat)
  case atStart => exact ⟨1, by omega, by omega, rfl, HR, Below.refl _ _⟩
  case round =>
    obtain ⟨k, hk1, hk6, rfl, HR, hbel⟩ := hrel
    have hBr := below_then hB hbel
    by_cases hlt : k < 6
    rotate_left
    · obtain ⟨k0, k1, k2, k3, kf, kl⟩ := box4s hBr
      have hk : k = 6 := by omega
      subst hk
      have hRR := HR.out
      simp only [Nat.sub_self, findK] at hRR
      have HRR := Lib.hid hRR
      clear hRR
      go_wp2_with fail
      exact bodyPost_ret (v := .tuple #[.agg #[.int .i64 0, .int .i64 0, .int .i64 0, .int .i64 0], .bool false]) (by simp [results, Tryd.results6, go_sem, k0, k1, k2, k3, kl]) rfl ⟨by rw [← HRR.out]; rfl, below_st4 (below_one hBr) (Nat.le_refl _) _ _ _ _ _ _ _ _⟩
    have hgr := Nat.lt_of_lt_of_le hg hbel.size
    have d0 := cell_on c0 hbel hg
    have d1 := cell_on c1 hbel hg
    have d2 := cell_on c2 hbel hg
    obtain ⟨f, hf⟩ : ∃ f, 6 - k = f + 1 := ⟨5 - k, by omega⟩
    have HR2 : Hid ((if goodF l ⟨a, k, c, m⟩ then some ⟨a, k, c, m⟩ else findK l a c m (6 - (k + 1)) ((k : Int) + 1)) = RR) := Lib.hid (by
      have h := HR.out
      rw [hf, findK] at h
      rw [show 6 - (k + 1) = f from by omega]
      exact h)
    clear HR hf f
    go_wp2_with fail
    go_region
    obtain ⟨w3, hw3⟩ : ∃ ws, (wr.alloc (.cells #[.int .i64 a, .int .i64 k, .int .i64 c, .int .i64 m] 23)).drew = ws := ⟨_, rfl⟩
    have hbel3 := below_dr (below_al hbel (.cells #[.int .i64 a, .int .i64 k, .int .i64 c, .int .i64 m] 23))
    have hB2 := below_dr (below_al hBr (.cells #[.int .i64 a, .int .i64 k, .int .i64 c, .int .i64 m] 23))
    have hY2 := below_dr (Below.refl (wr.alloc (.cells #[.int .i64 a, .int .i64 k, .int .i64 c, .int .i64 m] 23)).heap.size (wr.alloc (.cells #[.int .i64 a, .int .i64 k, .int .i64 c, .int .i64 m] 23)))
    rw [hw3] at hB2 hY2 hbel3 ⊢
    clear hw3 d0 d1 d2
    obtain ⟨y0, y1, y2, y3, yf, yl⟩ := box4s hY2
    obtain ⟨T, hT⟩ : ∃ T, defOut ⟨a, k, c, m⟩ = T := ⟨_, rfl⟩
    rcases gp : defectOk ⟨a, k, c, m⟩
    case false =>
      have HR3 : Hid (findK l a c m (6 - (k + 1)) ((k : Int) + 1) = RR) := Lib.hid (by have h := HR2.out; rw [if_neg (fun e => by have := e.1; rw [gp] at this; cases this)] at h; exact h)
      clear HR2 hT
      go_wp2_with (go_at_call 16; refine (impl_isDefect ⟨a, k, c, m⟩ _).mono ?_; rintro e w4 ⟨rfl, hb4⟩; rw [gp])
      go_roundw
      case rel => exact ⟨k + 1, by omega, by omega, by go_num, by rw [Int.natCast_add]; exact HR3, below_then hbel3 hb4⟩
      case measure => simp [intOf]; omega
    case true =>
      have hPT : defTxt ⟨a, k, c, m⟩ = T := by rw [← hT, defOut, if_pos gp]
      have HP := Lib.hid (fun W (ht : Lib.TabIs Tryd.prog W "internal/strconv.uint64pow10" .u64 Lib.pow10Tab) => impl_DefectText ⟨a, k, c, m⟩ W ht)
      rw [hT] at HP
      by_cases he : T = bs l
      case neg =>
        have HR3 : Hid (findK l a c m (6 - (k + 1)) ((k : Int) + 1) = RR) := Lib.hid (by have h := HR2.out; rw [if_neg (fun e => he (hPT.symm.trans e.2))] at h; exact h)
        have hne : (T.toList == (bs l).toList) = false := by rw [beq_eq_false_iff_ne]; exact fun h => he (bytes_eq h)
        clear he hT hPT HR2
        go_wp2_with (first
          | (go_at_call 16; refine (impl_isDefect ⟨a, k, c, m⟩ _).mono ?_; rintro e w4 ⟨rfl, hb4⟩; rw [gp]; have hB3 := below_then hB2 hb4; have y0 := cell_on y0 hb4 yl; have y1 := cell_on y1 hb4 yl; have y2 := cell_on y2 hb4 yl; have y3 := cell_on y3 hb4 yl; have yl := Nat.lt_of_lt_of_le yl hb4.size)
          | (go_at_call 10; refine (HP.out _ (tab_on htab (below_one hB3))).mono ?_; rintro e w5 ⟨rfl, hb5⟩))
        go_roundw
        case rel => exact ⟨k + 1, by omega, by omega, by go_num, by rw [Int.natCast_add]; exact HR3, below_then hbel3 (below_then hb4 hb5)⟩
        case measure => simp [intOf]; omega
      case pos =>
        have HR3 : Hid (some (⟨a, k, c, m⟩ : Q4) = RR) := Lib.hid (by have h := HR2.out; rw [if_pos ⟨gp, hPT.trans he⟩] at h; exact h)
        subst he
        clear hT hPT HR2
        go_wp2_with (first
          | (go_at_call 16; refine (impl_isDefect ⟨a, k, c, m⟩ _).mono ?_; rintro e w4 ⟨rfl, hb4⟩; rw [gp]; have hB3 := below_then hB2 hb4; have y0 := cell_on y0 hb4 yl; have y1 := cell_on y1 hb4 yl; have y2 := cell_on y2 hb4 yl; have y3 := cell_on y3 hb4 yl; have yl := Nat.lt_of_lt_of_le yl hb4.size)
          | (go_at_call 10; refine (HP.out _ (tab_on htab (below_one hB3))).mono ?_; rintro e w5 ⟨rfl, hb5⟩; have hB4 := below_then hB3 hb5; obtain ⟨k0, k1, k2, k3, kf, kl⟩ := box4s hB4; have y0 := cell_on y0 hb5 yl; have y1 := cell_on y1 hb5 yl; have y2 := cell_on y2 hb5 yl; have y3 := cell_on y3 hb5 yl))
        exact bodyPost_ret (v := .tuple #[.agg #[.int .i64 a, .int .i64 (k : Int), .int .i64 c, .int .i64 m], .bool true]) (by simp [results, Tryd.results6, go_sem, k0, k1, k2, k3, kl]) rfl ⟨by rw [← HR3.out]; rfl, below_st4 (below_one hB4) (Nat.le_refl _) _ _ _ _ _ _ _ _⟩
set_option maxHeartbeats 4000000 in
set_option maxRecDepth 100000 in
set_option linter.unusedSimpArgs false in
theorem impl_rd2 (l : List UInt8) (w : World) (hl : l.length ≤ 1048576) (a c : Int) (hq : numsOf l = [a, c]) (htab : Lib.TabIs Tryd.prog w "internal/strconv.uint64pow10" .u64 Lib.pow10Tab)
    (tp1 : TypeId) (p1 : Value) (hv1 : w.var? Tryd.prog "strconv.ErrRange" = some #[.iface tp1 p1]) (tp2 : TypeId) (p2 : Value) (hv2 : w.var? Tryd.prog "strconv.ErrSyntax" = some #[.iface tp2 p2]) :
    Calls Tryd.prog 6 #[.string (bs l)] w fun e w' => e = .returned (resQ (findK l a c 0 5 1)) ∧ Below w.heap.size w w' := by
  have hb0 := below_al (Below.refl _ w) (.cells #[.int .i64 0, .int .i64 0, .int .i64 0, .int .i64 0] 23)
  have Hq := Lib.hid hq
  clear hq
  obtain ⟨RR, hRR⟩ : ∃ RR, findK l a c 0 5 1 = RR := ⟨_, rfl⟩
  rw [hRR]
  have HR := Lib.hid hRR
  clear hRR
  obtain ⟨m, hm⟩ : ∃ m : Int, m = 0 := ⟨_, rfl⟩
  rw [← hm] at HR
  obtain ⟨i0, hi, hz0, hz1, hz2⟩ := info_parts info_i64r
  go_enter Tryd.func6, Tryd.ntmps6
  go_wp2_with (first
    | (go_at_call 15; refine (impl_numbersIn l _ hl (tab_on htab hb0) tp1 p1 (var_on hv1 hb0) tp2 p2 (var_on hv2 hb0)).mono ?_; rintro e w1 ⟨v, rfl, ho, hB⟩; rw [Hq.out] at ho; obtain ⟨A0, n0, k0, rfl, hn0, _⟩ := own_shape ho; have hn2 : n0 = 2 := (by simpa using hn0.symm); subst hn2; have HO : Hid (Own w1 (w.heap.size + 1) 2 1 icell (.slice A0 2 k0) [a, c]) := Lib.hid (by simpa using ho); clear ho hn0)
    | (at_builtin; refine wpList_push rfl _ _ 38 rfl (w.heap.size + 1) 2 i0 (.int .i64 0) 1 8 Tryd.underlying38 hi hz0 hz1 hz2 rfl (by omega) icell_len (fun e u hu => by simp [icell] at hu; subst hu; rfl) _ _ (0 : Int) rfl HO.out _ rfl _ rfl (by first | rfl | simp) (by simp) (by omega) (by have := hB.size; simp at this; omega) ?_; intro v2 w2 ho2 hg2; have hB := own_grown hB HO.out (Nat.le_of_eq (by simp)) hB.size hg2; obtain ⟨g, k, rfl, hgb, hg, c0, c1, c2⟩ := own_three ho2; clear ho2 HO hg2))
  rw [← hm] at c2
  clear hm
  go_loopw [5] (fun kv wr => ∃ k : Nat, 1 ≤ k ∧ k ≤ 6 ∧ kv = .int .i64 k ∧ Hid (findK l a c m (6 - k) k = RR) ∧ Below w2.heap.size w2 wr) (fun kv _ => 6 - (intOf kv).toNat)
  case atStart => exact ⟨1, by omega, by omega, rfl, HR, Below.refl _ _⟩
  case round =>
    obtain ⟨k, hk1, hk6, rfl, HR, hbel⟩ := hrel
    have hBr := below_then hB hbel
    by_cases hlt : k < 6
    rotate_left
    · obtain ⟨k0, k1, k2, k3, kf, kl⟩ := box4s hBr
      have hk : k = 6 := by omega
      subst hk
      have hRR := HR.out
      simp only [Nat.sub_self, findK] at hRR
      have HRR := Lib.hid hRR
      clear hRR
      go_wp2_with fail
      exact bodyPost_ret (v := .tuple #[.agg #[.int .i64 0, .int .i64 0, .int .i64 0, .int .i64 0], .bool false]) (by simp [results, Tryd.results6, go_sem, k0, k1, k2, k3, kl]) rfl ⟨by rw [← HRR.out]; rfl, below_st4 (below_one hBr) (Nat.le_refl _) _ _ _ _ _ _ _ _⟩
    have hgr := Nat.lt_of_lt_of_le hg hbel.size
    have d0 := cell_on c0 hbel hg
    have d1 := cell_on c1 hbel hg
    have d2 := cell_on c2 hbel hg
    obtain ⟨f, hf⟩ : ∃ f, 6 - k = f + 1 := ⟨5 - k, by omega⟩
    have HR2 : Hid ((if goodF l ⟨a, k, c, m⟩ then some ⟨a, k, c, m⟩ else findK l a c m (6 - (k + 1)) ((k : Int) + 1)) = RR) := Lib.hid (by
      have h := HR.out
      rw [hf, findK] at h
      rw [show 6 - (k + 1) = f from by omega]
      exact h)
    clear HR hf f
    go_wp2_with fail
    go_region
    obtain ⟨w3, hw3⟩ : ∃ ws, (wr.alloc (.cells #[.int .i64 a, .int .i64 k, .int .i64 c, .int .i64 m] 23)).drew = ws := ⟨_, rfl⟩
    have hbel3 := below_dr (below_al hbel (.cells #[.int .i64 a, .int .i64 k, .int .i64 c, .int .i64 m] 23))
    have hB2 := below_dr (below_al hBr (.cells #[.int .i64 a, .int .i64 k, .int .i64 c, .int .i64 m] 23))
    have hY2 := below_dr (Below.refl (wr.alloc (.cells #[.int .i64 a, .int .i64 k, .int .i64 c, .int .i64 m] 23)).heap.size (wr.alloc (.cells #[.int .i64 a, .int .i64 k, .int .i64 c, .int .i64 m] 23)))
    rw [hw3] at hB2 hY2 hbel3 ⊢
    clear hw3 d0 d1 d2
    obtain ⟨y0, y1, y2, y3, yf, yl⟩ := box4s hY2
    obtain ⟨T, hT⟩ : ∃ T, defOut ⟨a, k, c, m⟩ = T := ⟨_, rfl⟩
    rcases gp : defectOk ⟨a, k, c, m⟩
    case false =>
      have HR3 : Hid (findK l a c m (6 - (k + 1)) ((k : Int) + 1) = RR) := Lib.hid (by have h := HR2.out; rw [if_neg (fun e => by have := e.1; rw [gp] at this; cases this)] at h; exact h)
      clear HR2 hT
      go_wp2_with (go_at_call 16; refine (impl_isDefect ⟨a, k, c, m⟩ _).mono ?_; rintro e w4 ⟨rfl, hb4⟩; rw [gp])
      go_roundw
      case rel => exact ⟨k + 1, by omega, by omega, by go_num, by rw [Int.natCast_add]; exact HR3, below_then hbel3 hb4⟩
      case measure => simp [intOf]; omega
    case true =>
      have hPT : defTxt ⟨a, k, c, m⟩ = T := by rw [← hT, defOut, if_pos gp]
      have HP := Lib.hid (fun W (ht : Lib.TabIs Tryd.prog W "internal/strconv.uint64pow10" .u64 Lib.pow10Tab) => impl_DefectText ⟨a, k, c, m⟩ W ht)
      rw [hT] at HP
      by_cases he : T = bs l
      case neg =>
        have HR3 : Hid (findK l a c m (6 - (k + 1)) ((k : Int) + 1) = RR) := Lib.hid (by have h := HR2.out; rw [if_neg (fun e => he (hPT.symm.trans e.2))] at h; exact h)
        have hne : (T.toList == (bs l).toList) = false := by rw [beq_eq_false_iff_ne]; exact fun h => he (bytes_eq h)
        clear he hT hPT HR2
        go_wp2_with (first
          | (go_at_call 16; refine (impl_isDefect ⟨a, k, c, m⟩ _).mono ?_; rintro e w4 ⟨rfl, hb4⟩; rw [gp]; have hB3 := below_then hB2 hb4; have y0 := cell_on y0 hb4 yl; have y1 := cell_on y1 hb4 yl; have y2 := cell_on y2 hb4 yl; have y3 := cell_on y3 hb4 yl; have yl := Nat.lt_of_lt_of_le yl hb4.size)
          | (go_at_call 10; refine (HP.out _ (tab_on htab (below_one hB3))).mono ?_; rintro e w5 ⟨rfl, hb5⟩))
        go_roundw
        case rel => exact ⟨k + 1, by omega, by omega, by go_num, by rw [Int.natCast_add]; exact HR3, below_then hbel3 (below_then hb4 hb5)⟩
        case measure => simp [intOf]; omega
      case pos =>
        have HR3 : Hid (some (⟨a, k, c, m⟩ : Q4) = RR) := Lib.hid (by have h := HR2.out; rw [if_pos ⟨gp, hPT.trans he⟩] at h; exact h)
        subst he
        clear hT hPT HR2
        go_wp2_with (first
          | (go_at_call 16; refine (impl_isDefect ⟨a, k, c, m⟩ _).mono ?_; rintro e w4 ⟨rfl, hb4⟩; rw [gp]; have hB3 := below_then hB2 hb4; have y0 := cell_on y0 hb4 yl; have y1 := cell_on y1 hb4 yl; have y2 := cell_on y2 hb4 yl; have y3 := cell_on y3 hb4 yl; have yl := Nat.lt_of_lt_of_le yl hb4.size)
          | (go_at_call 10; refine (HP.out _ (tab_on htab (below_one hB3))).mono ?_; rintro e w5 ⟨rfl, hb5⟩; have hB4 := below_then hB3 hb5; obtain ⟨k0, k1, k2, k3, kf, kl⟩ := box4s hB4; have y0 := cell_on y0 hb5 yl; have y1 := cell_on y1 hb5 yl; have y2 := cell_on y2 hb5 yl; have y3 := cell_on y3 hb5 yl))
        exact bodyPost_ret (v := .tuple #[.agg #[.int .i64 a, .int .i64 (k : Int), .int .i64 c, .int .i64 m], .bool true]) (by simp [results, Tryd.results6, go_sem, k0, k1, k2, k3, kl]) rfl ⟨by rw [← HR3.out]; rfl, below_st4 (below_one hB4) (Nat.le_refl _) _ _ _ _ _ _ _ _⟩
set_option maxHeartbeats 4000000 in
set_option maxRecDepth 100000 in
set_option linter.unusedSimpArgs false in
theorem impl_ReadDefect (l : List UInt8) (w : World) (hl : l.length ≤ 1048576) (htab : Lib.TabIs Tryd.prog w "internal/strconv.uint64pow10" .u64 Lib.pow10Tab)
    (tp1 : TypeId) (p1 : Value) (hv1 : w.var? Tryd.prog "strconv.ErrRange" = some #[.iface tp1 p1]) (tp2 : TypeId) (p2 : Value) (hv2 : w.var? Tryd.prog "strconv.ErrSyntax" = some #[.iface tp2 p2]) :
    Calls Tryd.prog 6 #[.string (bs l)] w fun e w' => e = .returned (resQ (giveF l)) ∧ Below w.heap.size w w' := by
  have hb0 := below_al (Below.refl _ w) (.cells #[.int .i64 0, .int .i64 0, .int .i64 0, .int .i64 0] 23)
  by_cases h2 : (numsOf l).length = 2
  · obtain ⟨a, c, hq⟩ := two_ofF h2
    rw [giveF_two hq]
    exact impl_rd2 l w hl a c hq htab tp1 p1 hv1 tp2 p2 hv2
  by_cases h3 : (numsOf l).length = 3
  · obtain ⟨a, c, m, hq⟩ := three_ofF h3
    rw [giveF_three hq]
    exact impl_rd3 l w hl a c m hq htab tp1 p1 hv1 tp2 p2 hv2
  have HR := Lib.hid (giveF_len h2 h3)
  go_enter Tryd.func6, Tryd.ntmps6
  go_wp2_with (go_at_call 15; refine (impl_numbersIn l _ hl (tab_on htab hb0) tp1 p1 (var_on hv1 hb0) tp2 p2 (var_on hv2 hb0)).mono ?_; rintro e w1 ⟨v, rfl, ho, hB⟩; obtain ⟨A, n, c, rfl, hm, hcc⟩ := own_shape ho; have hn2 : ¬ (n : Int) = 2 := (by omega); have hn3 : ¬ (n : Int) = 3 := (by omega); clear ho; obtain ⟨k0, k1, k2, k3, kf, kl⟩ := box4s hB)
  exact bodyPost_ret (v := .tuple #[.agg #[.int .i64 0, .int .i64 0, .int .i64 0, .int .i64 0], .bool false]) (by simp [results, Tryd.results6, go_sem, k0, k1, k2, k3, kl]) rfl ⟨by rw [HR.out]; rfl, below_st4 (below_one hB) (Nat.le_refl _) _ _ _ _ _ _ _ _⟩

end Go.Proofs.YtogjkcakoahpiaaDoor

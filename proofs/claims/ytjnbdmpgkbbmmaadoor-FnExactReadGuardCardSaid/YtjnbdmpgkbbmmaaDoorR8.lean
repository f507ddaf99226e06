/- Walks over functions of this seat, by contract. Conditions: those that each theorem states. -/
import Derived.Test.YtjnbdmpgkbbmmaaDoorR7
import Derived.Test.YtjnbdmpgkbbmmaaDoorG3
namespace Go.Proofs.YtjnbdmpgkbbmmaaDoor
open Go.RowKit Go.Sort

theorem box3s {w w1 : World} {v0 v1 v2 : Value} {E : Nat} (hb : Below (w.alloc (.cells #[v0, v1, v2] E)).heap.size (w.alloc (.cells #[v0, v1, v2] E)) w1) :
    w1.cell? ⟨w.heap.size, 0, none⟩ = some v0 ∧ w1.cell? ⟨w.heap.size, 1, none⟩ = some v1 ∧ w1.cell? ⟨w.heap.size, 2, none⟩ = some v2 ∧ (∀ i, w1.frozen? ⟨w.heap.size, i, none⟩ = false) ∧ w.heap.size < w1.heap.size := by
  obtain ⟨k0, k1, k2⟩ := box3k hb
  refine ⟨k0, k1, k2, fun i => ?_, ?_⟩
  · rw [(below_reads hb).2 w.heap.size i (by simp)]; have he := heap_alloc_new w (.cells #[v0, v1, v2] E); simp only [World.frozen?, he]; simp
  · have := hb.size; simp at this; omega
theorem below_st3 {v w : World} {g : Nat} (h : Below v.heap.size v w) (hg : v.heap.size ≤ g) (o0 o1 o2 : Nat) (u0 u1 u2 : Value) : Below v.heap.size v (((w.setCell ⟨g, o0, none⟩ u0).setCell ⟨g, o1, none⟩ u1).setCell ⟨g, o2, none⟩ u2) :=
  below_st (below_st (below_st h _ hg _) _ hg _) _ hg _
/-- what the parts of a guard's text give -/
def readD (s : List UInt8) (ds : List (List UInt8)) : Option G3 := match ds with
  | [b0, b1, b2] => if b1 = [] then match nmF b0, nmF b2 with
      | some a, some b => if guardOk ⟨bs s, a, b⟩ = true then some ⟨bs s, a, b⟩ else none
      | _, _ => none
    else none
  | _ => none
def readG (ws : List (List UInt8)) : Option G3 := match ws with
  | [s, u] => readD s (spl 46 u)
  | _ => none
theorem readG_len {ws : List (List UInt8)} (h : ws.length ≠ 2) : readG ws = none := by
  unfold readG; split
  · simp at h
  · rfl
theorem readD_len {s : List UInt8} {ds : List (List UInt8)} (h : ds.length ≠ 3) : readD s ds = none := by
  unfold readD; split
  · simp at h
  · rfl
theorem readD_mid {s b0 b1 b2 : List UInt8} (h : b1 ≠ []) : readD s [b0, b1, b2] = none := if_neg h
theorem readD_in (s b0 b2 : List UInt8) : readD s [b0, [], b2] = match nmF b0, nmF b2 with
      | some a, some b => if guardOk ⟨bs s, a, b⟩ = true then some ⟨bs s, a, b⟩ else none
      | _, _ => none := by first | rfl | (simp [readD]) | (simp only [readD, if_true])
def resG (o : Option G3) : Value := .tuple #[.agg #[.string (o.elim ⟨#[]⟩ G3.s), .int .i64 (o.elim 0 G3.a), .int .i64 (o.elim 0 G3.b)], .bool o.isSome]
theorem two_of {α : Type} {ws : List α} (h : ws.length = 2) : ∃ a b, ws = [a, b] := by
  match ws, h with
  | [a, b], _ => exact ⟨_, _, rfl⟩
theorem three_of {α : Type} {ws : List α} (h : ws.length = 3) : ∃ a b c, ws = [a, b, c] := by
  match ws, h with
  | [a, b, c], _ => exact ⟨_, _, _, rfl⟩
set_option maxHeartbeats 2000000 in
set_option maxRecDepth 100000 in
set_option linter.unusedSimpArgs false in
theorem spec_ReadGuard (l : List UInt8) (w : World) (hl : l.length ≤ 1048576) : Calls Tryd.prog 31 #[.string (bs l)] w fun e w' => e = .returned (resG (readG (spl 32 l))) ∧ Below w.heap.size w w' := by
  obtain ⟨ws, hws⟩ : ∃ ws, spl 32 l = ws := ⟨_, rfl⟩
  have C1 := Lib.hid (fun W => spec_l01Split l 32 32 (by decide) W hl)
  have hwl : ∀ x ∈ ws, x.length ≤ 1048576 := fun x hx => by have := spl_long (c := 32) (l := l) (x := x) (by rw [hws]; exact hx); omega
  rw [hws] at C1 ⊢
  clear hws
  by_cases hn : ws.length = 2
  case neg =>
    have HR := Lib.hid (readG_len hn)
    go_enter Tryd.func31, Tryd.ntmps31
    go_wp2_with fail
    refine (C1.out _).mono ?_
    rintro e w1 ⟨v, rfl, ho, hB⟩
    obtain ⟨A, n, c, rfl, hm, hcc⟩ := own_shape ho
    rw [List.length_map] at hm
    have hn2 : ¬ (n : Int) = 2 := by omega
    clear ho
    obtain ⟨k0, k1, k2, kf, kl⟩ := box3s hB
    go_wp2_with fail
    exact bodyPost_ret (v := .tuple #[.agg #[.string ⟨#[]⟩, .int .i64 0, .int .i64 0], .bool false]) (by simp [results, Tryd.results31, go_sem, k0, k1, k2, kl]) rfl ⟨by rw [HR.out]; rfl, below_st3 (below_one hB) (Nat.le_refl _) _ _ _ _ _ _⟩
  obtain ⟨s, u, rfl⟩ := two_of hn
  have hls := hwl s (by simp)
  have hlu := hwl u (by simp)
  clear hwl hn
  have C2 := Lib.hid (fun W => spec_l01Split u 46 46 (by decide) W hlu)
  have hg : readG [s, u] = readD s (spl 46 u) := rfl
  rw [hg]
  clear hg
  obtain ⟨ds, hds⟩ : ∃ ds, spl 46 u = ds := ⟨_, rfl⟩
  have hdl : ∀ x ∈ ds, x.length ≤ 1048576 := fun x hx => by have := spl_long (c := 46) (l := u) (x := x) (by rw [hds]; exact hx); omega
  rw [hds] at C2 ⊢
  clear hds
  by_cases hn : ds.length = 3
  case neg =>
    have HR := Lib.hid (readD_len (s := s) hn)
    go_enter Tryd.func31, Tryd.ntmps31
    go_wp2_with fail
    refine (C1.out _).mono ?_
    rintro e w1 ⟨v, rfl, ho, hB⟩
    obtain ⟨g, c, rfl, hgb, hg, hh⟩ := own_cells ho scl_len rfl (by decide : 0 < 2)
    clear ho
    have c0 := hh.s0 (k := 0) rfl
    have c1 := hh.s0 (k := 1) rfl
    clear hh
    obtain ⟨k0, k1, k2, kf, kl⟩ := box3s hB
    go_wp2_with fail
    refine (C2.out _).mono ?_
    rintro e w2 ⟨v, rfl, ho, hb2⟩
    have c0 := cell_on c0 hb2 hg
    have hg := Nat.lt_of_lt_of_le hg hb2.size
    have hB := below_then hB hb2
    obtain ⟨k0, k1, k2, kf, kl⟩ := box3s hB
    obtain ⟨A, n, c, rfl, hm, hcc⟩ := own_shape ho
    rw [List.length_map] at hm
    have hn3 : ¬ (n : Int) = 3 := by omega
    clear ho
    go_wp2_with fail
    exact bodyPost_ret (v := .tuple #[.agg #[.string ⟨#[]⟩, .int .i64 0, .int .i64 0], .bool false]) (by simp [results, Tryd.results31, go_sem, k0, k1, k2, kl]) rfl ⟨by rw [HR.out]; rfl, below_st3 (below_one hB) (Nat.le_refl _) _ _ _ _ _ _⟩
  obtain ⟨b0, b1, b2, rfl⟩ := three_of hn
  have hl0 := hdl b0 (by simp)
  have hl2 := hdl b2 (by simp)
  clear hdl hn
  rcases b1 with _ | ⟨x, r⟩
  case cons =>
    have HR := Lib.hid (readD_mid (s := s) (b0 := b0) (b2 := b2) (List.cons_ne_nil x r))
    have e1 : (bs (x :: r)).toList = x :: r := bs_toList _
    have e2 : (bs (x :: r)).toList.isEmpty = false := by rw [e1]; rfl
    go_enter Tryd.func31, Tryd.ntmps31
    go_wp2_with fail
    refine (C1.out _).mono ?_
    rintro e w1 ⟨v, rfl, ho, hB⟩
    obtain ⟨g, c, rfl, hgb, hg, hh⟩ := own_cells ho scl_len rfl (by decide : 0 < 2)
    clear ho
    have c0 := hh.s0 (k := 0) rfl
    have c1 := hh.s0 (k := 1) rfl
    clear hh
    obtain ⟨k0, k1, k2, kf, kl⟩ := box3s hB
    go_wp2_with fail
    refine (C2.out _).mono ?_
    rintro e w2 ⟨v, rfl, ho, hb2⟩
    have c0 := cell_on c0 hb2 hg
    have hg := Nat.lt_of_lt_of_le hg hb2.size
    have hB := below_then hB hb2
    obtain ⟨k0, k1, k2, kf, kl⟩ := box3s hB
    obtain ⟨f, c', rfl, hfb, hf, hh⟩ := own_cells ho scl_len rfl (by decide : 0 < 3)
    clear ho
    have d0 := hh.s0 (k := 0) rfl
    have d1 := hh.s0 (k := 1) rfl
    have d2 := hh.s0 (k := 2) rfl
    clear hh
    go_wp2_with fail
    exact bodyPost_ret (v := .tuple #[.agg #[.string ⟨#[]⟩, .int .i64 0, .int .i64 0], .bool false]) (by simp [results, Tryd.results31, go_sem, k0, k1, k2, kl]) rfl ⟨by rw [HR.out]; rfl, below_st3 (below_one hB) (Nat.le_refl _) _ _ _ _ _ _⟩
  have e1 : (bs []).toList = [] := bs_toList _
  have HN := Lib.hid (readD_in s b0 b2)
  rcases n1 : nmF b0 with _ | m1
  case none =>
    have HR : Hid (readD s [b0, [], b2] = none) := Lib.hid (by rw [HN.out, n1])
    have E1 := Lib.hid n1
    clear HN n1
    go_enter Tryd.func31, Tryd.ntmps31
    go_wp2_with fail
    refine (C1.out _).mono ?_
    rintro e w1 ⟨v, rfl, ho, hB⟩
    obtain ⟨g, c, rfl, hgb, hg, hh⟩ := own_cells ho scl_len rfl (by decide : 0 < 2)
    clear ho
    have c0 := hh.s0 (k := 0) rfl
    have c1 := hh.s0 (k := 1) rfl
    clear hh
    obtain ⟨k0, k1, k2, kf, kl⟩ := box3s hB
    go_wp2_with fail
    refine (C2.out _).mono ?_
    rintro e w2 ⟨v, rfl, ho, hb2⟩
    have c0 := cell_on c0 hb2 hg
    have hg := Nat.lt_of_lt_of_le hg hb2.size
    have hB := below_then hB hb2
    obtain ⟨k0, k1, k2, kf, kl⟩ := box3s hB
    obtain ⟨f, c', rfl, hfb, hf, hh⟩ := own_cells ho scl_len rfl (by decide : 0 < 3)
    clear ho
    have d0 := hh.s0 (k := 0) rfl
    have d1 := hh.s0 (k := 1) rfl
    have d2 := hh.s0 (k := 2) rfl
    clear hh
    go_wp2_with fail
    refine (spec_l01Number b0 _ (by assumption)).mono ?_
    rintro e w2 ⟨rfl, hb2⟩
    have c0 := cell_on c0 hb2 hg
    have d2 := cell_on d2 hb2 hf
    have hg := Nat.lt_of_lt_of_le hg hb2.size
    have hf := Nat.lt_of_lt_of_le hf hb2.size
    have hB := below_then hB hb2
    obtain ⟨k0, k1, k2, kf, kl⟩ := box3s hB
    rw [E1.out]
    (try simp only [Option.getD_none, Option.getD_some, Option.isSome_none, Option.isSome_some])
    go_wp2_with fail
    refine (spec_l01Number b2 _ (by assumption)).mono ?_
    rintro e w2 ⟨rfl, hb2⟩
    have c0 := cell_on c0 hb2 hg
    have d2 := cell_on d2 hb2 hf
    have hg := Nat.lt_of_lt_of_le hg hb2.size
    have hf := Nat.lt_of_lt_of_le hf hb2.size
    have hB := below_then hB hb2
    obtain ⟨k0, k1, k2, kf, kl⟩ := box3s hB
    go_wp2_with fail
    exact bodyPost_ret (v := .tuple #[.agg #[.string ⟨#[]⟩, .int .i64 0, .int .i64 0], .bool false]) (by simp [results, Tryd.results31, go_sem, k0, k1, k2, kl]) rfl ⟨by rw [HR.out]; rfl, below_al (below_st3 (below_one hB) (Nat.le_refl _) _ _ _ _ _ _) _⟩
  rcases n2 : nmF b2 with _ | m2
  case none =>
    have HR : Hid (readD s [b0, [], b2] = none) := Lib.hid (by rw [HN.out, n1, n2])
    have E1 := Lib.hid n1
    have E2 := Lib.hid n2
    clear HN n1 n2
    go_enter Tryd.func31, Tryd.ntmps31
    go_wp2_with fail
    refine (C1.out _).mono ?_
    rintro e w1 ⟨v, rfl, ho, hB⟩
    obtain ⟨g, c, rfl, hgb, hg, hh⟩ := own_cells ho scl_len rfl (by decide : 0 < 2)
    clear ho
    have c0 := hh.s0 (k := 0) rfl
    have c1 := hh.s0 (k := 1) rfl
    clear hh
    obtain ⟨k0, k1, k2, kf, kl⟩ := box3s hB
    go_wp2_with fail
    refine (C2.out _).mono ?_
    rintro e w2 ⟨v, rfl, ho, hb2⟩
    have c0 := cell_on c0 hb2 hg
    have hg := Nat.lt_of_lt_of_le hg hb2.size
    have hB := below_then hB hb2
    obtain ⟨k0, k1, k2, kf, kl⟩ := box3s hB
    obtain ⟨f, c', rfl, hfb, hf, hh⟩ := own_cells ho scl_len rfl (by decide : 0 < 3)
    clear ho
    have d0 := hh.s0 (k := 0) rfl
    have d1 := hh.s0 (k := 1) rfl
    have d2 := hh.s0 (k := 2) rfl
    clear hh
    go_wp2_with fail
    refine (spec_l01Number b0 _ (by assumption)).mono ?_
    rintro e w2 ⟨rfl, hb2⟩
    have c0 := cell_on c0 hb2 hg
    have d2 := cell_on d2 hb2 hf
    have hg := Nat.lt_of_lt_of_le hg hb2.size
    have hf := Nat.lt_of_lt_of_le hf hb2.size
    have hB := below_then hB hb2
    obtain ⟨k0, k1, k2, kf, kl⟩ := box3s hB
    rw [E1.out]
    (try simp only [Option.getD_none, Option.getD_some, Option.isSome_none, Option.isSome_some])
    go_wp2_with fail
    refine (spec_l01Number b2 _ (by assumption)).mono ?_
    rintro e w2 ⟨rfl, hb2⟩
    have c0 := cell_on c0 hb2 hg
    have d2 := cell_on d2 hb2 hf
    have hg := Nat.lt_of_lt_of_le hg hb2.size
    have hf := Nat.lt_of_lt_of_le hf hb2.size
    have hB := below_then hB hb2
    obtain ⟨k0, k1, k2, kf, kl⟩ := box3s hB
    rw [E2.out]
    (try simp only [Option.getD_none, Option.getD_some, Option.isSome_none, Option.isSome_some])
    go_wp2_with fail
    exact bodyPost_ret (v := .tuple #[.agg #[.string ⟨#[]⟩, .int .i64 0, .int .i64 0], .bool false]) (by simp [results, Tryd.results31, go_sem, k0, k1, k2, kl]) rfl ⟨by rw [HR.out]; rfl, below_al (below_st3 (below_one hB) (Nat.le_refl _) _ _ _ _ _ _) _⟩
  have hss : (bs s).size ≤ 1048576 := by rw [bs_size]; exact hls
  rcases gp : guardOk ⟨bs s, m1, m2⟩
  case false =>
    have HR : Hid (readD s [b0, [], b2] = none) := Lib.hid (by rw [HN.out, n1, n2]; simp [gp])
    have E1 := Lib.hid n1
    have E2 := Lib.hid n2
    clear HN n1 n2
    go_enter Tryd.func31, Tryd.ntmps31
    go_wp2_with fail
    refine (C1.out _).mono ?_
    rintro e w1 ⟨v, rfl, ho, hB⟩
    obtain ⟨g, c, rfl, hgb, hg, hh⟩ := own_cells ho scl_len rfl (by decide : 0 < 2)
    clear ho
    have c0 := hh.s0 (k := 0) rfl
    have c1 := hh.s0 (k := 1) rfl
    clear hh
    obtain ⟨k0, k1, k2, kf, kl⟩ := box3s hB
    go_wp2_with fail
    refine (C2.out _).mono ?_
    rintro e w2 ⟨v, rfl, ho, hb2⟩
    have c0 := cell_on c0 hb2 hg
    have hg := Nat.lt_of_lt_of_le hg hb2.size
    have hB := below_then hB hb2
    obtain ⟨k0, k1, k2, kf, kl⟩ := box3s hB
    obtain ⟨f, c', rfl, hfb, hf, hh⟩ := own_cells ho scl_len rfl (by decide : 0 < 3)
    clear ho
    have d0 := hh.s0 (k := 0) rfl
    have d1 := hh.s0 (k := 1) rfl
    have d2 := hh.s0 (k := 2) rfl
    clear hh
    go_wp2_with fail
    refine (spec_l01Number b0 _ (by assumption)).mono ?_
    rintro e w2 ⟨rfl, hb2⟩
    have c0 := cell_on c0 hb2 hg
    have d2 := cell_on d2 hb2 hf
    have hg := Nat.lt_of_lt_of_le hg hb2.size
    have hf := Nat.lt_of_lt_of_le hf hb2.size
    have hB := below_then hB hb2
    obtain ⟨k0, k1, k2, kf, kl⟩ := box3s hB
    rw [E1.out]
    (try simp only [Option.getD_none, Option.getD_some, Option.isSome_none, Option.isSome_some])
    go_wp2_with fail
    refine (spec_l01Number b2 _ (by assumption)).mono ?_
    rintro e w2 ⟨rfl, hb2⟩
    have c0 := cell_on c0 hb2 hg
    have d2 := cell_on d2 hb2 hf
    have hg := Nat.lt_of_lt_of_le hg hb2.size
    have hf := Nat.lt_of_lt_of_le hf hb2.size
    have hB := below_then hB hb2
    obtain ⟨k0, k1, k2, kf, kl⟩ := box3s hB
    rw [E2.out]
    (try simp only [Option.getD_none, Option.getD_some, Option.isSome_none, Option.isSome_some])
    go_wp2_with fail
    obtain ⟨y0, y1, y2⟩ := box3k (Below.refl _ (w2.alloc (.cells #[.string (bs s), .int .i64 m1, .int .i64 m2] 44)))
    have hAl := below_al hB (.cells #[.string (bs s), .int .i64 m1, .int .i64 m2] 44)
    refine (spec_l17One _ _ ⟨bs s, m1, m2⟩ _ hss y0 y1 y2).mono ?_
    rintro e w6 ⟨rfl, hb6⟩
    rw [gp]
    have hB6 := below_then hAl hb6
    obtain ⟨k0, k1, k2, kf, kl⟩ := box3s hB6
    obtain ⟨y0, y1, y2, yf, yl⟩ := box3s hb6
    go_wp2_with fail
    exact bodyPost_ret (v := .tuple #[.agg #[.string ⟨#[]⟩, .int .i64 0, .int .i64 0], .bool false]) (by simp [results, Tryd.results31, go_sem, k0, k1, k2, kl]) rfl ⟨by rw [HR.out]; rfl, below_st3 (below_one hB6) (Nat.le_refl _) _ _ _ _ _ _⟩
  case true =>
    have HR : Hid (readD s [b0, [], b2] = some ⟨bs s, m1, m2⟩) := Lib.hid (by rw [HN.out, n1, n2]; simp [gp])
    have E1 := Lib.hid n1
    have E2 := Lib.hid n2
    clear HN n1 n2
    go_enter Tryd.func31, Tryd.ntmps31
    go_wp2_with fail
    refine (C1.out _).mono ?_
    rintro e w1 ⟨v, rfl, ho, hB⟩
    obtain ⟨g, c, rfl, hgb, hg, hh⟩ := own_cells ho scl_len rfl (by decide : 0 < 2)
    clear ho
    have c0 := hh.s0 (k := 0) rfl
    have c1 := hh.s0 (k := 1) rfl
    clear hh
    obtain ⟨k0, k1, k2, kf, kl⟩ := box3s hB
    go_wp2_with fail
    refine (C2.out _).mono ?_
    rintro e w2 ⟨v, rfl, ho, hb2⟩
    have c0 := cell_on c0 hb2 hg
    have hg := Nat.lt_of_lt_of_le hg hb2.size
    have hB := below_then hB hb2
    obtain ⟨k0, k1, k2, kf, kl⟩ := box3s hB
    obtain ⟨f, c', rfl, hfb, hf, hh⟩ := own_cells ho scl_len rfl (by decide : 0 < 3)
    clear ho
    have d0 := hh.s0 (k := 0) rfl
    have d1 := hh.s0 (k := 1) rfl
    have d2 := hh.s0 (k := 2) rfl
    clear hh
    go_wp2_with fail
    refine (spec_l01Number b0 _ (by assumption)).mono ?_
    rintro e w2 ⟨rfl, hb2⟩
    have c0 := cell_on c0 hb2 hg
    have d2 := cell_on d2 hb2 hf
    have hg := Nat.lt_of_lt_of_le hg hb2.size
    have hf := Nat.lt_of_lt_of_le hf hb2.size
    have hB := below_then hB hb2
    obtain ⟨k0, k1, k2, kf, kl⟩ := box3s hB
    rw [E1.out]
    (try simp only [Option.getD_none, Option.getD_some, Option.isSome_none, Option.isSome_some])
    go_wp2_with fail
    refine (spec_l01Number b2 _ (by assumption)).mono ?_
    rintro e w2 ⟨rfl, hb2⟩
    have c0 := cell_on c0 hb2 hg
    have d2 := cell_on d2 hb2 hf
    have hg := Nat.lt_of_lt_of_le hg hb2.size
    have hf := Nat.lt_of_lt_of_le hf hb2.size
    have hB := below_then hB hb2
    obtain ⟨k0, k1, k2, kf, kl⟩ := box3s hB
    rw [E2.out]
    (try simp only [Option.getD_none, Option.getD_some, Option.isSome_none, Option.isSome_some])
    go_wp2_with fail
    obtain ⟨y0, y1, y2⟩ := box3k (Below.refl _ (w2.alloc (.cells #[.string (bs s), .int .i64 m1, .int .i64 m2] 44)))
    have hAl := below_al hB (.cells #[.string (bs s), .int .i64 m1, .int .i64 m2] 44)
    refine (spec_l17One _ _ ⟨bs s, m1, m2⟩ _ hss y0 y1 y2).mono ?_
    rintro e w6 ⟨rfl, hb6⟩
    rw [gp]
    have hB6 := below_then hAl hb6
    obtain ⟨k0, k1, k2, kf, kl⟩ := box3s hB6
    obtain ⟨y0, y1, y2, yf, yl⟩ := box3s hb6
    go_wp2_with fail
    exact bodyPost_ret (v := .tuple #[.agg #[.string (bs s), .int .i64 m1, .int .i64 m2], .bool true]) (by simp [results, Tryd.results31, go_sem, k0, k1, k2, kl]) rfl ⟨by rw [HR.out]; rfl, below_st3 (below_one hB6) (Nat.le_refl _) _ _ _ _ _ _⟩

end Go.Proofs.YtjnbdmpgkbbmmaaDoor

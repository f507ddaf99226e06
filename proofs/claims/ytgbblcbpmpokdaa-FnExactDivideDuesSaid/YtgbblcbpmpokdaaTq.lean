/- Walks over functions of this seat, by contract. Conditions: those that each theorem states. -/
import Derived.Test.YtgbblcbpmpokdaaBase
namespace Go.Proofs.Ytgbblcbpmpokdaa
open Go.RowKit Go.Sort

theorem laws_toParcel (q : Q4) (w : World) : Calls Try.prog 32 #[.agg #[.int .i64 q.a, .int .i64 q.b, .int .i64 q.c, .int .i64 q.d]] w fun e w' => e = .returned (.agg #[.int .i64 q.a, .int .i64 q.b, .int .i64 q.c, .int .i64 q.d]) ∧ Below w.heap.size w w' := by
  go_enter Try.func32, Try.ntmps32
  go_wp2
  exact bodyPost_ret (v := .agg #[.int .i64 q.a, .int .i64 q.b, .int .i64 q.c, .int .i64 q.d]) (by simp [results, Try.results32, go_sem]) rfl
    ⟨rfl, below_al (below_al (below_al (Below.refl _ _) _) _) _⟩
theorem laws_toDefect (q : Q4) (w : World) : Calls Try.prog 43 #[.agg #[.int .i64 q.a, .int .i64 q.b, .int .i64 q.c, .int .i64 q.d]] w fun e w' => e = .returned (.agg #[.int .i64 q.a, .int .i64 q.b, .int .i64 q.c, .int .i64 q.d]) ∧ Below w.heap.size w w' := by
  go_enter Try.func43, Try.ntmps43
  go_wp2
  exact bodyPost_ret (v := .agg #[.int .i64 q.a, .int .i64 q.b, .int .i64 q.c, .int .i64 q.d]) (by simp [results, Try.results43, go_sem]) rfl
    ⟨rfl, below_al (below_al (below_al (Below.refl _ _) _) _) _⟩
theorem laws_szParcelS (A : Option Addr) (n c : Nat) (left : Int) (h0 : 0 ≤ left) (h1 : left ≤ 1048576) (hn : n ≤ 9223372036854775807) (w : World) : Calls Try.prog 6 #[.slice A n c, .int .i64 left] w fun e w' => e = .returned (.int .i64 (if left < n then -1 else left - n)) ∧ w = w' := by
  by_cases h : left < n
  all_goals
    go_enter Try.func6, Try.ntmps6
    go_wp2
    go_ret
    exact ⟨ret_int (by omega), rfl⟩
theorem laws_szDefectS (A : Option Addr) (n c : Nat) (left : Int) (h0 : 0 ≤ left) (h1 : left ≤ 1048576) (hn : n ≤ 9223372036854775807) (w : World) : Calls Try.prog 16 #[.slice A n c, .int .i64 left] w fun e w' => e = .returned (.int .i64 (if left < n then -1 else left - n)) ∧ w = w' := by
  by_cases h : left < n
  all_goals
    go_enter Try.func16, Try.ntmps16
    go_wp2
    go_ret
    exact ⟨ret_int (by omega), rfl⟩
theorem laws_eqParcel (p q : Q4) (w : World) : Calls Try.prog 36 #[.agg #[.int .i64 p.a, .int .i64 p.b, .int .i64 p.c, .int .i64 p.d], .agg #[.int .i64 q.a, .int .i64 q.b, .int .i64 q.c, .int .i64 q.d]] w fun e w' => e = .returned (.bool (q4eq p q)) ∧ Below w.heap.size w w' := by
  go_enter Try.func36, Try.ntmps36
  go_wp2
  all_goals (go_ret; exact ⟨ret_bool (by simp_all [q4eq]), below_al (below_al (Below.refl _ _) _) _⟩)
theorem laws_eqDefect (p q : Q4) (w : World) : Calls Try.prog 50 #[.agg #[.int .i64 p.a, .int .i64 p.b, .int .i64 p.c, .int .i64 p.d], .agg #[.int .i64 q.a, .int .i64 q.b, .int .i64 q.c, .int .i64 q.d]] w fun e w' => e = .returned (.bool (q4eq p q)) ∧ Below w.heap.size w w' := by
  go_enter Try.func50, Try.ntmps50
  go_wp2
  all_goals (go_ret; exact ⟨ret_bool (by simp_all [q4eq]), below_al (below_al (Below.refl _ _) _) _⟩)
theorem info_Parcel : (Try.prog.info? 54).map (fun i => (i.zero, i.size, i.bytes)) = some (some (.agg #[.int .i64 0, .int .i64 0, .int .i64 0, .int .i64 0]), 4, 32) := by kernel_rfl
theorem laws_toParcelS (A : Option Addr) (n c : Nat) (es : List Q4) (w : World) (hmax : n ≤ 1048576) (h : Sl w w.heap.size 4 Q4.cells A n es) :
    Calls Try.prog 8 #[.slice A n c] w fun e w' => ∃ v, e = .returned v ∧ Own w' w.heap.size 54 4 Q4.cells v es ∧ Below w.heap.size w w' := by
  obtain ⟨i0, hi, hz0, hz1, hz2⟩ := info_parts info_Parcel
  have hmk := make_all Try.underlying27 hi hz0 n (by rw [hz2]; omega) (by omega)
  rw [hz1] at hmk
  clear hi hz0 hz1 hz2
  have Hlen := Lib.hid h.len
  go_enter Try.func8, Try.ntmps8
  go_wp2
  clear hmk
  go_loopw [4] (fun i wr => ∃ k : Nat, k ≤ n ∧ i = .int .i64 k ∧ Row wr w.heap.size 54 (n * 4) ((es.take k).flatMap Q4.cells) ∧ Below w.heap.size w wr) (fun i _ => n - (intOf i).toNat)
  case atStart => exact ⟨0, by omega, rfl, by simpa using Row.new w _ _ _, below_al (Below.refl _ _) _⟩
  case round =>
    obtain ⟨k, hk, rfl, hrow, hbel⟩ := hrel
    by_cases hlt : k < n
    · obtain ⟨b, off, rfl, hb, H⟩ := h.at_ (by omega)
      obtain ⟨e, he⟩ := h.get hlt
      obtain ⟨c0, c1, c2, c3⟩ := (H.below hbel hb).q4 he
      have He := Lib.hid he
      clear he
      go_wp2_with (go_at_call 32; refine (laws_toParcel _ _).mono ?_; rintro ev w1 ⟨rfl, hb1⟩; have hrow1 := hrow.on hb1; obtain ⟨v0, x0⟩ := hrow1.cell (i := k * 4) (by omega); obtain ⟨v1, x1⟩ := hrow1.cell (i := k * 4 + 1) (by omega); obtain ⟨v2, x2⟩ := hrow1.cell (i := k * 4 + 2) (by omega); obtain ⟨v3, x3⟩ := hrow1.cell (i := k * 4 + 3) (by omega); have f0 := hrow1.frozen (k * 4); have f1 := hrow1.frozen (k * 4 + 1); have f2 := hrow1.frozen (k * 4 + 2); have f3 := hrow1.frozen (k * 4 + 3))
      go_roundw
      case rel => exact ⟨k + 1, by omega, by go_num, by rw [take_flat He.out]; exact hrow1.push4 (take_flat_len Q4.cells_len (by have := Hlen.out; omega)) _ _ _ _ (by omega), below_st (below_st (below_st (below_st (below_then hbel hb1) _ (Nat.le_refl _) _) _ (Nat.le_refl _) _) _ (Nat.le_refl _) _) _ (Nat.le_refl _) _⟩
      case measure => simp [intOf]; omega
    · go_wp2
      go_ret
      have hkn : k = n := by omega
      subst hkn
      have hlen : es.length = k := Hlen.out
      subst hlen
      rw [List.take_length] at hrow
      exact ⟨_, rfl, hrow.own Q4.cells_len (Nat.le_refl _) (by unfold maxLen; omega), hbel⟩
theorem info_Defect : (Try.prog.info? 65).map (fun i => (i.zero, i.size, i.bytes)) = some (some (.agg #[.int .i64 0, .int .i64 0, .int .i64 0, .int .i64 0]), 4, 32) := by kernel_rfl
theorem laws_toDefectS (A : Option Addr) (n c : Nat) (es : List Q4) (w : World) (hmax : n ≤ 1048576) (h : Sl w w.heap.size 4 Q4.cells A n es) :
    Calls Try.prog 18 #[.slice A n c] w fun e w' => ∃ v, e = .returned v ∧ Own w' w.heap.size 65 4 Q4.cells v es ∧ Below w.heap.size w w' := by
  obtain ⟨i0, hi, hz0, hz1, hz2⟩ := info_parts info_Defect
  have hmk := make_all Try.underlying38 hi hz0 n (by rw [hz2]; omega) (by omega)
  rw [hz1] at hmk
  clear hi hz0 hz1 hz2
  have Hlen := Lib.hid h.len
  go_enter Try.func18, Try.ntmps18
  go_wp2
  clear hmk
  go_loopw [4] (fun i wr => ∃ k : Nat, k ≤ n ∧ i = .int .i64 k ∧ Row wr w.heap.size 65 (n * 4) ((es.take k).flatMap Q4.cells) ∧ Below w.heap.size w wr) (fun i _ => n - (intOf i).toNat)
  case atStart => exact ⟨0, by omega, rfl, by simpa using Row.new w _ _ _, below_al (Below.refl _ _) _⟩
  case round =>
    obtain ⟨k, hk, rfl, hrow, hbel⟩ := hrel
    by_cases hlt : k < n
    · obtain ⟨b, off, rfl, hb, H⟩ := h.at_ (by omega)
      obtain ⟨e, he⟩ := h.get hlt
      obtain ⟨c0, c1, c2, c3⟩ := (H.below hbel hb).q4 he
      have He := Lib.hid he
      clear he
      go_wp2_with (go_at_call 43; refine (laws_toDefect _ _).mono ?_; rintro ev w1 ⟨rfl, hb1⟩; have hrow1 := hrow.on hb1; obtain ⟨v0, x0⟩ := hrow1.cell (i := k * 4) (by omega); obtain ⟨v1, x1⟩ := hrow1.cell (i := k * 4 + 1) (by omega); obtain ⟨v2, x2⟩ := hrow1.cell (i := k * 4 + 2) (by omega); obtain ⟨v3, x3⟩ := hrow1.cell (i := k * 4 + 3) (by omega); have f0 := hrow1.frozen (k * 4); have f1 := hrow1.frozen (k * 4 + 1); have f2 := hrow1.frozen (k * 4 + 2); have f3 := hrow1.frozen (k * 4 + 3))
      go_roundw
      case rel => exact ⟨k + 1, by omega, by go_num, by rw [take_flat He.out]; exact hrow1.push4 (take_flat_len Q4.cells_len (by have := Hlen.out; omega)) _ _ _ _ (by omega), below_st (below_st (below_st (below_st (below_then hbel hb1) _ (Nat.le_refl _) _) _ (Nat.le_refl _) _) _ (Nat.le_refl _) _) _ (Nat.le_refl _) _⟩
      case measure => simp [intOf]; omega
    · go_wp2
      go_ret
      have hkn : k = n := by omega
      subst hkn
      have hlen : es.length = k := Hlen.out
      subst hlen
      rw [List.take_length] at hrow
      exact ⟨_, rfl, hrow.own Q4.cells_len (Nat.le_refl _) (by unfold maxLen; omega), hbel⟩
set_option maxHeartbeats 400000 in
theorem laws_eqParcelS (A A' : Option Addr) (n m c c' : Nat) (es fs : List Q4) (w : World) (hmax : n ≤ 1048576) (hmax' : m ≤ 1048576) (h : Sl w w.heap.size 4 Q4.cells A n es) (h' : Sl w w.heap.size 4 Q4.cells A' m fs) :
    Calls Try.prog 12 #[.slice A n c, .slice A' m c'] w fun e w' => e = .returned (.bool (q4all es fs)) ∧ Below w.heap.size w w' := by
  have hl := h.len
  have hl' := h'.len
  by_cases hnm : n = m
  · subst hnm
    have Hl := Lib.hid hl
    have Hl' := Lib.hid hl'
    clear hl hl'
    go_enter Try.func12, Try.ntmps12
    go_wp2
    go_loopw [5] (fun i wr => ∃ k : Nat, k ≤ n ∧ i = .int .i64 k ∧ (∀ j, j < k → ∀ p q, es[j]? = some p → fs[j]? = some q → q4eq p q = true) ∧ Below w.heap.size w wr) (fun i _ => n - (intOf i).toNat)
    case atStart => exact ⟨0, by omega, rfl, fun j hj => by omega, Below.refl _ _⟩
    case round =>
      obtain ⟨k, hk, rfl, hall, hbel⟩ := hrel
      have Hall := Lib.hid hall
      clear hall
      by_cases hlt : k < n
      · obtain ⟨b, off, rfl, hb, H⟩ := h.at_ (by omega)
        obtain ⟨p, hp⟩ := h.get hlt
        obtain ⟨b', off', rfl, hb', H'⟩ := h'.at_ (by omega)
        obtain ⟨q, hq⟩ := h'.get hlt
        obtain ⟨c0, c1, c2, c3⟩ := (H.below hbel hb).q4c (Nat.lt_of_lt_of_le hb hbel.size) hp
        obtain ⟨d0, d1, d2, d3⟩ := (H'.below hbel hb').q4c (Nat.lt_of_lt_of_le hb' hbel.size) hq
        have Hp := Lib.hid hp
        have Hq := Lib.hid hq
        clear hp hq
        go_wp2
        refine wp_region_quiet_below (by kernel_rfl) (by kernel_rfl) ?_
        repeat (go_big_quiet_step (exact Calls.regrown_of (laws_eqParcel p q _)))
        refine wpQuiet_nil ?_
        intro wq hwq
        have hbq := below_then hbel (below_of_class hwq)
        clear hwq c0 c1 c2 c3 d0 d1 d2 d3
        go_wp2
        · have hne : (!q4eq p q) = true := by assumption
          go_ret
          exact ⟨ret_bool (by rw [q4all_no Hp.out Hq.out (by simpa using hne)]), hbq⟩
        · have heq : (!q4eq p q) = false := by assumption
          go_roundw
          case rel =>
            refine ⟨k + 1, by omega, by go_num, ?_, hbq⟩
            intro j hj p' q' hp' hq'
            rcases Nat.lt_or_ge j k with h1 | h1
            · exact Hall.out j h1 p' q' hp' hq'
            · have : j = k := by omega
              subst this
              rw [Hp.out] at hp'; rw [Hq.out] at hq'
              injection hp' with hp'; injection hq' with hq'
              subst hp'; subst hq'; simpa using heq
          case measure => simp [intOf]; omega
      · go_wp2
        go_ret
        have hkn : k = n := by omega
        subst hkn
        exact ⟨ret_bool (by rw [q4all_yes (by rw [Hl.out, Hl'.out]) (fun j hj => Hall.out j (by rw [Hl.out] at hj; exact hj))]), hbel⟩
  · have hne : ((n : Int) != (m : Int)) = true := by rw [bne_iff_ne]; omega
    have Hl := Lib.hid hl
    have Hl' := Lib.hid hl'
    clear hl hl'
    go_enter Try.func12, Try.ntmps12
    go_wp2
    go_ret
    exact ⟨ret_bool (by rw [q4all_len (by rw [Hl.out, Hl'.out]; exact hnm)]), Below.refl _ _⟩
set_option maxHeartbeats 400000 in
theorem laws_eqDefectS (A A' : Option Addr) (n m c c' : Nat) (es fs : List Q4) (w : World) (hmax : n ≤ 1048576) (hmax' : m ≤ 1048576) (h : Sl w w.heap.size 4 Q4.cells A n es) (h' : Sl w w.heap.size 4 Q4.cells A' m fs) :
    Calls Try.prog 20 #[.slice A n c, .slice A' m c'] w fun e w' => e = .returned (.bool (q4all es fs)) ∧ Below w.heap.size w w' := by
  have hl := h.len
  have hl' := h'.len
  by_cases hnm : n = m
  · subst hnm
    have Hl := Lib.hid hl
    have Hl' := Lib.hid hl'
    clear hl hl'
    go_enter Try.func20, Try.ntmps20
    go_wp2
    go_loopw [5] (fun i wr => ∃ k : Nat, k ≤ n ∧ i = .int .i64 k ∧ (∀ j, j < k → ∀ p q, es[j]? = some p → fs[j]? = some q → q4eq p q = true) ∧ Below w.heap.size w wr) (fun i _ => n - (intOf i).toNat)
    case atStart => exact ⟨0, by omega, rfl, fun j hj => by omega, Below.refl _ _⟩
    case round =>
      obtain ⟨k, hk, rfl, hall, hbel⟩ := hrel
      have Hall := Lib.hid hall
      clear hall
      by_cases hlt : k < n
      · obtain ⟨b, off, rfl, hb, H⟩ := h.at_ (by omega)
        obtain ⟨p, hp⟩ := h.get hlt
        obtain ⟨b', off', rfl, hb', H'⟩ := h'.at_ (by omega)
        obtain ⟨q, hq⟩ := h'.get hlt
        obtain ⟨c0, c1, c2, c3⟩ := (H.below hbel hb).q4c (Nat.lt_of_lt_of_le hb hbel.size) hp
        obtain ⟨d0, d1, d2, d3⟩ := (H'.below hbel hb').q4c (Nat.lt_of_lt_of_le hb' hbel.size) hq
        have Hp := Lib.hid hp
        have Hq := Lib.hid hq
        clear hp hq
        go_wp2
        refine wp_region_quiet_below (by kernel_rfl) (by kernel_rfl) ?_
        repeat (go_big_quiet_step (exact Calls.regrown_of (laws_eqDefect p q _)))
        refine wpQuiet_nil ?_
        intro wq hwq
        have hbq := below_then hbel (below_of_class hwq)
        clear hwq c0 c1 c2 c3 d0 d1 d2 d3
        go_wp2
        · have hne : (!q4eq p q) = true := by assumption
          go_ret
          exact ⟨ret_bool (by rw [q4all_no Hp.out Hq.out (by simpa using hne)]), hbq⟩
        · have heq : (!q4eq p q) = false := by assumption
          go_roundw
          case rel =>
            refine ⟨k + 1, by omega, by go_num, ?_, hbq⟩
            intro j hj p' q' hp' hq'
            rcases Nat.lt_or_ge j k with h1 | h1
            · exact Hall.out j h1 p' q' hp' hq'
            · have : j = k := by omega
              subst this
              rw [Hp.out] at hp'; rw [Hq.out] at hq'
              injection hp' with hp'; injection hq' with hq'
              subst hp'; subst hq'; simpa using heq
          case measure => simp [intOf]; omega
      · go_wp2
        go_ret
        have hkn : k = n := by omega
        subst hkn
        exact ⟨ret_bool (by rw [q4all_yes (by rw [Hl.out, Hl'.out]) (fun j hj => Hall.out j (by rw [Hl.out] at hj; exact hj))]), hbel⟩
  · have hne : ((n : Int) != (m : Int)) = true := by rw [bne_iff_ne]; omega
    have Hl := Lib.hid hl
    have Hl' := Lib.hid hl'
    clear hl hl'
    go_enter Try.func20, Try.ntmps20
    go_wp2
    go_ret
    exact ⟨ret_bool (by rw [q4all_len (by rw [Hl.out, Hl'.out]; exact hnm)]), Below.refl _ _⟩
set_option maxHeartbeats 400000 in
theorem laws_markParcelS (base n : Nat) (v : Value) (xs : List Value) (k0 : Int) (w : World) (hmax : n ≤ 1048576) (h0 : 0 ≤ k0) (h1 : k0 ≤ 1099511627776) (h : w.ownsRow base 54 4 v n xs) :
    Calls Try.prog 13 #[v, .int .i64 k0] w fun e w' => e = .returned (.int .i64 (k0 + (n * 4 : Nat))) ∧ w'.ownsRow base 54 4 v n (marks k0 (n * 4)) ∧ w.grownBy w' v.ownBlock := by
  rcases Nat.eq_zero_or_pos n with hz | hpos
  · obtain ⟨A, c, rfl⟩ : ∃ A c, v = .slice A n c := by
      rcases h.2 with ⟨rfl, e0⟩ | ⟨g, cap, cur, rfl, _⟩
      · subst e0; exact ⟨_, _, rfl⟩
      · exact ⟨_, _, rfl⟩
    subst hz
    have hxs : xs = [] := List.eq_nil_of_length_eq_zero (by simpa using h.1)
    subst hxs
    go_enter Try.func13, Try.ntmps13
    go_wp2
    refine wp_loop_rounds 1 ?_
    rw [rounds_succ]
    go_wp2
    go_ret
    exact ⟨ret_int (by simp), by simpa [marks] using h, World.grownBy.refl w _⟩
  · obtain ⟨g, cap, rfl, hb, hc, hm, hrow⟩ := owns_block h hpos
    have hs := hrow.start
    clear h hrow
    go_enter Try.func13, Try.ntmps13
    go_wp2
    go_loopw [1, 5] (fun kk i wr => ∃ k : Nat, k ≤ n ∧ i = .int .i64 k ∧ kk = .int .i64 (k0 + (k * 4 : Nat)) ∧ Row wr g 54 (cap * 4) (marks k0 (k * 4)) ∧ w.grownBy wr (some g)) (fun _ i _ => n - (intOf i).toNat)
    case atStart => exact ⟨0, by omega, rfl, by simp, by simpa [marks] using hs, World.grownBy.refl w _⟩
    case round =>
      obtain ⟨k, hk, rfl, rfl, hrow, hgr⟩ := hrel
      by_cases hlt : k < n
      · obtain ⟨v0, x0⟩ := hrow.cell (i := k * 4) (by omega)
        obtain ⟨v1, x1⟩ := hrow.cell (i := k * 4 + 1) (by omega)
        obtain ⟨v2, x2⟩ := hrow.cell (i := k * 4 + 2) (by omega)
        obtain ⟨v3, x3⟩ := hrow.cell (i := k * 4 + 3) (by omega)
        have f0 := hrow.frozen (k * 4)
        have f1 := hrow.frozen (k * 4 + 1)
        have f2 := hrow.frozen (k * 4 + 2)
        have f3 := hrow.frozen (k * 4 + 3)
        go_wp2
        go_roundw
        case rel => exact ⟨k + 1, by omega, by go_num, by go_num, by rw [marks_step4]; exact hrow.push4 (marks_len _ _) _ _ _ _ (by omega), only_st (only_st (only_st (only_st hgr _ _) _ _) _ _) _ _⟩
        case measure => simp [intOf]; omega
      · go_wp2
        go_ret
        have hkn : k = n := by omega
        subst hkn
        exact ⟨rfl, owns_of_row hrow hb hc hm (marks_len _ _), hgr⟩
set_option maxHeartbeats 400000 in
theorem laws_markDefectS (base n : Nat) (v : Value) (xs : List Value) (k0 : Int) (w : World) (hmax : n ≤ 1048576) (h0 : 0 ≤ k0) (h1 : k0 ≤ 1099511627776) (h : w.ownsRow base 65 4 v n xs) :
    Calls Try.prog 21 #[v, .int .i64 k0] w fun e w' => e = .returned (.int .i64 (k0 + (n * 4 : Nat))) ∧ w'.ownsRow base 65 4 v n (marks k0 (n * 4)) ∧ w.grownBy w' v.ownBlock := by
  rcases Nat.eq_zero_or_pos n with hz | hpos
  · obtain ⟨A, c, rfl⟩ : ∃ A c, v = .slice A n c := by
      rcases h.2 with ⟨rfl, e0⟩ | ⟨g, cap, cur, rfl, _⟩
      · subst e0; exact ⟨_, _, rfl⟩
      · exact ⟨_, _, rfl⟩
    subst hz
    have hxs : xs = [] := List.eq_nil_of_length_eq_zero (by simpa using h.1)
    subst hxs
    go_enter Try.func21, Try.ntmps21
    go_wp2
    refine wp_loop_rounds 1 ?_
    rw [rounds_succ]
    go_wp2
    go_ret
    exact ⟨ret_int (by simp), by simpa [marks] using h, World.grownBy.refl w _⟩
  · obtain ⟨g, cap, rfl, hb, hc, hm, hrow⟩ := owns_block h hpos
    have hs := hrow.start
    clear h hrow
    go_enter Try.func21, Try.ntmps21
    go_wp2
    go_loopw [1, 5] (fun kk i wr => ∃ k : Nat, k ≤ n ∧ i = .int .i64 k ∧ kk = .int .i64 (k0 + (k * 4 : Nat)) ∧ Row wr g 65 (cap * 4) (marks k0 (k * 4)) ∧ w.grownBy wr (some g)) (fun _ i _ => n - (intOf i).toNat)
    case atStart => exact ⟨0, by omega, rfl, by simp, by simpa [marks] using hs, World.grownBy.refl w _⟩
    case round =>
      obtain ⟨k, hk, rfl, rfl, hrow, hgr⟩ := hrel
      by_cases hlt : k < n
      · obtain ⟨v0, x0⟩ := hrow.cell (i := k * 4) (by omega)
        obtain ⟨v1, x1⟩ := hrow.cell (i := k * 4 + 1) (by omega)
        obtain ⟨v2, x2⟩ := hrow.cell (i := k * 4 + 2) (by omega)
        obtain ⟨v3, x3⟩ := hrow.cell (i := k * 4 + 3) (by omega)
        have f0 := hrow.frozen (k * 4)
        have f1 := hrow.frozen (k * 4 + 1)
        have f2 := hrow.frozen (k * 4 + 2)
        have f3 := hrow.frozen (k * 4 + 3)
        go_wp2
        go_roundw
        case rel => exact ⟨k + 1, by omega, by go_num, by go_num, by rw [marks_step4]; exact hrow.push4 (marks_len _ _) _ _ _ _ (by omega), only_st (only_st (only_st (only_st hgr _ _) _ _) _ _) _ _⟩
        case measure => simp [intOf]; omega
      · go_wp2
        go_ret
        have hkn : k = n := by omega
        subst hkn
        exact ⟨rfl, owns_of_row hrow hb hc hm (marks_len _ _), hgr⟩
theorem laws_eqParcelS_self (A A' : Option Addr) (n m c c' : Nat) (es : List Q4) (w : World) (hmax : n ≤ 1048576) (hmax' : m ≤ 1048576) (h : Sl w w.heap.size 4 Q4.cells A n es) (h' : Sl w w.heap.size 4 Q4.cells A' m es) :
    Calls Try.prog 12 #[.slice A n c, .slice A' m c'] w fun e w' => e = .returned (.bool true) ∧ Below w.heap.size w w' := by
  have hs : q4all es es = true := q4all_iff.2 rfl
  rw [← hs]; exact laws_eqParcelS A A' n m c c' es es w hmax hmax' h h'
theorem laws_eqDefectS_self (A A' : Option Addr) (n m c c' : Nat) (es : List Q4) (w : World) (hmax : n ≤ 1048576) (hmax' : m ≤ 1048576) (h : Sl w w.heap.size 4 Q4.cells A n es) (h' : Sl w w.heap.size 4 Q4.cells A' m es) :
    Calls Try.prog 20 #[.slice A n c, .slice A' m c'] w fun e w' => e = .returned (.bool true) ∧ Below w.heap.size w w' := by
  have hs : q4all es es = true := q4all_iff.2 rfl
  rw [← hs]; exact laws_eqDefectS A A' n m c c' es es w hmax hmax' h h'
theorem impl_size_impl.Defect (A : Option Addr) (n c : Nat) (w : World) (_hn : n ≤ 9223372036854775807) : Calls Try.prog 77 #[.slice A n c] w fun e w' => e = .returned (.int .i64 n) ∧ w = w' := by
  go_enter Try.func77, Try.ntmps77
  go_wp2
  go_ret
  exact ⟨rfl, rfl⟩

end Go.Proofs.Ytgbblcbpmpokdaa

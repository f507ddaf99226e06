/- Walks over functions of this seat, by contract. Conditions: those that each theorem states. -/
import Derived.Test.YtgbblcbpmpokdaaC2
namespace Go.Proofs.Ytgbblcbpmpokdaa
open Go.RowKit Go.Sort

set_option maxHeartbeats 400000 in
theorem laws_markStringS (base n : Nat) (v : Value) (xs : List Value) (k0 : Int) (w : World) (hmax : n ≤ 1048576) (h0 : 1 ≤ k0) (h1 : k0 ≤ 1000000000) (h : w.ownsRow base 9 1 v n xs) :
    Calls Try.prog 29 #[v, .int .i64 k0] w fun e w' => e = .returned (.int .i64 (k0 + (n : Nat))) ∧ w'.ownsRow base 9 1 v n (smarks k0 n) ∧ w.grownBy w' v.ownBlock := by
  rcases Nat.eq_zero_or_pos n with hz | hpos
  · obtain ⟨A, c, rfl⟩ : ∃ A c, v = .slice A n c := by
      rcases h.2 with ⟨rfl, e0⟩ | ⟨g, cap, cur, rfl, _⟩
      · subst e0; exact ⟨_, _, rfl⟩
      · exact ⟨_, _, rfl⟩
    subst hz
    have hxs : xs = [] := List.eq_nil_of_length_eq_zero (by simpa using h.1)
    subst hxs
    go_enter Try.func29, Try.ntmps29
    go_wp2
    refine wp_loop_rounds 1 ?_
    rw [rounds_succ]
    go_wp2
    go_ret
    exact ⟨ret_int (by simp), by simpa [smarks] using h, World.grownBy.refl w _⟩
  · obtain ⟨g, cap, rfl, hb, hc, hm, hrow⟩ := owns_block h hpos
    have hs := hrow.start
    clear h hrow
    rw [Nat.mul_one] at hs
    go_enter Try.func29, Try.ntmps29
    go_wp2
    go_loopw [1, 5] (fun kk i wr => ∃ k : Nat, k ≤ n ∧ i = .int .i64 k ∧ kk = .int .i64 (k0 + (k : Nat)) ∧ Row wr g 9 cap (smarks k0 k) ∧ w.grownBy wr (some g)) (fun _ i _ => n - (intOf i).toNat)
    case atStart => exact ⟨0, by omega, rfl, by simp, by simpa [smarks] using hs, World.grownBy.refl w _⟩
    case round =>
      obtain ⟨k, hk, rfl, rfl, hrow, hgr⟩ := hrel
      by_cases hlt : k < n
      · obtain ⟨v0, x0⟩ := hrow.cell (i := k) (by omega)
        have f0 := hrow.frozen k
        clear x0 f0
        go_wp2_with (go_at_call 59; refine (laws_markText_i _ (by omega) (by omega) _).mono ?_; rintro ev w1 ⟨rfl, hb1⟩; have hrow1 := hrow.on hb1; obtain ⟨v1, x1⟩ := hrow1.cell (i := k) (by omega); have f1 := hrow1.frozen k)
        go_roundw
        case rel => exact ⟨k + 1, by omega, by go_num, by go_num, by rw [smarks_succ]; exact hrow1.push1 (smarks_len _ _) _ (by omega), only_st (only_below hgr hb1) _ _⟩
        case measure => simp [intOf]; omega
      · go_wp2
        go_ret
        have hkn : k = n := by omega
        subst hkn
        exact ⟨rfl, owns_of_row (by rw [Nat.mul_one]; exact hrow) hb hc hm (by rw [smarks_len, Nat.mul_one]), hgr⟩
set_option maxHeartbeats 400000 in
theorem laws_heldStringS (base n : Nat) (v : Value) (k0 : Int) (w : World) (hmax : n ≤ 1048576) (h0 : 1 ≤ k0) (h1 : k0 ≤ 1000000000) (h : w.ownsRow base 9 1 v n (smarks k0 n)) :
    Calls Try.prog 30 #[v, .int .i64 k0] w fun e w' => e = .returned (.int .i64 (k0 + (n : Nat))) ∧ Below w.heap.size w w' := by
  rcases Nat.eq_zero_or_pos n with hz | hpos
  · obtain ⟨A, c, rfl⟩ : ∃ A c, v = .slice A n c := by
      rcases h.2 with ⟨rfl, e0⟩ | ⟨g, cap, cur, rfl, _⟩
      · subst e0; exact ⟨_, _, rfl⟩
      · exact ⟨_, _, rfl⟩
    subst hz
    go_enter Try.func30, Try.ntmps30
    go_wp2
    refine wp_loop_rounds 1 ?_
    rw [rounds_succ]
    go_wp2
    go_ret
    exact ⟨ret_int (by simp), Below.refl _ _⟩
  · obtain ⟨g, cap, rfl, hb, hc, hm, hrow⟩ := owns_block h hpos
    clear h
    have Hrow := Lib.hid hrow
    have hgl := hrow.lt
    clear hrow
    go_enter Try.func30, Try.ntmps30
    go_wp2
    go_loopw [1, 5] (fun kk i wr => ∃ k : Nat, k ≤ n ∧ i = .int .i64 k ∧ kk = .int .i64 (k0 + (k : Nat)) ∧ Below w.heap.size w wr) (fun _ i _ => n - (intOf i).toNat)
    case atStart => exact ⟨0, by omega, rfl, by simp, Below.refl _ _⟩
    case round =>
      obtain ⟨k, hk, rfl, rfl, hbel⟩ := hrel
      by_cases hlt : k < n
      · have x0 := cell_on (Hrow.out.at_ (smarks_get k0 n k hlt)) hbel hgl
        have y0 := fun d os => cell_regrown x0 d os
        have hk0 : (0 : Int) ≤ (k : Int) := by omega
        have hkn : (k : Int) < (n : Int) := by omega
        go_wp2_with fail
        refine wp_region_quiet_below (by kernel_rfl) (by kernel_rfl) ?_
        repeat (go_big_quiet_step (exact Calls.regrown_of (laws_markText_i _ (by omega) (by omega) _)))
        refine wpQuiet_nil ?_
        intro wq hwq
        have hbq := below_then hbel (below_of_class hwq)
        clear hwq y0 x0
        go_wp2
        go_roundw
        case rel => exact ⟨k + 1, by omega, by go_num, by go_num, hbq⟩
        case measure => simp [intOf]; omega
      · go_wp2
        go_ret
        have hkn : k = n := by omega
        subst hkn
        exact ⟨rfl, hbel⟩
structure R3 where
  A : Option Addr
  n : Nat
  c : Nat
def R3.v (r : R3) : Value := .slice r.A r.n r.c
def rcell (r : R3) : List Value := [.slice r.A r.n r.c]
theorem rcell_len (r : R3) : (rcell r).length = 1 := rfl
theorem rcell_one (e : R3) (u : Value) (hu : u ∈ rcell e) : u.oneCell' = true := by
  simp [rcell] at hu; subst hu; rfl
theorem Has.r1 {w : World} {b off k : Nat} {xs : List R3} {x : R3} (h : Has w b off 1 rcell xs) (hx : xs[k]? = some x) : w.cell? ⟨b, off + k, none⟩ = some (.slice x.A x.n x.c) := by
  have := h k x hx 0 _ rfl
  simpa using this
structure SS (w : World) (B : Nat) (A : Option Addr) (n : Nat) (rs : List R3) (L : List (List ByteArray)) : Prop where
  top : Sl w B 1 rcell A n rs
  len : rs.length = L.length
  row : ∀ (i : Nat) (r : R3) (l : List ByteArray), rs[i]? = some r → L[i]? = some l → Sl w B 1 scell r.A r.n l
theorem SS.on {w w' : World} {A : Option Addr} {n : Nat} {rs : List R3} {L : List (List ByteArray)} (h : SS w w.heap.size A n rs L) (hb : Below w.heap.size w w') : SS w' w'.heap.size A n rs L :=
  ⟨h.top.on hb, h.len, fun i r l h1 h2 => (h.row i r l h1 h2).on hb⟩
theorem SS.lenL {w : World} {B : Nat} {A : Option Addr} {n : Nat} {rs : List R3} {L : List (List ByteArray)} (h : SS w B A n rs L) : L.length = n := by rw [← h.len, h.top.len]
theorem SS.get {w : World} {B : Nat} {A : Option Addr} {n : Nat} {rs : List R3} {L : List (List ByteArray)} (h : SS w B A n rs L) {k : Nat} (hk : k < n) :
    ∃ r l, rs[k]? = some r ∧ L[k]? = some l ∧ Sl w B 1 scell r.A r.n l := by
  obtain ⟨r, hr⟩ := h.top.get hk
  obtain ⟨l, hl⟩ : ∃ l, L[k]? = some l := ⟨L[k]'(by rw [h.lenL]; exact hk), List.getElem?_eq_getElem _⟩
  exact ⟨r, l, hr, hl, h.row k r l hr hl⟩
def rsum (L : List (List ByteArray)) : Nat := (L.map List.length).sum
theorem rsum_take {L : List (List ByteArray)} {k : Nat} {l : List ByteArray} (h : L[k]? = some l) : rsum (L.take (k + 1)) = rsum (L.take k) + l.length := by
  obtain ⟨hk, hx⟩ := List.getElem?_eq_some_iff.1 h
  rw [List.take_succ_eq_append_getElem hk, hx]
  simp [rsum]
def SzSS (L : List (List ByteArray)) (left : Int) (r : Int) : Prop := r = -1 ∨ (0 ≤ r ∧ r + L.length + (rsum L : Int) ≤ left ∧ ∀ l ∈ L, (l.length : Int) ≤ left ∧ ∀ e ∈ l, (e.size : Int) ≤ left)
set_option maxHeartbeats 400000 in
theorem laws_szStringSS (A : Option Addr) (n c : Nat) (rs : List R3) (L : List (List ByteArray)) (left : Int) (w : World) (h0 : 0 ≤ left) (h1 : left ≤ 1048576) (hn : n ≤ 9223372036854775807) (hr : ∀ r ∈ rs, r.n ≤ 9223372036854775807) (hz : ∀ l ∈ L, ∀ e ∈ l, e.size ≤ 9223372036854775807)
    (h : SS w w.heap.size A n rs L) :
    Calls Try.prog 22 #[.slice A n c, .int .i64 left] w fun e w' => ∃ r, e = .returned (.int .i64 r) ∧ SzSS L left r ∧ w = w' := by
  have Hlen := Lib.hid h.lenL
  have HZ := Lib.hid hz
  have HR := Lib.hid hr
  clear hz hr
  by_cases hlt : left < n
  · go_enter Try.func22, Try.ntmps22
    go_wp2
    go_ret
    exact ⟨_, rfl, .inl rfl, rfl⟩
  · go_enter Try.func22, Try.ntmps22
    go_wp2
    go_loop [1, 5] (fun lf i => ∃ (k : Nat) (r : Int), k ≤ n ∧ i = .int .i64 k ∧ lf = .int .i64 r ∧ 0 ≤ r ∧ r + (rsum (L.take k) : Int) ≤ left - n ∧ Hid (∀ (j : Nat) l, j < k → L[j]? = some l → (l.length : Int) ≤ left ∧ ∀ e ∈ l, (e.size : Int) ≤ left)) (fun _ i => n - (intOf i).toNat)
    case atStart => exact ⟨0, _, by omega, rfl, rfl, by omega, by simp [rsum], Lib.hid (fun j e hj => by omega)⟩
    case round =>
      obtain ⟨k, r, hk, rfl, rfl, r0, r1, Hg⟩ := hrel
      by_cases hk2 : k < n
      · obtain ⟨b, off, rfl, hb, H⟩ := h.top.at_ (by omega)
        obtain ⟨x, l, hx, hl, hS⟩ := h.get hk2
        have c0 := H.r1 hx
        have hxn := HR.out x (List.mem_of_getElem? hx)
        have hlz := HZ.out l (List.mem_of_getElem? hl)
        have He := Lib.hid hl
        have HS := Lib.hid hS
        have HLZ := Lib.hid hlz
        clear hl hx hS hlz
        go_wp2_with fail
        refine (laws_szStringS x.A x.n x.c l r _ r0 (by omega) hxn HLZ.out HS.out).mono ?_
        rintro e w1 ⟨q, rfl, hq, rfl⟩
        rcases hq with rfl | ⟨q0, q1, q2⟩
        · go_wp2
          go_ret
          exact ⟨_, rfl, .inl rfl, rfl⟩
        · have hq1 : ¬ q < 0 := by omega
          go_wp2
          go_round
          case rel => exact ⟨k + 1, _, by omega, by go_num, rfl, by omega, by have := rsum_take He.out; omega, Lib.hid (fun j y hj hy => by
              rcases Nat.lt_or_ge j k with h2 | h2
              · exact Hg.out j y h2 hy
              · have : j = k := by omega
                subst this; rw [He.out] at hy; injection hy with hy; subst hy
                exact ⟨by omega, fun e he => by have := q2 e he; omega⟩)⟩
          case measure => simp [intOf]; omega
      · go_wp2
        go_ret
        have hkn : k = n := by omega
        subst hkn
        have hL : L.take k = L := List.take_of_length_le (by rw [Hlen.out]; omega)
        rw [hL] at r1
        refine ⟨_, rfl, .inr ⟨r0, by rw [Hlen.out]; omega, fun e he => ?_⟩, rfl⟩
        obtain ⟨j, hj, rfl⟩ := List.mem_iff_getElem.1 he
        exact Hg.out j _ (by have := Hlen.out; omega) (List.getElem?_eq_getElem hj)
set_option maxHeartbeats 400000 in
theorem laws_eqStringSS (A A' : Option Addr) (n m c c' : Nat) (rs rs' : List R3) (L : List (List ByteArray)) (w : World) (hmax : n ≤ 1048576) (hr : ∀ r ∈ rs, r.n ≤ 1048576) (h : SS w w.heap.size A n rs L) (h' : SS w w.heap.size A' m rs' L) :
    Calls Try.prog 27 #[.slice A n c, .slice A' m c'] w fun e w' => e = .returned (.bool true) ∧ Below w.heap.size w w' := by
  have hnm : n = m := by rw [← h.lenL, h'.lenL]
  subst hnm
  have HR := Lib.hid hr
  clear hr
  go_enter Try.func27, Try.ntmps27
  go_wp2
  go_loopw [5] (fun i wr => ∃ k : Nat, k ≤ n ∧ i = .int .i64 k ∧ Below w.heap.size w wr) (fun i _ => n - (intOf i).toNat)
  case atStart => exact ⟨0, by omega, rfl, Below.refl _ _⟩
  case round =>
    obtain ⟨k, hk, rfl, hbel⟩ := hrel
    by_cases hlt : k < n
    · obtain ⟨x, l, hx, hl, hS⟩ := h.get hlt
      obtain ⟨y, l', hy, hl', hS'⟩ := h'.get hlt
      rw [hl] at hl'
      injection hl' with hl'
      subst hl'
      obtain ⟨b, off, rfl, hb, H⟩ := h.top.at_ (by omega)
      obtain ⟨b', off', rfl, hb', H'⟩ := h'.top.at_ (by omega)
      have c0 : ∀ d os, _ := fun d os => cell_regrown ((H.below hbel hb).r1 hx) d os
      have d0 : ∀ d os, _ := fun d os => cell_regrown ((H'.below hbel hb').r1 hy) d os
      have hxn := HR.out x (List.mem_of_getElem? hx)
      have HS := Lib.hid (hS.on hbel)
      have HS' := Lib.hid (hS'.on hbel)
      have hk0 : (0 : Int) ≤ (k : Int) := by omega
      have hkn : (k : Int) < (n : Int) := by omega
      clear hx hl hy hS hS'
      go_wp2
      refine wp_region_quiet_below (by kernel_rfl) (by kernel_rfl) ?_
      repeat (go_big_quiet_step (exact Calls.regrown_of (laws_eqStringS x.A y.A x.n y.n x.c y.c l _ hxn (HS.out.on (below_regrown _ _ _)) (HS'.out.on (below_regrown _ _ _)))))
      refine wpQuiet_nil ?_
      intro wq hwq
      have hbq := below_then hbel (below_of_class hwq)
      clear hwq c0 d0
      go_wp2
      go_roundw
      case rel => exact ⟨k + 1, by omega, by go_num, hbq⟩
      case measure => simp [intOf]; omega
    · go_wp2
      go_ret
      exact ⟨rfl, hbel⟩

end Go.Proofs.Ytgbblcbpmpokdaa

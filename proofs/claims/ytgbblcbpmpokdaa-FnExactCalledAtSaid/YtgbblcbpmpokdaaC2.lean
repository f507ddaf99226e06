/- Walks over functions of this seat, by contract. Conditions: those that each theorem states. -/
import Derived.Test.YtgbblcbpmpokdaaC1
import Derived.Test.YtgbblcbpmpokdaaTi
namespace Go.Proofs.Ytgbblcbpmpokdaa
open Go.RowKit Go.Sort

def scell (s : ByteArray) : List Value := [.string s]
theorem scell_len (s : ByteArray) : (scell s).length = 1 := rfl
theorem scell_one (e : ByteArray) (u : Value) (hu : u ∈ scell e) : u.oneCell' = true := by
  simp [scell] at hu; subst hu; rfl
theorem Has.s1 {w : World} {b off k : Nat} {xs : List ByteArray} {x : ByteArray} (h : Has w b off 1 scell xs) (hx : xs[k]? = some x) : w.cell? ⟨b, off + k, none⟩ = some (.string x) := by
  have := h k x hx 0 _ rfl
  simpa using this
def sEq (s t : ByteArray) : Bool := s.toList == t.toList
def hasS (xs : List ByteArray) (s : ByteArray) : Bool := xs.any (fun x => sEq x s)
theorem hasS_yes {xs : List ByteArray} {s : ByteArray} {k : Nat} {x : ByteArray} (h : xs[k]? = some x) (e : sEq x s = true) : hasS xs s = true := by
  rw [hasS, List.any_eq_true]; exact ⟨x, List.mem_of_getElem? h, e⟩
theorem hasS_no {xs : List ByteArray} {s : ByteArray} (h : ∀ (k : Nat) x, xs[k]? = some x → sEq x s = false) : hasS xs s = false := by
  rw [hasS, List.any_eq_false]
  intro y hy
  obtain ⟨k, hk, rfl⟩ := List.mem_iff_getElem.1 hy
  simp [h k _ (List.getElem?_eq_getElem hk)]
theorem Has.s1c {w w1 : World} {b off k : Nat} {xs : List ByteArray} {x : ByteArray} (h : Has w b off 1 scell xs) (hb : b < w1.heap.size) (hw : w = w1) (hx : xs[k]? = some x) : ∀ d os, (grow (redrawn w1 d) os).cell? ⟨b, off + k, none⟩ = some (.string x) := by
  subst hw
  exact fun d os => cell_regrown (h.s1 hx) d os
theorem info_str : (Try.prog.info? 9).map (fun i => (i.zero, i.size, i.bytes)) = some (some (.string ⟨#[]⟩), 1, 16) := by kernel_rfl
theorem laws_markText_i (K : Int) (h0 : 1 ≤ K) (h1 : K ≤ 1099511627776) (w : World) :
    Calls Try.prog 59 #[.int .i64 K] w fun e w' => e = .returned (.string (mtext K.toNat)) ∧ Below w.heap.size w w' := by
  obtain ⟨k, rfl⟩ : ∃ k : Nat, K = (k : Int) := ⟨K.toNat, by omega⟩
  exact laws_markText k (by omega) (by omega) w
def smarks (k0 : Int) (n : Nat) : List Value := (List.range n).map fun j : Nat => .string (mtext (k0 + (j : Int)).toNat)
theorem smarks_len (k0 : Int) (n : Nat) : (smarks k0 n).length = n := by simp [smarks]
theorem smarks_succ (k0 : Int) (n : Nat) : smarks k0 (n + 1) = smarks k0 n ++ [.string (mtext (k0 + (n : Int)).toNat)] := by simp [smarks, List.range_succ]
theorem smarks_get (k0 : Int) (n i : Nat) (h : i < n) : (smarks k0 n)[i]? = some (.string (mtext (k0 + (i : Int)).toNat)) := by simp [smarks, List.getElem?_map, List.getElem?_range h]
def SzS (xs : List ByteArray) (left : Int) (r : Int) : Prop := r = -1 ∨ (0 ≤ r ∧ r + xs.length ≤ left ∧ ∀ e ∈ xs, (e.size : Int) ≤ left)
set_option maxHeartbeats 400000 in
theorem impl_hasName (A : Option Addr) (n c : Nat) (xs : List ByteArray) (x : ByteArray) (w : World) (hmax : n ≤ 1048576) (h : Sl w w.heap.size 1 scell A n xs) :
    Calls Try.prog 57 #[.slice A n c, .string x] w fun e w' => e = .returned (.bool (hasS xs x)) ∧ Below w.heap.size w w' := by
  have Hn := Lib.hid h.len
  go_enter Try.func57, Try.ntmps57
  go_wp2
  go_loopw [9] (fun i wr => ∃ k : Nat, k ≤ n ∧ i = .int .i64 k ∧ Hid (∀ (j : Nat) y, j < k → xs[j]? = some y → sEq y x = false) ∧ Below w.heap.size w wr) (fun i _ => n - (intOf i).toNat)
  case atStart => exact ⟨0, by omega, rfl, Lib.hid (fun j y hj => by omega), Below.refl _ _⟩
  case round =>
    obtain ⟨k, hk, rfl, Hgood, hbel⟩ := hrel
    by_cases hlt : k < n
    · obtain ⟨b, off, rfl, hb, H⟩ := h.at_ (by omega)
      obtain ⟨e, he⟩ := h.get hlt
      have c0 := (H.below hbel hb).s1 he
      have He := Lib.hid he
      clear he
      rcases Bool.eq_false_or_eq_true (sEq e x) with hq | hq
      · have hq' : e.toList = x.toList := by simpa [sEq] using hq
        go_wp2
        go_ret
        exact ⟨ret_bool (hasS_yes He.out hq).symm, hbel⟩
      · have hq' : ¬ e.toList = x.toList := by simpa [sEq] using hq
        have hq2 : (e.toList == x.toList) = false := hq
        go_wp2
        go_roundw
        case rel => exact ⟨k + 1, by omega, by go_num, Lib.hid (fun j y hj hy => by
            rcases Nat.lt_or_ge j k with h1 | h1
            · exact Hgood.out j y h1 hy
            · have : j = k := by omega
              subst this; rw [He.out] at hy; injection hy with hy; subst hy; exact hq), hbel⟩
        case measure => simp [intOf]; omega
    · go_wp2
      go_ret
      exact ⟨ret_bool (hasS_no fun j y hy => Hgood.out j y (by have := (List.getElem?_eq_some_iff.1 hy).1; have := Hn.out; omega) hy).symm, hbel⟩
set_option maxHeartbeats 400000 in
theorem laws_szStringS (A : Option Addr) (n c : Nat) (es : List ByteArray) (left : Int) (w : World) (h0 : 0 ≤ left) (h1 : left ≤ 1048576) (hn : n ≤ 9223372036854775807) (hz : ∀ e ∈ es, e.size ≤ 9223372036854775807) (h : Sl w w.heap.size 1 scell A n es) :
    Calls Try.prog 51 #[.slice A n c, .int .i64 left] w fun e w' => ∃ r, e = .returned (.int .i64 r) ∧ SzS es left r ∧ w = w' := by
  have Hlen := Lib.hid h.len
  have HZ := Lib.hid hz
  clear hz
  by_cases hlt : left < n
  · go_enter Try.func51, Try.ntmps51
    go_wp2
    go_ret
    exact ⟨_, rfl, .inl rfl, rfl⟩
  · go_enter Try.func51, Try.ntmps51
    go_wp2
    go_loop [1, 5] (fun lf i => ∃ (k : Nat) (r : Int), k ≤ n ∧ i = .int .i64 k ∧ lf = .int .i64 r ∧ 0 ≤ r ∧ r ≤ left - n ∧ Hid (∀ (j : Nat) e, j < k → es[j]? = some e → (e.size : Int) ≤ left)) (fun _ i => n - (intOf i).toNat)
    case atStart => exact ⟨0, _, by omega, rfl, rfl, by omega, by omega, Lib.hid (fun j e hj => by omega)⟩
    case round =>
      obtain ⟨k, r, hk, rfl, rfl, r0, r1, Hg⟩ := hrel
      by_cases hk2 : k < n
      · obtain ⟨b, off, rfl, hb, H⟩ := h.at_ (by omega)
        obtain ⟨e, he⟩ := h.get hk2
        have c0 := H.s1 he
        have hsz := HZ.out e (List.mem_of_getElem? he)
        have He := Lib.hid he
        clear he
        by_cases hq : r < e.size
        · have hq1 : r - (e.size : Int) < 0 := by omega
          have hw1 : IntKind.i64.wrap (r - (e.size : Int)) = r - (e.size : Int) := by rw [IntKind.wrap_i64]; omega
          go_wp2
          go_ret
          exact ⟨_, rfl, .inl rfl, rfl⟩
        · have hq1 : ¬ r - (e.size : Int) < 0 := by omega
          have hw1 : IntKind.i64.wrap (r - (e.size : Int)) = r - (e.size : Int) := by rw [IntKind.wrap_i64]; omega
          go_wp2
          go_round
          case rel => exact ⟨k + 1, _, by omega, by go_num, rfl, by omega, by omega, Lib.hid (fun j x hj hx => by
              rcases Nat.lt_or_ge j k with h2 | h2
              · exact Hg.out j x h2 hx
              · have : j = k := by omega
                subst this; rw [He.out] at hx; injection hx with hx; subst hx; omega)⟩
          case measure => simp [intOf]; omega
      · go_wp2
        go_ret
        refine ⟨_, rfl, .inr ⟨r0, by rw [Hlen.out]; omega, fun e he => ?_⟩, rfl⟩
        obtain ⟨j, hj, rfl⟩ := List.mem_iff_getElem.1 he
        exact Hg.out j _ (by have := Hlen.out; omega) (List.getElem?_eq_getElem hj)
theorem laws_toStringS (A : Option Addr) (n c : Nat) (es : List ByteArray) (w : World) (hmax : n ≤ 1048576) (h : Sl w w.heap.size 1 scell A n es) :
    Calls Try.prog 54 #[.slice A n c] w fun e w' => ∃ v, e = .returned v ∧ Own w' w.heap.size 9 1 scell v es ∧ Below w.heap.size w w' := by
  obtain ⟨i0, hi, hz0, hz1, hz2⟩ := info_parts info_str
  have hmk := make_all Try.underlying45 hi hz0 n (by rw [hz2]; omega) (by omega)
  rw [hz1, Nat.mul_one] at hmk
  clear hi hz0 hz1 hz2
  have Hlen := Lib.hid h.len
  go_enter Try.func54, Try.ntmps54
  go_wp2
  clear hmk
  go_loopw [4] (fun i wr => ∃ k : Nat, k ≤ n ∧ i = .int .i64 k ∧ Row wr w.heap.size 9 n ((es.take k).flatMap scell) ∧ Below w.heap.size w wr) (fun i _ => n - (intOf i).toNat)
  case atStart => exact ⟨0, by omega, rfl, by simpa using Row.new w _ _ _, below_al (Below.refl _ _) _⟩
  case round =>
    obtain ⟨k, hk, rfl, hrow, hbel⟩ := hrel
    by_cases hlt : k < n
    · obtain ⟨b, off, rfl, hb, H⟩ := h.at_ (by omega)
      obtain ⟨e, he⟩ := h.get hlt
      have c0 := (H.below hbel hb).s1 he
      have He := Lib.hid he
      clear he
      obtain ⟨v0, x0⟩ := hrow.cell (i := k) (by omega)
      have f0 := hrow.frozen k
      go_wp2
      go_roundw
      case rel => exact ⟨k + 1, by omega, by go_num, by rw [take_flat He.out]; exact hrow.push1 (by rw [take_flat_len scell_len (by have := Hlen.out; omega), Nat.mul_one]) _ (by omega), below_st hbel _ (Nat.le_refl _) _⟩
      case measure => simp [intOf]; omega
    · go_wp2
      go_ret
      have hkn : k = n := by omega
      subst hkn
      have hlen : es.length = k := Hlen.out
      subst hlen
      rw [List.take_length] at hrow
      exact ⟨_, rfl, Row.own (by rw [Nat.mul_one]; exact hrow) scell_len (Nat.le_refl _) (by unfold maxLen; omega), hbel⟩
set_option maxHeartbeats 400000 in
theorem laws_eqStringS (A A' : Option Addr) (n m c c' : Nat) (es : List ByteArray) (w : World) (hmax : n ≤ 1048576) (h : Sl w w.heap.size 1 scell A n es) (h' : Sl w w.heap.size 1 scell A' m es) :
    Calls Try.prog 26 #[.slice A n c, .slice A' m c'] w fun e w' => e = .returned (.bool true) ∧ Below w.heap.size w w' := by
  have hnm : n = m := by rw [← h.len, h'.len]
  subst hnm
  go_enter Try.func26, Try.ntmps26
  go_wp2
  go_loopw [5] (fun i wr => ∃ k : Nat, k ≤ n ∧ i = .int .i64 k ∧ Below w.heap.size w wr) (fun i _ => n - (intOf i).toNat)
  case atStart => exact ⟨0, by omega, rfl, Below.refl _ _⟩
  case round =>
    obtain ⟨k, hk, rfl, hbel⟩ := hrel
    by_cases hlt : k < n
    · obtain ⟨b, off, rfl, hb, H⟩ := h.at_ (by omega)
      obtain ⟨p, hp⟩ := h.get hlt
      obtain ⟨b', off', rfl, hb', H'⟩ := h'.at_ (by omega)
      have c0 : ∀ d os, _ := fun d os => cell_regrown ((H.below hbel hb).s1 hp) d os
      have d0 : ∀ d os, _ := fun d os => cell_regrown ((H'.below hbel hb').s1 hp) d os
      clear hp
      go_wp2
      refine wp_region_quiet_below (by kernel_rfl) (by kernel_rfl) ?_
      repeat (go_big_quiet_step (fail))
      refine wpQuiet_nil ?_
      intro wq hwq
      have hbq := below_then hbel (below_of_class hwq)
      clear hwq c0 d0
      go_wp2
      go_roundw
      case rel => exact ⟨k + 1, by omega, by go_num, hbq⟩
      case measure => simp [intOf]; omega
    · go_wp2
      go_ret
      exact ⟨rfl, hbel⟩

end Go.Proofs.Ytgbblcbpmpokdaa

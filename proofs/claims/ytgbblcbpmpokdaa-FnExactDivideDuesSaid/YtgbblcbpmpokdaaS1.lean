/- Walks over functions of this seat, by contract. Conditions: those that each theorem states. -/
import Derived.Test.YtgbblcbpmpokdaaLib
import Derived.Test.YtgbblcbpmpokdaaShelf
import Derived.Test.YtgbblcbpmpokdaaSym
import Derived.Deep.RegionHeld
namespace Go.Proofs.Ytgbblcbpmpokdaa
open Go.RowKit Go.Sort

open Go.Shelf Go.Sort in
/-- a function's own box of two cells -/
structure Bx2 (B : Nat) (x y : Value) (W : World) : Prop where
  c0 : W.cell? ⟨B, 0, none⟩ = some x
  c1 : W.cell? ⟨B, 1, none⟩ = some y
  lt : B < W.heap.size
theorem Bx2.new (w : World) (x y : Value) (t : TypeId) : Bx2 w.heap.size x y (w.alloc (.cells #[x, y] t)) := ⟨by simp, by simp, by simp⟩
theorem Bx2.sw {α : Type} [Inhabited α] {enc : α → Value} {blk off : Nat} {d : Array α} {B : Nat} {x y : Value} {W W' : World} (h : Bx2 B x y W) (hne : B ≠ blk) (hs : SW enc W blk off d W') : Bx2 B x y W' := by
  obtain ⟨n, os, rfl⟩ := hs
  have hl : B < (putRow enc (Sort.ahead W n) blk off d).heap.size := by rw [size_putRow]; exact h.lt
  have hc : ∀ o, (sortWorld enc W blk off n d os).cell? ⟨B, o, none⟩ = W.cell? ⟨B, o, none⟩ := fun o => by
    unfold sortWorld
    rw [cell?_grow _ _ _ hl, cell?_putRow_other enc _ blk off d _ (Or.inl hne)]; rfl
  exact ⟨(hc 0).trans h.c0, (hc 1).trans h.c1, by unfold sortWorld; rw [size_grow]; omega⟩
theorem Bx2.drewN {B : Nat} {x y : Value} {W : World} (h : Bx2 B x y W) (q : Nat) : Bx2 B x y (W.drewN q) := ⟨h.c0, h.c1, h.lt⟩
theorem Bx2.st2 {B : Nat} {x y : Value} {W : World} (h : Bx2 B x y W) {blk : Nat} (hne : B ≠ blk) (o1 o2 : Nat) (u v : Value) : Bx2 B x y ((W.setCell ⟨blk, o1, none⟩ u).setCell ⟨blk, o2, none⟩ v) := by
  have hc : ∀ o, ((W.setCell ⟨blk, o1, none⟩ u).setCell ⟨blk, o2, none⟩ v).cell? ⟨B, o, none⟩ = W.cell? ⟨B, o, none⟩ := fun o => by
    rw [World.cell?_setCell_far _ _ _ _ (fun e => hne e.symm), World.cell?_setCell_far _ _ _ _ (fun e => hne e.symm)]
  exact ⟨(hc 0).trans h.c0, (hc 1).trans h.c1, by simpa [World.setCell] using h.lt⟩
/-- a SW behind a SW -/
theorem sw_then {α : Type} [Inhabited α] {enc : α → Value} {blk off : Nat} {d d' : Array α} {w W W' : World} (h : SW enc w blk off d W) (hblk : blk < w.heap.size) (k : SW enc W blk off d' W') (hs : d'.size = d.size) : SW enc w blk off d' W' := by
  obtain ⟨n, os, rfl⟩ := k
  exact h.on hblk n d' os hs
set_option maxHeartbeats 2000000 in
set_option maxRecDepth 100000 in
theorem swapRange {α : Type} [Inhabited α] (enc : α → Value) (lf : Fn) (la lb : Array Value) (sf : Nat) (sb : Array Value) (blk off a b n : Nat) (d : Array α) (w : World)
    (hswap : SwapSwaps Try.prog sf sb enc blk off d.size) (hH : Holds enc w blk off d) (hblk : blk < w.heap.size) (h1 : a + n ≤ b) (h2 : b + n ≤ d.size) (hsz : d.size < 4611686018427387904) :
    Calls Try.prog 140 #[.agg #[.func lf la lb, .func (.func sf) #[] sb], .int .i64 a, .int .i64 b, .int .i64 n] w fun e w' => e = .returned (.tuple #[]) ∧ ∃ d', SwR d d' a b n ∧ SW enc w blk off d' w' := by
  have hne : w.heap.size ≠ blk := by omega
  go_enter Try.func140, Try.ntmps140
  go_wp2
  go_loopw [8] (fun vi wr => ∃ (i : Nat) (dk : Array α), vi = .int .i64 i ∧ i ≤ n ∧ SwR d dk a b i ∧ SW enc w blk off dk wr ∧ Bx2 w.heap.size (.func lf la lb) (.func (.func sf) #[] sb) wr) (fun vi _ => n - (intOf vi).toNat)
  case atStart => exact ⟨0, d, rfl, by omega, SwR.zero d a b, (SW.start hH).alloc _, Bx2.new _ _ _ _⟩
  case round =>
    obtain ⟨i, dk, rfl, hi, hR, hW, hB⟩ := hrel
    by_cases hlt : i < n
    · have hds := hR.size
      have hs := hswap wr dk (hW.holds hblk hH hds) hds (a + i) (b + i) (by omega) (by omega)
      rw [show ((a + i : Nat) : Int) = (a : Int) + (i : Int) from by omega, show ((b + i : Nat) : Int) = (b : Int) + (i : Int) from by omega] at hs
      have HW := Lib.hid (hW.swap hblk (a + i) (b + i) (by omega) (by omega))
      have HR := Lib.hid (hR.succ (by omega) (by omega))
      have HB := Lib.hid (hB.st2 hne (off + (a + i)) (off + (b + i)) (enc dk[b + i]!) (enc dk[a + i]!))
      obtain ⟨c0, c1, cl⟩ := hB
      clear hR hW
      go_wp2
      go_roundw
      case rel => exact ⟨i + 1, swp dk (a + i) (b + i), by go_num, by omega, HR.out, by first | exact HW.out | simpa using HW.out, by first | exact HB.out | simpa using HB.out⟩
      case measure => simp [intOf]; omega
    · have hin : i = n := by omega
      subst hin
      go_wp2
      go_end0
      exact ⟨rfl, dk, hR, hW⟩
set_option maxHeartbeats 2000000 in
set_option maxRecDepth 100000 in
theorem rotate {α : Type} [Inhabited α] (enc : α → Value) (lf : Fn) (la lb : Array Value) (sf : Nat) (sb : Array Value) (blk off a m b : Nat) (d : Array α) (w : World)
    (hswap : SwapSwaps Try.prog sf sb enc blk off d.size) (hH : Holds enc w blk off d) (hblk : blk < w.heap.size) (h1 : a < m) (h2 : m < b) (h3 : b ≤ d.size) (hsz : d.size < 4611686018427387904) :
    Calls Try.prog 133 #[.agg #[.func lf la lb, .func (.func sf) #[] sb], .int .i64 a, .int .i64 m, .int .i64 b] w fun e w' => e = .returned (.tuple #[]) ∧ ∃ d', Rot d d' a m b ∧ SW enc w blk off d' w' := by
  have hne : w.heap.size ≠ blk := by omega
  go_enter Try.func133, Try.ntmps133
  go_wp2
  go_loopw [8, 9] (fun vi vj wr => ∃ (i j : Nat) (dk : Array α), vi = .int .i64 i ∧ vj = .int .i64 j ∧ RotI d dk a m b i j ∧ SW enc w blk off dk wr ∧ Bx2 w.heap.size (.func lf la lb) (.func (.func sf) #[] sb) wr) (fun vi vj _ => (intOf vi).toNat + (intOf vj).toNat)
  case atStart => exact ⟨m - a, b - m, d, by go_num, by go_num, RotI.start d h1 h2, (SW.start hH).alloc _, Bx2.new _ _ _ _⟩
  case round =>
    obtain ⟨i, j, dk, rfl, rfl, hR, hW, hB⟩ := hrel
    have hds := hR.size
    obtain ⟨i0, i1⟩ := hR.i1
    obtain ⟨j0, j1⟩ := hR.j1
    have hHk := hW.holds hblk hH hds
    have hbk := hW.lt hblk
    have hsk : SwapSwaps Try.prog sf sb enc blk off dk.size := by rw [hds]; exact hswap
    have HW := Lib.hid hW
    have HR := Lib.hid hR
    have HB := Lib.hid hB
    obtain ⟨c0, c1, cl⟩ := hB
    rcases Nat.lt_trichotomy i j with c | c | c
    · have hc := swapRange enc lf la lb sf sb blk off (m - i) (m + j - i) i dk wr hsk hHk hbk (by omega) (by omega) (by omega)
      rw [show (((m - i : Nat)) : Int) = (m : Int) - (i : Int) from by omega, show (((m + j - i : Nat)) : Int) = (m : Int) + (j : Int) - (i : Int) from by omega] at hc
      clear hR hW hHk hsk hswap hH
      have n1 : ¬ (j : Int) < (i : Int) := by omega
      have n2 : ((i : Int) == (j : Int)) = false := by simp; omega
      go_wp2_with (go_at_call 140; refine hc.mono ?_; rintro e w1 ⟨rfl, d1, s1, k1⟩)
      go_roundw
      case rel => exact ⟨i, j - i, d1, rfl, by go_num, HR.out.right h1 h2 h3 c s1, sw_then HW.out hblk k1 s1.size, HB.out.sw hne k1⟩
      case measure => simp [intOf]; omega
    · subst c
      have hc := swapRange enc lf la lb sf sb blk off (m - i) m i dk wr hsk hHk hbk (by omega) (by omega) (by omega)
      rw [show (((m - i : Nat)) : Int) = (m : Int) - (i : Int) from by omega] at hc
      clear hR hW hHk hsk hswap hH
      go_wp2_with (go_at_call 140; refine hc.mono ?_; rintro e w1 ⟨rfl, d1, s1, k1⟩)
      go_end0
      exact ⟨rfl, d1, HR.out.done h1 h2 h3 s1, sw_then HW.out hblk k1 s1.size⟩
    · have hc := swapRange enc lf la lb sf sb blk off (m - i) m j dk wr hsk hHk hbk (by omega) (by omega) (by omega)
      rw [show (((m - i : Nat)) : Int) = (m : Int) - (i : Int) from by omega] at hc
      clear hR hW hHk hsk hswap hH
      have n1 : (j : Int) < (i : Int) := by omega
      have n2 : ((i : Int) == (j : Int)) = false := by simp; omega
      go_wp2_with (go_at_call 140; refine hc.mono ?_; rintro e w1 ⟨rfl, d1, s1, k1⟩)
      go_roundw
      case rel => exact ⟨i - j, j, d1, by go_num, rfl, HR.out.left h1 h2 h3 c s1, sw_then HW.out hblk k1 s1.size, HB.out.sw hne k1⟩
      case measure => simp [intOf]; omega

end Go.Proofs.Ytgbblcbpmpokdaa

/- Walks over functions of this seat, by contract. Conditions: those that each theorem states. -/
import Derived.Test.YthjdodamfinhaaaTg
import Derived.Laws.IdiomStrings
namespace Go.Proofs.Ythjdodamfinhaaa
open Go.RowKit Go.Sort

def mdig (k : Nat) (out : List UInt8) : List UInt8 := if k = 0 then out else mdig (k / 10) (UInt8.ofNat (48 + k % 10) :: out)
termination_by k
decreasing_by omega
theorem bcat (a b : List UInt8) : (⟨a.toArray⟩ : ByteArray) ++ ⟨b.toArray⟩ = ⟨(a ++ b).toArray⟩ := by
  apply ByteArray.ext; simp
theorem bcat1 (x : UInt8) (b : List UInt8) : (⟨#[x]⟩ : ByteArray) ++ ⟨b.toArray⟩ = ⟨(x :: b).toArray⟩ := bcat [x] b
def mtext (k : Nat) : ByteArray := ⟨(109 :: mdig k []).toArray⟩
set_option maxHeartbeats 400000 in
theorem laws_markText (K : Nat) (hK0 : 0 < K) (hK : K ≤ 1099511627776) (w : World) :
    Calls Try.prog 63 #[.int .i64 (K : Int)] w fun e w' => e = .returned (.string (mtext K)) ∧ Below w.heap.size w w' := by
  go_enter Try.func63, Try.ntmps63
  go_wp2
  go_loopw [0, 3] (fun kk t wr => ∃ (k : Nat) (out : List UInt8), k + out.length ≤ K ∧ kk = .int .i64 (k : Int) ∧ t = .string ⟨out.toArray⟩ ∧ Hid (mdig k out = mdig K []) ∧ Below w.heap.size w wr) (fun kk _ _ => (intOf kk).toNat)
  case atStart => exact ⟨K, [], by simp, rfl, rfl, Lib.hid rfl, Below.refl _ _⟩
  case round =>
    obtain ⟨k, out, hk, rfl, rfl, Hm, hbel⟩ := hrel
    by_cases hlt : 0 < k
    · have hm1 : (0 : Int) ≤ (k : Int) % 10 := by omega
      have hm2 : (k : Int) % 10 < 10 := by omega
      have hd : 48 + k % 10 < 256 := by omega
      have kc : ∀ W : World, (convert 93 9 (.slice (some ⟨W.heap.size, 0, none⟩) 1 1)).run Try.prog (W.alloc (.cells #[.int .u8 (48 + (k : Int) % 10)] 5)) = .ok (.string ⟨#[UInt8.ofNat (48 + k % 10)]⟩) (W.alloc (.cells #[.int .u8 (48 + (k : Int) % 10)] 5)) := fun W =>
        run_convert_bytes_back (P := Try.prog) _ 93 9 5 ⟨W.heap.size, 0, none⟩ 1 [UInt8.ofNat (48 + k % 10)] Try.underlying93 Try.underlying5 Try.underlying9 (fun j hj => by
          have hj0 : j = 0 := by simpa using hj
          subst hj0
          have ha : (⟨W.heap.size, 0, none⟩ : Addr).add 0 = ⟨W.heap.size, 0, none⟩ := by simp [Addr.add]
          rw [ha, cell_of_row _ _ _ _ _ (0, 0) (heap_alloc_new W _)]
          simp
          omega)
      go_wp2_with fail
      clear kc
      go_roundw
      case rel =>
        refine ⟨k / 10, UInt8.ofNat (48 + k % 10) :: out, by simp; omega, by go_num, ?_, Lib.hid ?_, below_al hbel _⟩
        · rw [bcat1, UInt8.ofNat_add]; rfl
        · rw [← Hm.out]
          conv => rhs; rw [mdig]
          rw [if_neg (by omega)]
      case measure => simp [intOf]; omega
    · have h0 : k = 0 := by omega
      subst h0
      go_wp2
      go_ret
      refine ⟨?_, hbel⟩
      have h1 := Hm.out
      rw [mdig, if_pos rfl] at h1
      rw [bcat1, mtext, h1]
      rfl
theorem laws_szGuard (g : G3) (left : Int) (w : World) (h0 : 0 ≤ left) (h1 : left ≤ 1048576) (hs : g.s.size ≤ 9223372036854775807) :
    Calls Try.prog 21 #[.agg #[.string g.s, .int .i64 g.a, .int .i64 g.b], .int .i64 left] w fun e w' => e = .returned (.int .i64 (if left < g.s.size then -1 else left - g.s.size)) ∧ Below w.heap.size w w' := by
  by_cases h : left < g.s.size
  all_goals
    go_enter Try.func21, Try.ntmps21
    go_wp2
    go_ret
    exact ⟨ret_int (by omega), below_al (Below.refl _ _) _⟩
def SzPost (es : List G3) (left : Int) (r : Int) : Prop := r = -1 ∨ (0 ≤ r ∧ r + es.length ≤ left ∧ ∀ e ∈ es, e.s.size ≤ 1048576)
set_option maxHeartbeats 400000 in
theorem laws_szGuardS_ (A : Option Addr) (n c : Nat) (es : List G3) (left : Int) (w : World) (h0 : 0 ≤ left) (h1 : left ≤ 1048576) (hn : n ≤ 9223372036854775807) (hz : ∀ e ∈ es, e.s.size ≤ 9223372036854775807) (h : Sl w w.heap.size 3 G3.cells A n es) :
    Calls Try.prog 14 #[.slice A n c, .int .i64 left] w fun e w' => ∃ r, e = .returned (.int .i64 r) ∧ SzPost es left r ∧ Below w.heap.size w w' := by
  have Hlen := Lib.hid h.len
  have HZ := Lib.hid hz
  clear hz
  by_cases hlt : left < n
  · go_enter Try.func14, Try.ntmps14
    go_wp2
    go_ret
    exact ⟨_, rfl, .inl rfl, Below.refl _ _⟩
  · go_enter Try.func14, Try.ntmps14
    go_wp2
    go_loopw [1, 5] (fun lf i wr => ∃ (k : Nat) (r : Int), k ≤ n ∧ i = .int .i64 k ∧ lf = .int .i64 r ∧ 0 ≤ r ∧ r ≤ left - n ∧ Hid (∀ (j : Nat) e, j < k → es[j]? = some e → e.s.size ≤ 1048576) ∧ Below w.heap.size w wr) (fun _ i _ => n - (intOf i).toNat)
    case atStart => exact ⟨0, _, by omega, rfl, rfl, by omega, by omega, Lib.hid (fun j e hj => by omega), Below.refl _ _⟩
    case round =>
      obtain ⟨k, r, hk, rfl, rfl, r0, r1, Hg, hbel⟩ := hrel
      by_cases hk2 : k < n
      · obtain ⟨b, off, rfl, hb, H⟩ := h.at_ (by omega)
        obtain ⟨e, he⟩ := h.get hk2
        obtain ⟨c0, c1, c2⟩ := (H.below hbel hb).g3 he
        have hsz := HZ.out e (List.mem_of_getElem? he)
        have He := Lib.hid he
        clear he
        by_cases hq : r < e.s.size
        · go_wp2_with (go_at_call 21; refine (laws_szGuard e _ _ r0 (by omega) hsz).mono ?_; rintro ev w1 ⟨rfl, hb1⟩; rw [if_pos hq])
          go_ret
          exact ⟨_, rfl, .inl rfl, below_then hbel hb1⟩
        · go_wp2_with (go_at_call 21; refine (laws_szGuard e _ _ r0 (by omega) hsz).mono ?_; rintro ev w1 ⟨rfl, hb1⟩; rw [if_neg hq])
          go_roundw
          case rel => exact ⟨k + 1, _, by omega, by go_num, rfl, by omega, by omega, Lib.hid (fun j x hj hx => by
              rcases Nat.lt_or_ge j k with h2 | h2
              · exact Hg.out j x h2 hx
              · have : j = k := by omega
                subst this; rw [He.out] at hx; injection hx with hx; subst hx; omega), below_then hbel hb1⟩
          case measure => simp [intOf]; omega
      · go_wp2
        go_ret
        refine ⟨_, rfl, .inr ⟨r0, by rw [Hlen.out]; omega, fun e he => ?_⟩, hbel⟩
        obtain ⟨j, hj, rfl⟩ := List.mem_iff_getElem.1 he
        exact Hg.out j _ (by have := Hlen.out; omega) (List.getElem?_eq_getElem hj)
theorem laws_szGuardS (A : Option Addr) (n c : Nat) (es : List G3) (left : Int) (w : World) (h0 : 0 ≤ left) (h1 : left ≤ 1048576) (hn : n ≤ 9223372036854775807) (hz : ∀ e ∈ es, e.s.size ≤ 9223372036854775807) (h : Sl w w.heap.size 3 G3.cells A n es) :
    Calls Try.prog 14 #[.slice A n c, .int .i64 left] w fun e w' => ∃ r, e = .returned (.int .i64 r) ∧ (r = -1 ∨ (0 ≤ r ∧ r + n ≤ left ∧ ∀ e ∈ es, e.s.size ≤ 1048576)) ∧ Below w.heap.size w w' :=
  (laws_szGuardS_ A n c es left w h0 h1 hn hz h).mono fun _ _ ⟨r, h1, h2, h3⟩ => ⟨r, h1, by have := h.len; unfold SzPost at h2; rw [this] at h2; exact h2, h3⟩
theorem laws_markText_i (K : Int) (h0 : 1 ≤ K) (h1 : K ≤ 1099511627776) (w : World) :
    Calls Try.prog 63 #[.int .i64 K] w fun e w' => e = .returned (.string (mtext K.toNat)) ∧ Below w.heap.size w w' := by
  obtain ⟨k, rfl⟩ : ∃ k : Nat, K = (k : Int) := ⟨K.toNat, by omega⟩
  exact laws_markText k (by omega) (by omega) w
def gmarks (k0 : Int) : Nat → List Value
  | 0 => []
  | n + 1 => gmarks k0 n ++ [.string (mtext (k0 + ((n * 3 : Nat) : Int)).toNat), .int .i64 (k0 + ((n * 3 : Nat) : Int) + 1), .int .i64 (k0 + ((n * 3 : Nat) : Int) + 1 + 1)]
theorem gmarks_len (k0 : Int) (n : Nat) : (gmarks k0 n).length = n * 3 := by
  induction n with
  | zero => rfl
  | succ n ih => rw [gmarks, List.length_append, ih]; simp; omega
theorem gmarks_get (k0 : Int) (n i : Nat) (h : i < n) : (gmarks k0 n)[i * 3]? = some (.string (mtext (k0 + ((i * 3 : Nat) : Int)).toNat)) ∧ (gmarks k0 n)[i * 3 + 1]? = some (.int .i64 (k0 + ((i * 3 : Nat) : Int) + 1)) ∧ (gmarks k0 n)[i * 3 + 2]? = some (.int .i64 (k0 + ((i * 3 : Nat) : Int) + 1 + 1)) := by
  induction n with
  | zero => omega
  | succ n ih =>
    rw [gmarks]
    rcases Nat.lt_or_ge i n with h1 | h1
    · have hl := gmarks_len k0 n
      rw [List.getElem?_append_left (by omega), List.getElem?_append_left (by omega), List.getElem?_append_left (by omega)]
      exact ih h1
    · have : i = n := by omega
      subst this
      have hl := gmarks_len k0 i
      rw [List.getElem?_append_right (by omega), List.getElem?_append_right (by omega), List.getElem?_append_right (by omega), hl]
      have e1 : i * 3 + 1 - i * 3 = 1 := by omega
      have e2 : i * 3 + 2 - i * 3 = 2 := by omega
      rw [Nat.sub_self, e1, e2]
      exact ⟨rfl, rfl, rfl⟩
set_option maxHeartbeats 400000 in
theorem laws_markGuardS (base n : Nat) (v : Value) (xs : List Value) (k0 : Int) (w : World) (hmax : n ≤ 1048576) (h0 : 1 ≤ k0) (h1 : k0 ≤ 1000000000) (h : w.ownsRow base 35 3 v n xs) :
    Calls Try.prog 25 #[v, .int .i64 k0] w fun e w' => e = .returned (.int .i64 (k0 + (n * 3 : Nat))) ∧ w'.ownsRow base 35 3 v n (gmarks k0 n) ∧ w.grownBy w' v.ownBlock := by
  rcases Nat.eq_zero_or_pos n with hz | hpos
  · obtain ⟨A, c, rfl⟩ : ∃ A c, v = .slice A n c := by
      rcases h.2 with ⟨rfl, e0⟩ | ⟨g, cap, cur, rfl, _⟩
      · subst e0; exact ⟨_, _, rfl⟩
      · exact ⟨_, _, rfl⟩
    subst hz
    have hxs : xs = [] := List.eq_nil_of_length_eq_zero (by simpa using h.1)
    subst hxs
    go_enter Try.func25, Try.ntmps25
    go_wp2
    refine wp_loop_rounds 1 ?_
    rw [rounds_succ]
    go_wp2
    go_ret
    exact ⟨ret_int (by simp), by simpa [gmarks] using h, World.grownBy.refl w _⟩
  · obtain ⟨g, cap, rfl, hb, hc, hm, hrow⟩ := owns_block h hpos
    have hs := hrow.start
    clear h hrow
    go_enter Try.func25, Try.ntmps25
    go_wp2
    go_loopw [1, 5] (fun kk i wr => ∃ k : Nat, k ≤ n ∧ i = .int .i64 k ∧ kk = .int .i64 (k0 + (k * 3 : Nat)) ∧ Row wr g 35 (cap * 3) (gmarks k0 k) ∧ w.grownBy wr (some g)) (fun _ i _ => n - (intOf i).toNat)
    case atStart => exact ⟨0, by omega, rfl, by simp, by simpa [gmarks] using hs, World.grownBy.refl w _⟩
    case round =>
      obtain ⟨k, hk, rfl, rfl, hrow, hgr⟩ := hrel
      by_cases hlt : k < n
      · go_wp2_with (go_at_call 63; refine (laws_markText_i _ (by omega) (by omega) _).mono ?_; rintro ev w1 ⟨rfl, hb1⟩; have hrow1 := hrow.on hb1; obtain ⟨v0, x0⟩ := hrow1.cell (i := k * 3) (by omega); obtain ⟨v1, x1⟩ := hrow1.cell (i := k * 3 + 1) (by omega); obtain ⟨v2, x2⟩ := hrow1.cell (i := k * 3 + 2) (by omega); have f0 := hrow1.frozen (k * 3); have f1 := hrow1.frozen (k * 3 + 1); have f2 := hrow1.frozen (k * 3 + 2))
        go_roundw
        case rel => exact ⟨k + 1, by omega, by go_num, by go_num, by rw [gmarks]; exact hrow1.push3 (gmarks_len _ _) _ _ _ (by omega), only_st (only_st (only_st (only_below hgr hb1) _ _) _ _) _ _⟩
        case measure => simp [intOf]; omega
      · go_wp2
        go_ret
        have hkn : k = n := by omega
        subst hkn
        exact ⟨rfl, owns_of_row hrow hb hc hm (gmarks_len _ _), hgr⟩
set_option maxHeartbeats 400000 in
theorem laws_heldGuardS (base n : Nat) (v : Value) (k0 : Int) (w : World) (hmax : n ≤ 1048576) (h0 : 1 ≤ k0) (h1 : k0 ≤ 1000000000) (h : w.ownsRow base 35 3 v n (gmarks k0 n)) :
    Calls Try.prog 26 #[v, .int .i64 k0] w fun e w' => e = .returned (.int .i64 (k0 + (n * 3 : Nat))) ∧ Below w.heap.size w w' := by
  rcases Nat.eq_zero_or_pos n with hz | hpos
  · obtain ⟨A, c, rfl⟩ : ∃ A c, v = .slice A n c := by
      rcases h.2 with ⟨rfl, e0⟩ | ⟨g, cap, cur, rfl, _⟩
      · subst e0; exact ⟨_, _, rfl⟩
      · exact ⟨_, _, rfl⟩
    subst hz
    go_enter Try.func26, Try.ntmps26
    go_wp2
    refine wp_loop_rounds 1 ?_
    rw [rounds_succ]
    go_wp2
    go_ret
    exact ⟨ret_int (by simp), Below.refl _ _⟩
  · obtain ⟨g, cap, rfl, hb, hc, hm, hrow⟩ := owns_block h hpos
    clear h
    have Hrow := Lib.hid hrow
    have hgl := hrow.lt
    clear hrow
    go_enter Try.func26, Try.ntmps26
    go_wp2
    go_loopw [1, 5] (fun kk i wr => ∃ k : Nat, k ≤ n ∧ i = .int .i64 k ∧ kk = .int .i64 (k0 + (k * 3 : Nat)) ∧ Below w.heap.size w wr) (fun _ i _ => n - (intOf i).toNat)
    case atStart => exact ⟨0, by omega, rfl, by simp, Below.refl _ _⟩
    case round =>
      obtain ⟨k, hk, rfl, rfl, hbel⟩ := hrel
      by_cases hlt : k < n
      · obtain ⟨g0, g1, g2⟩ := gmarks_get k0 n k hlt
        have x0 := cell_on (Hrow.out.at_ g0) hbel hgl
        have y0 := fun d os => cell_regrown x0 d os
        have x1 := Hrow.out.at_ g1
        have x2 := Hrow.out.at_ g2
        have hk0 : (0 : Int) ≤ (k : Int) := by omega
        have hkn : (k : Int) < (n : Int) := by omega
        clear g0 g1 g2
        go_wp2_with fail
        refine wp_region_quiet_below (by kernel_rfl) (by kernel_rfl) ?_
        repeat (go_big_quiet_step (exact Calls.regrown_of (laws_markText_i _ (by omega) (by omega) _)))
        refine wpQuiet_nil ?_
        intro wq hwq
        have hbq := below_then hbel (below_of_class hwq)
        have z1 := cell_on x1 hbq hgl
        have z2 := cell_on x2 hbq hgl
        clear hwq y0 x0 x1 x2
        go_wp2
        go_roundw
        case rel => exact ⟨k + 1, by omega, by go_num, by go_num, hbq⟩
        case measure => simp [intOf]; omega
      · go_wp2
        go_ret
        have hkn : k = n := by omega
        subst hkn
        exact ⟨rfl, hbel⟩

end Go.Proofs.Ythjdodamfinhaaa

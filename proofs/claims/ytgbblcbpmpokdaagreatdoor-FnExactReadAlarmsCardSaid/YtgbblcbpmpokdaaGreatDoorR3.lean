/- Walks over functions of this seat, by contract. Conditions: those that each theorem states. -/
import Derived.Test.YtgbblcbpmpokdaaGreatDoorR2
namespace Go.Proofs.YtgbblcbpmpokdaaGreatDoor
open Go.RowKit Go.Sort

/-- what ReadDecimal gives -/
def rdF (l : List UInt8) : Option Int := match Lib.parseIntB 64 l with | .ok n => if Lib.itoa n = l ∧ (Lib.trimPrefix l [45]).length ≤ 18 then some n else none | _ => none
theorem rdF_ok {l : List UInt8} {n : Int} (h : Lib.parseIntB 64 l = .ok n) : rdF l = if Lib.itoa n = l ∧ (Lib.trimPrefix l [45]).length ≤ 18 then some n else none := by unfold rdF; rw [h]
theorem rdF_no {l : List UInt8} (h : ∀ n, Lib.parseIntB 64 l ≠ .ok n) : rdF l = none := by
  unfold rdF
  cases hp : Lib.parseIntB 64 l with
  | ok n => exact absurd hp (h n)
  | _ => rfl
theorem trim_digits {l : List UInt8} (h : ∀ x ∈ l, 48 ≤ x.toNat ∧ x.toNat ≤ 57) : Lib.trimPrefix l [45] = l := by
  unfold Lib.trimPrefix
  have : Lib.hasPrefix l [45] = false := by
    cases l with
    | nil => rfl
    | cons x r =>
      have hx := (h x (List.mem_cons.2 (.inl rfl))).1
      unfold Lib.hasPrefix
      cases hb : List.isPrefixOf [45] (x :: r) with
      | false => rfl
      | true =>
        simp [List.isPrefixOf] at hb
        subst hb
        exact absurd hx (by decide)
  rw [this]; rfl
theorem rdF_dec {u : Nat} (h : u < 1000000000000000000) : rdF (Lib.decDigits u) = some (u : Int) := by
  rw [rdF_ok (parse_dec h), if_pos ⟨Lib.itoa_nonneg u, by rw [trim_digits (dig_ne u)]; exact nDigits_le18 h⟩]
set_option maxHeartbeats 1000000 in
theorem impl_ReadDecimal (l : List UInt8) (w : World) (hl : l.length ≤ 1048576) (htab : Lib.TabIs Tryz.prog w "internal/strconv.uint64pow10" .u64 Lib.pow10Tab)
    (tp1 : TypeId) (p1 : Value) (hv1 : w.var? Tryz.prog "strconv.ErrRange" = some #[.iface tp1 p1]) (tp2 : TypeId) (p2 : Value) (hv2 : w.var? Tryz.prog "strconv.ErrSyntax" = some #[.iface tp2 p2]) :
    Calls Tryz.prog 27 #[.string (bs l)] w fun e w' => e = .returned (.tuple #[.int .i64 ((rdF l).getD 0), .bool (rdF l).isSome]) ∧ Below w.heap.size w w' := by
  have hsz : (bs l).size = l.length := bs_size l
  have hlim : (bs l).size ≤ 281474976710656 := by rw [hsz]; omega
  have hmax : (bs l).size ≤ 9223372036854775806 := by rw [hsz]; omega
  have dead : (∀ n, Lib.parseIntB 64 l ≠ .ok n) → (Calls Tryz.prog 46 #[.string (bs l), .int .i64 10, .int .i64 64] w fun e w' => ∃ x t N, e = .returned (.tuple #[.int .i64 x, .iface t (.pointer (some ⟨N, 0, none⟩))]) ∧ Below w.heap.size w w') →
      Calls Tryz.prog 27 #[.string (bs l)] w fun e w' => e = .returned (.tuple #[.int .i64 ((rdF l).getD 0), .bool (rdF l).isSome]) ∧ Below w.heap.size w w' := by
    intro hno hc
    have Hn : Hid (rdF l = none) := Lib.hid (rdF_no hno)
    have HC := Lib.hid hc
    clear hc hno
    go_enter Tryz.func27, Tryz.ntmps27
    go_wp2_with (go_at_call 46; refine (HC.out).mono ?_; rintro e w1 ⟨x, t, N, rfl, hb1⟩)
    go_ret2
    exact ⟨by rw [Hn.out]; rfl, hb1⟩
  cases hp : Lib.parseIntB 64 l with
  | ok n =>
    have hb := Lib.parseIntB_bounds hp
    have hb0 : -9223372036854775808 ≤ n := by have := hb.1; simp at this; omega
    have hb1 : n ≤ 9223372036854775807 := by have := hb.2; simp at this; omega
    have HP := Lib.hid (Tryz.strconv_ParseInt_10_at64_ok (bs l) hmax n (by rw [bs_list]; exact hp) w)
    have Hr := Lib.hid (rdF_ok hp)
    have hse := str_eq (Lib.itoa n) l
    have hls : (bs l).toList = l := bs_toList _
    clear hb hp dead
    by_cases heq : Lib.itoa n = l
    · have hst : ((bs (Lib.itoa n)).toList == (bs l).toList) = true := by rw [hse, decide_eq_true heq]
      have Hst := Lib.hid hst
      have Hq := Lib.hid heq
      have ht : ∀ W : World, Calls Tryz.prog 26 #[.string (bs l), .string ⟨#[45]⟩] W fun e w' => e = .returned (.string (bs (Lib.trimPrefix l [45]))) ∧ w' = W := fun W => Tryz.strings_TrimPrefix (bs l) ⟨#[45]⟩ W
      obtain ⟨T, hT⟩ : ∃ T, Lib.trimPrefix l [45] = T := ⟨_, rfl⟩
      rw [hT] at ht
      obtain ⟨m, hm⟩ : ∃ m, T.length = m := ⟨_, rfl⟩
      have hts : (bs T).size = m := by rw [← hm]; exact bs_size _
      have HT := Lib.hid ht
      replace hm : (Lib.trimPrefix l [45]).length = m := by rw [hT]; exact hm
      clear ht hT
      have Hm := Lib.hid hm
      clear heq hse hst hm
      by_cases h18 : 18 < m
      · have h18' : (18 : Int) < (m : Int) := by omega
        go_enter Tryz.func27, Tryz.ntmps27
        go_wp2_with (first
          | (go_at_call 46; refine (HP.out).mono ?_; rintro e w1 ⟨rfl, hw1⟩; have hbw1 : Below w.heap.size w w1 := by (rcases hw1 with rfl | ⟨t, rfl⟩; exact Below.refl _ _; exact Lib.bytesWorld_below _ _ _))
          | (go_at_call 47; refine (impl_Decimal n hb0 hb1 _ (tab_on htab hbw1)).mono ?_; rintro e w2 ⟨rfl, hb2⟩; have hst := Hst.out; try rw [hls] at hst)
          | (go_at_call 26; refine (HT.out _).mono ?_; rintro e w3 ⟨rfl, rfl⟩))
        go_ret2
        exact ⟨by rw [Hr.out, if_neg (by rw [Hm.out]; omega)]; rfl, below_then hbw1 hb2⟩
      · have h18' : (m : Int) ≤ 18 := by omega
        go_enter Tryz.func27, Tryz.ntmps27
        go_wp2_with (first
          | (go_at_call 46; refine (HP.out).mono ?_; rintro e w1 ⟨rfl, hw1⟩; have hbw1 : Below w.heap.size w w1 := by (rcases hw1 with rfl | ⟨t, rfl⟩; exact Below.refl _ _; exact Lib.bytesWorld_below _ _ _))
          | (go_at_call 47; refine (impl_Decimal n hb0 hb1 _ (tab_on htab hbw1)).mono ?_; rintro e w2 ⟨rfl, hb2⟩; have hst := Hst.out; try rw [hls] at hst)
          | (go_at_call 26; refine (HT.out _).mono ?_; rintro e w3 ⟨rfl, rfl⟩))
        go_ret2
        exact ⟨by rw [Hr.out, if_pos ⟨Hq.out, by rw [Hm.out]; omega⟩]; rfl, below_then hbw1 hb2⟩
    · have hst : ((bs (Lib.itoa n)).toList == (bs l).toList) = false := by rw [hse, decide_eq_false heq]
      have Hst := Lib.hid hst
      have Hq := Lib.hid heq
      clear heq hse hst
      go_enter Tryz.func27, Tryz.ntmps27
      go_wp2_with (first
        | (go_at_call 46; refine (HP.out).mono ?_; rintro e w1 ⟨rfl, hw1⟩; have hbw1 : Below w.heap.size w w1 := by (rcases hw1 with rfl | ⟨t, rfl⟩; exact Below.refl _ _; exact Lib.bytesWorld_below _ _ _))
        | (go_at_call 47; refine (impl_Decimal n hb0 hb1 _ (tab_on htab hbw1)).mono ?_; rintro e w2 ⟨rfl, hb2⟩; have hst := Hst.out; try rw [hls] at hst))
      go_ret2
      exact ⟨by rw [Hr.out, if_neg (fun h => Hq.out h.1)]; rfl, below_then hbw1 hb2⟩
  | _ =>
    refine dead (fun n h => by rw [hp] at h; cases h) ?_
    first
      | exact (Any.strconv_ParseInt_10_at64_syntax_var Tryz.laysC174 (bs l) hlim (by rw [bs_list]; exact hp) tp2 p2 w hv2).mono fun _ _ ⟨N, he, _, _, hb⟩ => ⟨_, _, N, he, hb⟩
      | exact (Any.strconv_ParseInt_10_at64_range_var Tryz.laysC174 (bs l) hlim (by rw [bs_list]; exact hp) tp1 p1 w hv1).mono fun _ _ ⟨N, he, _, _, hb⟩ => ⟨_, _, N, he, hb⟩

end Go.Proofs.YtgbblcbpmpokdaaGreatDoor

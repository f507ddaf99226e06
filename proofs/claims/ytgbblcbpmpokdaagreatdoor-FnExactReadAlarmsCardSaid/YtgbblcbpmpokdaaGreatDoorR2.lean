/- Walks over functions of this seat, by contract. Conditions: those that each theorem states. -/
import Derived.Test.YtgbblcbpmpokdaaGreatDoorD2
import Derived.Test.YtgbblcbpmpokdaaGreatDoorR1
namespace Go.Proofs.YtgbblcbpmpokdaaGreatDoor
open Go.RowKit Go.Sort

theorem spec_l01Digit (x : Int) (w : World) : Calls Tryz.prog 15 #[.int .u8 x] w fun e w' => e = .returned (.bool (inR x 48 57)) ∧ w = w' := by
  go_enter Tryz.func15, Tryz.ntmps15
  go_wp2
  all_goals (go_ret; exact ⟨ret_bool (by simp_all [inR] <;> omega), rfl⟩)
def scl (s : ByteArray) : List Value := [.string s]
theorem scl_len (s : ByteArray) : (scl s).length = 1 := rfl
theorem scl_one (e : ByteArray) (u : Value) (hu : u ∈ scl e) : u.oneCell' = true := by
  simp [scl] at hu; subst hu; rfl
theorem Has.sc {w : World} {b off k : Nat} {xs : List ByteArray} {x : ByteArray} (h : Has w b off 1 scl xs) (hx : xs[k]? = some x) : w.cell? ⟨b, off + k, none⟩ = some (.string x) := by
  have := h k x hx 0 _ rfl
  simpa using this
theorem info_str : (Tryz.prog.info? 9).map (fun i => (i.zero, i.size, i.bytes)) = some (some (.string ⟨#[]⟩), 1, 16) := by kernel_rfl
theorem bs_toList (l : List UInt8) : (bs l).toList = l := by rw [ByteArray.toList_eq]; rfl
theorem str_eq (a b : List UInt8) : ((bs a).toList == (bs b).toList) = decide (a = b) := by rw [bs_toList, bs_toList, Bool.eq_iff_iff]; simp
theorem bs_get (l : List UInt8) (k : Nat) (h : k < (bs l).size) : (bs l)[k]'h = l[k]'(by rw [bs_size] at h; exact h) := rfl
set_option maxHeartbeats 1000000 in
set_option maxRecDepth 100000 in
theorem spec_l01Split (l : List UInt8) (c : UInt8) (cn : Int) (hc : (c.toNat : Int) = cn) (w : World) (hl : l.length ≤ 1048576) :
    Calls Tryz.prog 9 #[.string (bs l), .int .u8 cn] w fun e w' => ∃ v, e = .returned v ∧ Own w' w.heap.size 9 1 scl v ((spl c l).map bs) ∧ Below w.heap.size w w' := by
  obtain ⟨i0, hi, hz0, hz1, hz2⟩ := info_parts info_str
  have hsz : (bs l).size = l.length := bs_size l
  have Hc := Lib.hid hc
  clear hc
  go_enter Tryz.func9, Tryz.ntmps9
  go_wp2
  go_loopw [5, 6, 7] (fun v fr i wr => ∃ (k f : Nat) (out : List (List UInt8)), k ≤ l.length ∧ f ≤ k ∧ i = .int .i64 k ∧ fr = .int .i64 f ∧ out.length ≤ k ∧ Hid (SplAt c l out f k) ∧ Hid (Own wr w.heap.size 9 1 scl v (out.map bs)) ∧ Below w.heap.size w wr) (fun _ _ i _ => l.length - (intOf i).toNat)
  case atStart => exact ⟨0, 0, [], by omega, by omega, rfl, rfl, by simp, Lib.hid (SplAt.zero c l), Lib.hid (own_new_empty _ _ _ _ _ (Nat.le_refl _)), below_al (Below.refl _ _) _⟩
  case round =>
    obtain ⟨k, f, out, hk, hf, rfl, rfl, hol, HS, HO, hbel⟩ := hrel
    have HL : Hid ((out.map bs).length ≤ 1048576) := Lib.hid (by rw [List.length_map]; omega)
    by_cases hlt : k < l.length
    · obtain ⟨x, hx⟩ : ∃ x, l[k]? = some x := ⟨_, List.getElem?_eq_getElem hlt⟩
      have hgx : (bs l)[k]'(by rw [bs_size]; exact hlt) = x := by rw [bs_get]; exact (List.getElem?_eq_some_iff.1 hx).2
      have Hx := Lib.hid hx
      clear hx
      by_cases hxc : x = c
      · have Hxc := Lib.hid hxc
        have hb : ((x.toNat : Int) == cn) = true := by rw [hxc, ← Hc.out]; simp
        have hex : (bs l).extract f k = bs ((l.drop f).take (k - f)) := extract_bs l f k
        obtain ⟨y, hy⟩ : ∃ y, y = bs ((l.drop f).take (k - f)) := ⟨_, rfl⟩
        rw [← hy] at hex
        have Hy := Lib.hid hy
        have hf0 : (0 : Int) ≤ (f : Int) := by omega
        have hfk : (f : Int) ≤ (k : Int) := by omega
        have hkl : (k : Int) ≤ (l.length : Int) := by omega
        clear hxc hy
        go_wp2_with (at_builtin; refine wpList_push rfl _ _ 28 rfl w.heap.size 9 i0 (.string ⟨#[]⟩) 1 16 Tryz.underlying28 hi hz0 hz1 hz2 rfl (by omega) scl_len scl_one _ _ y rfl HO.out _ rfl _ rfl (by first | rfl | simp) (by have hz := HL.out; omega) (by omega) hbel.size ?_; intro v3 w3 ho3 hg3; have hbel3 := own_grown hbel HO.out (Nat.le_refl _) hbel.size hg3; have HO3 := Lib.hid ho3; clear ho3 hg3)
        go_roundw
        case rel => exact ⟨k + 1, k + 1, out ++ [(l.drop f).take (k - f)], by omega, by omega, by go_num, by go_num, by rw [List.length_append, List.length_singleton]; omega, Lib.hid (HS.out.cut (by rw [Hx.out, Hxc.out])), Lib.hid (by have h1 := HO3.out; rw [Hy.out] at h1; rw [List.map_append]; exact h1), hbel3⟩
        case measure => simp [intOf]; omega
      · have Hxc := Lib.hid hxc
        have hb : ((x.toNat : Int) == cn) = false := by
          rw [← Hc.out, beq_eq_false_iff_ne]; intro h
          exact hxc (UInt8.toNat_inj.1 (by omega))
        clear hxc
        go_wp2_with fail
        go_roundw
        case rel => exact ⟨k + 1, f, out, by omega, by omega, by go_num, rfl, by omega, Lib.hid (HS.out.skip Hx.out Hxc.out), HO, hbel⟩
        case measure => simp [intOf]; omega
    · have hkl : k = l.length := by omega
      subst hkl
      have hex : (bs l).extract f l.length = bs (l.drop f) := by rw [extract_bs, List.take_of_length_le (by rw [List.length_drop]; exact Nat.le_refl _)]
      obtain ⟨y, hy⟩ : ∃ y, y = bs (l.drop f) := ⟨_, rfl⟩
      rw [← hy] at hex
      have Hy := Lib.hid hy
      have hf0 : (0 : Int) ≤ (f : Int) := by omega
      have hfk : (f : Int) ≤ (l.length : Int) := by omega
      clear hy
      go_wp2_with (at_builtin; refine wpList_push rfl _ _ 28 rfl w.heap.size 9 i0 (.string ⟨#[]⟩) 1 16 Tryz.underlying28 hi hz0 hz1 hz2 rfl (by omega) scl_len scl_one _ _ y rfl HO.out _ rfl _ rfl (by first | rfl | simp) (by have hz := HL.out; omega) (by omega) hbel.size ?_; intro v3 w3 ho3 hg3; have hbel3 := own_grown hbel HO.out (Nat.le_refl _) hbel.size hg3; have HO3 := Lib.hid ho3; clear ho3 hg3)
      go_ret
      exact ⟨_, rfl, by have h1 := HO3.out; rw [Hy.out] at h1; rw [HS.out.end_, List.map_append]; exact h1, hbel3⟩
/-- what stands behind a minus -/
def tl (l : List UInt8) : List UInt8 := if l.head? = some 45 then l.tail else l
def nmV (l : List UInt8) (u : Nat) : Int := if l.head? = some 45 then -(u : Int) else (u : Int)
def nmF (l : List UInt8) : Option Int :=
  if (tl l).length < 1 ∨ 18 < (tl l).length then none else match Lib.decFrom 0 (tl l) with | none => none | some u => if Lib.itoa (nmV l u) = l then some (nmV l u) else none
theorem nmF_short {l : List UInt8} (h : (tl l).length < 1 ∨ 18 < (tl l).length) : nmF l = none := if_pos h
theorem nmF_bad {l : List UInt8} (h : Lib.decFrom 0 (tl l) = none) : nmF l = none := by
  unfold nmF; split; rfl; rw [h]
theorem nmF_val {l : List UInt8} {u : Nat} (h0 : ¬ ((tl l).length < 1 ∨ 18 < (tl l).length)) (h : Lib.decFrom 0 (tl l) = some u) : nmF l = if Lib.itoa (nmV l u) = l then some (nmV l u) else none := by
  unfold nmF; rw [if_neg h0, h]
theorem nmF_sound {l : List UInt8} {n : Int} (h : nmF l = some n) : Lib.itoa n = l := by
  unfold nmF at h
  split at h
  · cases h
  · split at h
    · cases h
    · split at h
      · rename_i h2; injection h with h; rw [← h]; exact h2
      · cases h
theorem nmF_dec {u : Nat} (h : u < 1000000000000000000) : nmF (Lib.decDigits u) = some (u : Int) := by
  have hh : (Lib.decDigits u).head? ≠ some 45 := by
    intro hx
    have hm := dig_ne u 45 (List.mem_of_mem_head? (by rw [hx]; rfl))
    exact absurd hm.1 (by decide)
  have ht : tl (Lib.decDigits u) = Lib.decDigits u := if_neg hh
  have hv : nmV (Lib.decDigits u) u = (u : Int) := if_neg hh
  have hl := nDigits_le18 h
  have hp : 0 < (Lib.decDigits u).length := List.length_pos_iff.2 (decDigits_ne u)
  rw [nmF_val (by rw [ht]; omega) (by rw [ht]; exact decFrom_dec u), hv, if_pos (Lib.itoa_nonneg u)]
theorem decFrom_stop {t : List UInt8} {k : Nat} {x : UInt8} {acc : Nat} (h : Lib.decFrom 0 (t.take k) = some acc) (hx : t[k]? = some x) (hd : Lib.digitVal x = none) : Lib.decFrom 0 t = none := by
  obtain ⟨hk, he⟩ := List.getElem?_eq_some_iff.1 hx
  have hs : t = t.take k ++ x :: t.drop (k + 1) := by rw [← he, ← List.drop_eq_getElem_cons hk, List.take_append_drop]
  rw [hs, decFrom_app _ _ 0 acc h, Lib.decFrom, hd]
theorem decFrom_lt : ∀ (t : List UInt8) (acc m k : Nat), acc < 10 ^ k → Lib.decFrom acc t = some m → m < 10 ^ (k + t.length)
  | [], acc, m, k, ha, h => by simp [Lib.decFrom] at h; subst h; simpa using ha
  | x :: t, acc, m, k, ha, h => by
    rw [Lib.decFrom] at h
    cases hd : Lib.digitVal x with
    | none => rw [hd] at h; cases h
    | some d =>
      rw [hd] at h
      have hd9 : d ≤ 9 := by
        unfold Lib.digitVal at hd
        split at hd
        · injection hd with hd; omega
        · cases hd
      have := decFrom_lt t (acc * 10 + d) m (k + 1) (by rw [Nat.pow_succ]; omega) h
      rw [List.length_cons, show k + (t.length + 1) = k + 1 + t.length by omega]; exact this
theorem dig_of {x : UInt8} (h : inR (x.toNat : Int) 48 57 = true) : Lib.digitVal x = some (x.toNat - 48) := by
  have := inR_iff.1 h
  unfold Lib.digitVal; rw [if_pos (by omega)]
theorem dig_not {x : UInt8} (h : inR (x.toNat : Int) 48 57 = false) : Lib.digitVal x = none := by
  have := inR_not.1 h
  unfold Lib.digitVal; rw [if_neg (by omega)]

set_option maxHeartbeats 2000000 in
set_option maxRecDepth 100000 in
theorem spec_l01Number (l : List UInt8) (w : World) (hl : l.length ≤ 1048576) :
    Calls Tryz.prog 16 #[.string (bs l)] w fun e w' => e = .returned (.tuple #[.int .i64 ((nmF l).getD 0), .bool (nmF l).isSome]) ∧ Below w.heap.size w w' := by
  rcases l with _ | ⟨x0, r0⟩
  · have Hn : Hid (nmF [] = none) := Lib.hid rfl
    have hsz : (bs []).size = 0 := rfl
    have hls : (bs []).toList = [] := bs_toList _
    go_enter Tryz.func16, Tryz.ntmps16
    go_wp2_with fail
    go_ret2
    exact ⟨by rw [Hn.out]; rfl, Below.refl _ _⟩
  by_cases h45 : x0 = 45
  · subst h45
    obtain ⟨r, hr⟩ : ∃ r, r = r0 := ⟨_, rfl⟩
    subst hr
    have htl : tl (45 :: r) = r := rfl
    have hnv : ∀ u : Nat, nmV (45 :: r) u = -(u : Int) := fun _ => rfl
    have hsz : (bs (45 :: r)).size = r.length + 1 := by rw [bs_size]; rfl
    have hszr : (bs r).size = r.length := bs_size r
    have hex : (bs (45 :: r)).extract 1 (r.length + 1) = bs r := by rw [extract_bs]; simp
    have hls : (bs (45 :: r)).toList = 45 :: r := bs_toList _
    have hg0 : (bs (45 :: r))[0]'(by rw [bs_size]; simp) = 45 := rfl
    have hg0' : ((45 : UInt8).toNat : Int) = 45 := rfl
    have hr0 : (1 : Int) ≤ (r.length : Int) + 1 := by omega
    by_cases h1 : r.length < 1
    · have Hn : Hid (nmF (45 :: r) = none) := Lib.hid (nmF_short (by rw [htl]; exact .inl h1))
      have h1' : (r.length : Int) < 1 := by omega
      clear hnv htl
      go_enter Tryz.func16, Tryz.ntmps16
      go_wp2_with fail
      go_ret2
      exact ⟨by rw [Hn.out]; rfl, Below.refl _ _⟩
    by_cases h18 : 18 < r.length
    · have Hn : Hid (nmF (45 :: r) = none) := Lib.hid (nmF_short (by rw [htl]; exact .inr h18))
      have h1' : ¬ (r.length : Int) < 1 := by omega
      have h18' : (18 : Int) < (r.length : Int) := by omega
      clear hnv htl
      go_enter Tryz.func16, Tryz.ntmps16
      go_wp2_with fail
      go_ret2
      exact ⟨by rw [Hn.out]; rfl, Below.refl _ _⟩
    have h1' : ¬ (r.length : Int) < 1 := by omega
    have h18' : (r.length : Int) ≤ 18 := by omega
    have Htl := Lib.hid htl
    have Hnv := Lib.hid hnv
    clear htl hnv
    go_enter Tryz.func16, Tryz.ntmps16
    go_wp2_with fail
    go_loop [5, 6] (fun n i => ∃ (k acc : Nat), k ≤ r.length ∧ i = .int .i64 k ∧ n = .int .i64 acc ∧ Hid (Lib.decFrom 0 (r.take k) = some acc)) (fun _ i => r.length - (intOf i).toNat)
    case atStart => exact ⟨0, 0, by omega, rfl, rfl, Lib.hid rfl⟩
    case round =>
      obtain ⟨k, acc, hk, rfl, rfl, Hd⟩ := hrel
      have hacc : acc < 1000000000000000000 := by
        have hq := decFrom_lt _ 0 acc 0 (by omega) Hd.out
        rw [List.length_take, Nat.zero_add, Nat.min_eq_left hk] at hq
        exact Nat.lt_of_lt_of_le hq (Nat.le_trans (Nat.pow_le_pow_right (by omega) (show k ≤ 18 by omega)) (by decide))
      by_cases hlt : k < r.length
      · obtain ⟨x, hx⟩ : ∃ x, r[k]? = some x := ⟨_, List.getElem?_eq_getElem hlt⟩
        have hgx : (bs r)[k]'(by rw [bs_size]; exact hlt) = x := by rw [bs_get]; exact (List.getElem?_eq_some_iff.1 hx).2
        have hacc2 : acc < 100000000000000000 := by
          have hq := decFrom_lt _ 0 acc 0 (by omega) Hd.out
          rw [List.length_take, Nat.zero_add, Nat.min_eq_left hk] at hq
          exact Nat.lt_of_lt_of_le hq (Nat.le_trans (Nat.pow_le_pow_right (by omega) (show k ≤ 17 by omega)) (by decide))
        rcases Bool.eq_false_or_eq_true (inR (x.toNat : Int) 48 57) with g | g
        · have hx2 := inR_iff.1 g
          have Hs : Hid (Lib.decFrom 0 (r.take (k + 1)) = some (acc * 10 + (x.toNat - 48))) := Lib.hid (Lib.decFrom_take _ _ _ _ _ _ Hd.out hx (dig_of g))
          obtain ⟨d, hd⟩ : ∃ d : Nat, (x.toNat : Int) - 48 = (d : Int) := ⟨x.toNat - 48, by omega⟩
          have hd9 : d ≤ 9 := by omega
          have hdx : x.toNat - 48 = d := by omega
          rw [hdx] at Hs
          clear hx hdx
          go_wp2_with (go_at_call 15; refine (spec_l01Digit _ _).mono ?_; rintro e w' ⟨rfl, rfl⟩; rw [g])
          go_round
          case rel => exact ⟨k + 1, acc * 10 + d, by omega, by go_num, by go_num, Hs⟩
          case measure => simp [intOf]; omega
        · have Hn : Hid (nmF (45 :: r) = none) := Lib.hid (nmF_bad (by rw [Htl.out]; exact decFrom_stop Hd.out hx (dig_not g)))
          clear hx
          go_wp2_with (go_at_call 15; refine (spec_l01Digit _ _).mono ?_; rintro e w' ⟨rfl, rfl⟩; rw [g])
          go_ret2
          exact ⟨by rw [Hn.out]; rfl, Below.refl _ _⟩
      · have hkn : k = r.length := by omega
        have hall : r.take k = r := List.take_of_length_le (by omega)
        have hd := Hd.out
        rw [hall] at hd
        have hv := nmF_val (l := (45 :: r)) (u := acc) (by rw [Htl.out]; omega) (by rw [Htl.out]; exact hd)
        rw [Hnv.out acc] at hv
        have Hv := Lib.hid hv
        have hse := str_eq (Lib.itoa (-(acc : Int))) (45 :: r)
        clear hv hd hall
        subst hkn
        by_cases heq : Lib.itoa (-(acc : Int)) = (45 :: r)
        · have hst : ((bs (Lib.itoa (-(acc : Int)))).toList == (bs (45 :: r)).toList) = true := by rw [hse, decide_eq_true heq]
          have Hq := Lib.hid heq
          have Hst := Lib.hid hst
          clear heq hse hst
          go_wp2_with (go_at_call 32; refine (spec_l01Dec _ (by omega) (by omega) _).mono ?_; rintro e w1 ⟨rfl, hb1⟩; have hst := Hst.out; try rw [hls] at hst)
          go_ret2
          exact ⟨by rw [Hv.out, if_pos Hq.out]; rfl, hb1⟩
        · have hst : ((bs (Lib.itoa (-(acc : Int)))).toList == (bs (45 :: r)).toList) = false := by rw [hse, decide_eq_false heq]
          have Hq := Lib.hid heq
          have Hst := Lib.hid hst
          clear heq hse hst
          go_wp2_with (go_at_call 32; refine (spec_l01Dec _ (by omega) (by omega) _).mono ?_; rintro e w1 ⟨rfl, hb1⟩; have hst := Hst.out; try rw [hls] at hst)
          go_ret2
          exact ⟨by rw [Hv.out, if_neg Hq.out]; rfl, hb1⟩
  · skip
    have htl : tl (x0 :: r0) = (x0 :: r0) := by unfold tl; rw [if_neg (by simp; exact h45)]
    have hnv : ∀ u : Nat, nmV (x0 :: r0) u = (u : Int) := fun u => by unfold nmV; rw [if_neg (by simp; exact h45)]
    have hg0 : (bs (x0 :: r0))[0]'(by rw [bs_size]; simp) = x0 := rfl
    have hls : (bs (x0 :: r0)).toList = x0 :: r0 := bs_toList _
    have hb0 : ((x0.toNat : Int) == 45) = false := by
      rw [beq_eq_false_iff_ne]; intro h; exact h45 (UInt8.toNat_inj.1 (by have : x0.toNat = 45 := by omega
                                                                          rw [this]; rfl))
    clear h45
    obtain ⟨l, hll⟩ : ∃ l, l = x0 :: r0 := ⟨_, rfl⟩
    rw [← hll] at htl hnv hls hl ⊢
    have hpos : 0 < (bs l).size := by rw [bs_size, hll]; simp
    have hg0' : (bs l)[0]'hpos = x0 := by subst hll; rfl
    have hne1 : ¬ l = [] := by rw [hll]; simp
    have hne2 : l.isEmpty = false := by rw [hll]; rfl
    clear hll hg0
    have hsz : (bs l).size = l.length := bs_size l
    by_cases h1 : l.length < 1
    · have Hn : Hid (nmF l = none) := Lib.hid (nmF_short (by rw [htl]; exact .inl h1))
      have h1' : (l.length : Int) < 1 := by omega
      clear hnv htl
      go_enter Tryz.func16, Tryz.ntmps16
      go_wp2_with fail
      go_ret2
      exact ⟨by rw [Hn.out]; rfl, Below.refl _ _⟩
    by_cases h18 : 18 < l.length
    · have Hn : Hid (nmF l = none) := Lib.hid (nmF_short (by rw [htl]; exact .inr h18))
      have h1' : ¬ (l.length : Int) < 1 := by omega
      have h18' : (18 : Int) < (l.length : Int) := by omega
      clear hnv htl
      go_enter Tryz.func16, Tryz.ntmps16
      go_wp2_with fail
      go_ret2
      exact ⟨by rw [Hn.out]; rfl, Below.refl _ _⟩
    have h1' : ¬ (l.length : Int) < 1 := by omega
    have h18' : (l.length : Int) ≤ 18 := by omega
    have Htl := Lib.hid htl
    have Hnv := Lib.hid hnv
    clear htl hnv
    go_enter Tryz.func16, Tryz.ntmps16
    go_wp2_with fail
    go_loop [5, 6] (fun n i => ∃ (k acc : Nat), k ≤ l.length ∧ i = .int .i64 k ∧ n = .int .i64 acc ∧ Hid (Lib.decFrom 0 (l.take k) = some acc)) (fun _ i => l.length - (intOf i).toNat)
    case atStart => exact ⟨0, 0, by omega, rfl, rfl, Lib.hid rfl⟩
    case round =>
      obtain ⟨k, acc, hk, rfl, rfl, Hd⟩ := hrel
      have hacc : acc < 1000000000000000000 := by
        have hq := decFrom_lt _ 0 acc 0 (by omega) Hd.out
        rw [List.length_take, Nat.zero_add, Nat.min_eq_left hk] at hq
        exact Nat.lt_of_lt_of_le hq (Nat.le_trans (Nat.pow_le_pow_right (by omega) (show k ≤ 18 by omega)) (by decide))
      by_cases hlt : k < l.length
      · obtain ⟨x, hx⟩ : ∃ x, l[k]? = some x := ⟨_, List.getElem?_eq_getElem hlt⟩
        have hgx : (bs l)[k]'(by rw [bs_size]; exact hlt) = x := by rw [bs_get]; exact (List.getElem?_eq_some_iff.1 hx).2
        have hacc2 : acc < 100000000000000000 := by
          have hq := decFrom_lt _ 0 acc 0 (by omega) Hd.out
          rw [List.length_take, Nat.zero_add, Nat.min_eq_left hk] at hq
          exact Nat.lt_of_lt_of_le hq (Nat.le_trans (Nat.pow_le_pow_right (by omega) (show k ≤ 17 by omega)) (by decide))
        rcases Bool.eq_false_or_eq_true (inR (x.toNat : Int) 48 57) with g | g
        · have hx2 := inR_iff.1 g
          have Hs : Hid (Lib.decFrom 0 (l.take (k + 1)) = some (acc * 10 + (x.toNat - 48))) := Lib.hid (Lib.decFrom_take _ _ _ _ _ _ Hd.out hx (dig_of g))
          obtain ⟨d, hd⟩ : ∃ d : Nat, (x.toNat : Int) - 48 = (d : Int) := ⟨x.toNat - 48, by omega⟩
          have hd9 : d ≤ 9 := by omega
          have hdx : x.toNat - 48 = d := by omega
          rw [hdx] at Hs
          clear hx hdx
          go_wp2_with (go_at_call 15; refine (spec_l01Digit _ _).mono ?_; rintro e w' ⟨rfl, rfl⟩; rw [g])
          go_round
          case rel => exact ⟨k + 1, acc * 10 + d, by omega, by go_num, by go_num, Hs⟩
          case measure => simp [intOf]; omega
        · have Hn : Hid (nmF l = none) := Lib.hid (nmF_bad (by rw [Htl.out]; exact decFrom_stop Hd.out hx (dig_not g)))
          clear hx
          go_wp2_with (go_at_call 15; refine (spec_l01Digit _ _).mono ?_; rintro e w' ⟨rfl, rfl⟩; rw [g])
          go_ret2
          exact ⟨by rw [Hn.out]; rfl, Below.refl _ _⟩
      · have hkn : k = l.length := by omega
        have hall : l.take k = l := List.take_of_length_le (by omega)
        have hd := Hd.out
        rw [hall] at hd
        have hv := nmF_val (l := l) (u := acc) (by rw [Htl.out]; omega) (by rw [Htl.out]; exact hd)
        rw [Hnv.out acc] at hv
        have Hv := Lib.hid hv
        have hse := str_eq (Lib.itoa ((acc : Int))) l
        clear hv hd hall
        subst hkn
        by_cases heq : Lib.itoa ((acc : Int)) = l
        · have hst : ((bs (Lib.itoa ((acc : Int)))).toList == (bs l).toList) = true := by rw [hse, decide_eq_true heq]
          have Hq := Lib.hid heq
          have Hst := Lib.hid hst
          clear heq hse hst
          go_wp2_with (go_at_call 32; refine (spec_l01Dec _ (by omega) (by omega) _).mono ?_; rintro e w1 ⟨rfl, hb1⟩; have hst := Hst.out; try rw [hls] at hst)
          go_ret2
          exact ⟨by rw [Hv.out, if_pos Hq.out]; rfl, hb1⟩
        · have hst : ((bs (Lib.itoa ((acc : Int)))).toList == (bs l).toList) = false := by rw [hse, decide_eq_false heq]
          have Hq := Lib.hid heq
          have Hst := Lib.hid hst
          clear heq hse hst
          go_wp2_with (go_at_call 32; refine (spec_l01Dec _ (by omega) (by omega) _).mono ?_; rintro e w1 ⟨rfl, hb1⟩; have hst := Hst.out; try rw [hls] at hst)
          go_ret2
          exact ⟨by rw [Hv.out, if_neg Hq.out]; rfl, hb1⟩

end Go.Proofs.YtgbblcbpmpokdaaGreatDoor

/- Walks over functions of this seat, by contract. Conditions: those that each theorem states. -/
import Derived.Test.YtgbblcbpmpokdaaGreatDoorZ4
import Derived.Lib.Bytealg
import Derived.Laws.IdiomCopy
import Derived.Deep.RegionLaw
import Derived.Deep.DeepCutAuto
import Derived.IntWalk
namespace Go.Proofs.YtgbblcbpmpokdaaGreatDoor
open Go.RowKit Go.Sort

def drop3 (x : UInt8) : Bool := x.toNat == 43 || x.toNat == 46 || x.toNat == 109
def strip (l : List UInt8) : List UInt8 := l.filter fun x => !drop3 x
theorem strip_yes {l : List UInt8} {k : Nat} {x : UInt8} (hx : l[k]? = some x) (h : drop3 x = true) : strip (l.take (k + 1)) = strip (l.take k) := by
  obtain ⟨hk, he⟩ := List.getElem?_eq_some_iff.1 hx
  rw [List.take_succ_eq_append_getElem hk, strip, List.filter_append, he, List.filter_cons, if_neg (by simp [h])]
  simp [strip]
theorem strip_no {l : List UInt8} {k : Nat} {x : UInt8} (hx : l[k]? = some x) (h : drop3 x = false) : strip (l.take (k + 1)) = strip (l.take k) ++ [x] := by
  obtain ⟨hk, he⟩ := List.getElem?_eq_some_iff.1 hx
  rw [List.take_succ_eq_append_getElem hk, strip, List.filter_append, he, List.filter_cons, if_pos (by simp [h])]
  rfl
theorem strip_len (l : List UInt8) (k : Nat) : (strip (l.take k)).length ≤ (strip l).length := by
  have : strip l = strip (l.take k) ++ strip (l.drop k) := by rw [strip, strip, strip, ← List.filter_append, List.take_append_drop]
  rw [this, List.length_append]; omega
theorem strip_le (l : List UInt8) : (strip l).length ≤ l.length := List.length_filter_le _ _
theorem strip_all {l : List UInt8} (h : (strip l).length = l.length) : strip l = l := List.filter_eq_self.2 (List.length_filter_eq_length_iff.1 h)
/-- what is left behind the counts -/
theorem strip_count : ∀ l : List UInt8, (strip l).length + Lib.countByte l 109 + Lib.countByte l 46 + Lib.countByte l 43 = l.length
  | [] => rfl
  | x :: l => by
    have ih := strip_count l
    unfold Lib.countByte at ih ⊢
    rw [List.count_cons, List.count_cons, List.count_cons, List.length_cons]
    by_cases h1 : x = 109
    · subst h1
      have e : strip (109 :: l) = strip l := by rw [strip, List.filter_cons, if_neg (by decide)]; rfl
      rw [e]; simp; omega
    · by_cases h2 : x = 46
      · subst h2
        have e : strip (46 :: l) = strip l := by rw [strip, List.filter_cons, if_neg (by decide)]; rfl
        rw [e]; simp; omega
      · by_cases h3 : x = 43
        · subst h3
          have e : strip (43 :: l) = strip l := by rw [strip, List.filter_cons, if_neg (by decide)]; rfl
          rw [e]; simp; omega
        · have n1 : x.toNat ≠ 109 := fun h => h1 (UInt8.toNat_inj.1 h)
          have n2 : x.toNat ≠ 46 := fun h => h2 (UInt8.toNat_inj.1 h)
          have n3 : x.toNat ≠ 43 := fun h => h3 (UInt8.toNat_inj.1 h)
          have e : strip (x :: l) = x :: strip l := by rw [strip, List.filter_cons, if_pos (by simp [drop3, n1, n2, n3])]; rfl
          rw [e, List.length_cons]
          simp [h1, h2, h3]; omega
theorem drop3_iff (x : UInt8) : drop3 x = true ↔ x.toNat = 43 ∨ x.toNat = 46 ∨ x.toNat = 109 := by
  simp [drop3, or_assoc]
theorem strip_keep {l : List UInt8} (h : ∀ (k : Nat) x, l[k]? = some x → drop3 x = false) : strip l = l := List.filter_eq_self.2 fun x hx => by
  obtain ⟨k, hk⟩ := List.getElem?_of_mem hx
  simp [h k x hk]
theorem z_info_u8 : (Tryz.prog.info? 5).map (fun i => (i.zero, i.size, i.bytes)) = some (some (.int .u8 0), 1, 1) := by kernel_rfl
def bcl (x : UInt8) : List Value := [.int .u8 (x.toNat : Int)]
theorem bcl_len (x : UInt8) : (bcl x).length = 1 := rfl
theorem step_copy0 {W : World} {ops : Array Oper} {o : Oper} {a : Act} {K : Act → World → Prop} {Q : Exit → Act → World → Prop} {X : Prop} (hgd : o.guard = none) (d x : Operand)
    (ho : o.op = .call { callee := .builtin .copy, args := #[d, x], argTypes := #[77, 77] }) (A p : Option Addr) (n c c' : Nat) (hd : a.eval d = .slice A n c) (hx : a.eval x = .slice p 0 c')
    (h : K (a.put o.dst (.int .i64 0)) W) : if Region.wanted o (yielded ops a.tmps) = true then Oper.wp Tryz.prog o a W K Q else X := by
  have hw : Region.wanted o (yielded ops a.tmps) = true := by simp [Region.wanted, hgd]
  rw [if_pos hw]
  have hr := run_copy_none (P := Tryz.prog) W 77 77 o.type 5 A p n c 0 c' Tryz.underlying77 (by kernel_rfl) (by simp)
  unfold Oper.wp execOp
  simp only [ho, resolve, invoke, builtin, Sem.run_bind, Sem.run_pure, Result.andThen_ok, List.map_toArray, List.map_cons, List.map_nil, hd, hx, hr]
  exact h
def cntK (l : List UInt8) : Nat → Nat
  | 0 => 0
  | 1 => Lib.countByte l 109
  | 2 => Lib.countByte l 109 + Lib.countByte l 46
  | _ => Lib.countByte l 109 + Lib.countByte l 46 + Lib.countByte l 43
theorem cntK_0 (l : List UInt8) : cntK l (0 + 1) = cntK l 0 + Lib.countByte l 109 := (Nat.zero_add _).symm
theorem cntK_1 (l : List UInt8) : cntK l (1 + 1) = cntK l 1 + Lib.countByte l 46 := rfl
theorem cntK_2 (l : List UInt8) : cntK l (2 + 1) = cntK l 2 + Lib.countByte l 43 := rfl
theorem cntK_le (l : List UInt8) : ∀ k, k ≤ 3 → cntK l k ≤ l.length := fun k hk => by
  have := strip_count l
  have h : k = 0 ∨ k = 1 ∨ k = 2 ∨ k = 3 := by omega
  rcases h with rfl | rfl | rfl | rfl <;> simp only [cntK] <;> omega
theorem cntK_3 (l : List UInt8) : (strip l).length + cntK l 3 = l.length := by
  have := strip_count l
  simp only [cntK]; omega
theorem count_le (s : ByteArray) (c : UInt8) : Lib.countByte s.data.toList c ≤ s.size := by
  have : s.data.toList.count c ≤ s.data.toList.length := List.count_le_length
  simpa [Lib.countByte] using this
theorem Has.zsc {w : World} {b off k : Nat} {xs : List ByteArray} {x : ByteArray} (h : Has w b off 1 zscl xs) (hx : xs[k]? = some x) : w.cell? ⟨b, off + k, none⟩ = some (.string x) := by
  have := h k x hx 0 _ rfl
  simpa using this
theorem drop_at {W : World} {b2 kc : Nat} {A : Option Addr} {F : Nat → Value} (h : BF W b2 A kc F) {o : Nat} (ho : o = 43 ∨ o = 46 ∨ o = 109) : ∃ p c, F o = .slice (some p) 0 c := by
  have := h.fi o (by omega)
  rwa [if_pos ho] at this
set_option maxRecDepth 100000 in
set_option maxHeartbeats 2000000 in
theorem z_bs (hcount : ∀ (s : ByteArray) (c : UInt8) (w : World), Calls Tryz.prog 36 #[.string s, .string ⟨#[c]⟩] w fun e w' => e = .returned (.int .i64 (Lib.countByte s.data.toList c)) ∧ w' = w)
    (b2 : Nat) (A : Option Addr) (kc : Nat) (F : Nat → Value) (s : ByteArray) (w : World) (hB : BF w b2 A kc F) (hs : s.size ≤ 2097152) :
    Calls Tryz.prog 154 #[.pointer (some ⟨b2, 0, none⟩), .string s] w fun e w' => e = .returned (.string ⟨(strip s.data.toList).toArray⟩) ∧ Below w.heap.size w w' := by
  have HB := Lib.hid hB
  have x256 := hB.cell 256 (by omega)
  rw [hB.f256] at x256
  obtain ⟨gA, oA, rfl, hgA, _⟩ := hB.sl.at_ (by omega)
  clear hB
  have hcount' : ∀ (s : ByteArray) (c : UInt8) (w : World), Calls Tryz.prog 36 #[.string s, .string ⟨#[c]⟩] w fun e w' => e = .returned (.int .i64 (Lib.countByte s.data.toList c)) ∧ w = w' := fun s c w => (hcount s c w).mono fun _ _ ⟨a, b⟩ => ⟨a, b.symm⟩
  clear hcount
  go_enter Tryz.func154, Tryz.ntmps154
  go_upto_if 26 with fail
  go_cut [5, 6] (fun ns ac wx => ∃ (any : Bool), ns = .int .i64 ((strip s.data.toList).length : Nat) ∧ ac = .bool any ∧ Hid (any = false → strip s.data.toList = s.data.toList) ∧ Below w.heap.size w wx)
  case first =>
    by_cases hc : (24 : Int) ≤ (s.size : Int)
    · rw [decide_eq_true hc]
      go_wp2_with fail
      clear hc
      go_loopw [5, 6, 32] (fun ns ac i wr => ∃ k : Nat, k ≤ 3 ∧ i = .int .i64 k ∧ ns = .int .i64 ((s.size - cntK s.data.toList k : Nat) : Int) ∧ ac = .bool (decide (0 < cntK s.data.toList k)) ∧ Hid (BF wr b2 (some ⟨gA, oA, none⟩) kc F) ∧ Below w.heap.size w wr) (fun _ _ i _ => 3 - (intOf i).toNat)
      case atStart => exact ⟨0, by omega, rfl, by simp [cntK], by simp [cntK], HB, Below.refl _ _⟩
      case round =>
        obtain ⟨k, hk, rfl, rfl, rfl, HBr, hbr⟩ := hrel
        have hcl := cntK_le s.data.toList k hk
        obtain ⟨gB, oB, hA, hgB, H⟩ := HBr.out.sl.at_ (by omega)
        injection hA with hA
        injection hA with hA1 hA2 _
        subst hA1 hA2
        by_cases hlt : k < 3
        · have hk3 : k = 0 ∨ k = 1 ∨ k = 2 := by omega
          rcases hk3 with hk0 | hk0 | hk0
          · have Hk := Lib.hid hk0
            clear hk0
            have e0 := H.zsc (k := k) (x := ⟨#[109]⟩) (by rw [Hk.out]; rfl)
            have f0 := (HBr.out.cell 109 (by omega))
            obtain ⟨p, c, hF⟩ := drop_at HBr.out (o := 109) (by omega)
            rw [hF] at f0
            clear hF
            have eb : ∀ h, ((⟨#[109]⟩ : ByteArray)[0]'h).toNat = 109 := fun _ => rfl
            have hcc := hcount' s 109 wr
            obtain ⟨n, hn⟩ : ∃ n, Lib.countByte s.data.toList 109 = n := ⟨_, rfl⟩
            rw [hn] at hcc
            have hnl : n ≤ s.size := by rw [← hn]; exact count_le s 109
            have Hn := Lib.hid hn
            clear hn
            by_cases h0 : n = 0
            · have h0' : ((n : Int) != 0) = false := by simp [h0]
              have H0 := Lib.hid h0
              clear h0
              go_wp2_with (go_at_call 36; refine hcc.mono ?_; rintro e w1 ⟨rfl, rfl⟩)
              go_roundw
              case rel => exact ⟨k + 1, by omega, by go_num, by rw [Hk.out, cntK_0, Hn.out, H0.out]; rfl, by rw [Hk.out, cntK_0, Hn.out, H0.out]; rfl, HBr, hbr⟩
              case measure => simp [intOf]; omega
            · have h0' : ((n : Int) != 0) = true := by simp [h0]
              have h3 := cntK_le s.data.toList (0 + 1) (by omega)
              rw [cntK_0, Hn.out] at h3
              have h4 : s.data.toList.length = s.size := by simp
              have h5 : cntK s.data.toList k = cntK s.data.toList 0 := by rw [Hk.out]
              obtain ⟨m, hm⟩ : ∃ m, s.size - cntK s.data.toList k = m := ⟨_, rfl⟩
              have hnm : n ≤ m := by omega
              have hmb : m ≤ 2097152 := by omega
              have hw1 : IntKind.i64.wrap ((n : Int) * -1) = -(n : Int) := by rw [show (n : Int) * -1 = -(n : Int) from by omega]; exact IntWalk.i64_in _ (by omega)
              have hw2 : IntKind.i64.wrap ((m : Int) + -(n : Int)) = ((m - n : Nat) : Int) := by rw [show (m : Int) + -(n : Int) = ((m - n : Nat) : Int) from by omega]; exact IntWalk.i64_in _ (by omega)
              have Hm := Lib.hid (show s.size - (cntK s.data.toList 0 + n) = m - n from by omega)
              have Hp := Lib.hid (show 0 < cntK s.data.toList 0 + n from by omega)
              rw [hm]
              clear hm h3 h5
              go_wp2_with (go_at_call 36; refine hcc.mono ?_; rintro e w1 ⟨rfl, rfl⟩)
              go_quiet (fail)
              go_wp2_with fail
              go_roundw
              case rel => exact ⟨k + 1, by omega, by go_num, by rw [Hk.out, cntK_0, Hn.out, Hm.out], by rw [Hk.out, cntK_0, Hn.out, decide_eq_true Hp.out], Lib.hid (HBr.out.on (below_drN (Below.refl _ _) nq)), below_drN hbr nq⟩
              case measure => simp [intOf]; omega
          · have Hk := Lib.hid hk0
            clear hk0
            have e0 := H.zsc (k := k) (x := ⟨#[46]⟩) (by rw [Hk.out]; rfl)
            have f0 := (HBr.out.cell 46 (by omega))
            obtain ⟨p, c, hF⟩ := drop_at HBr.out (o := 46) (by omega)
            rw [hF] at f0
            clear hF
            have eb : ∀ h, ((⟨#[46]⟩ : ByteArray)[0]'h).toNat = 46 := fun _ => rfl
            have hcc := hcount' s 46 wr
            obtain ⟨n, hn⟩ : ∃ n, Lib.countByte s.data.toList 46 = n := ⟨_, rfl⟩
            rw [hn] at hcc
            have hnl : n ≤ s.size := by rw [← hn]; exact count_le s 46
            have Hn := Lib.hid hn
            clear hn
            by_cases h0 : n = 0
            · have h0' : ((n : Int) != 0) = false := by simp [h0]
              have H0 := Lib.hid h0
              clear h0
              go_wp2_with (go_at_call 36; refine hcc.mono ?_; rintro e w1 ⟨rfl, rfl⟩)
              go_roundw
              case rel => exact ⟨k + 1, by omega, by go_num, by rw [Hk.out, cntK_1, Hn.out, H0.out]; rfl, by rw [Hk.out, cntK_1, Hn.out, H0.out]; rfl, HBr, hbr⟩
              case measure => simp [intOf]; omega
            · have h0' : ((n : Int) != 0) = true := by simp [h0]
              have h3 := cntK_le s.data.toList (1 + 1) (by omega)
              rw [cntK_1, Hn.out] at h3
              have h4 : s.data.toList.length = s.size := by simp
              have h5 : cntK s.data.toList k = cntK s.data.toList 1 := by rw [Hk.out]
              obtain ⟨m, hm⟩ : ∃ m, s.size - cntK s.data.toList k = m := ⟨_, rfl⟩
              have hnm : n ≤ m := by omega
              have hmb : m ≤ 2097152 := by omega
              have hw1 : IntKind.i64.wrap ((n : Int) * -1) = -(n : Int) := by rw [show (n : Int) * -1 = -(n : Int) from by omega]; exact IntWalk.i64_in _ (by omega)
              have hw2 : IntKind.i64.wrap ((m : Int) + -(n : Int)) = ((m - n : Nat) : Int) := by rw [show (m : Int) + -(n : Int) = ((m - n : Nat) : Int) from by omega]; exact IntWalk.i64_in _ (by omega)
              have Hm := Lib.hid (show s.size - (cntK s.data.toList 1 + n) = m - n from by omega)
              have Hp := Lib.hid (show 0 < cntK s.data.toList 1 + n from by omega)
              rw [hm]
              clear hm h3 h5
              go_wp2_with (go_at_call 36; refine hcc.mono ?_; rintro e w1 ⟨rfl, rfl⟩)
              go_quiet (fail)
              go_wp2_with fail
              go_roundw
              case rel => exact ⟨k + 1, by omega, by go_num, by rw [Hk.out, cntK_1, Hn.out, Hm.out], by rw [Hk.out, cntK_1, Hn.out, decide_eq_true Hp.out], Lib.hid (HBr.out.on (below_drN (Below.refl _ _) nq)), below_drN hbr nq⟩
              case measure => simp [intOf]; omega
          · have Hk := Lib.hid hk0
            clear hk0
            have e0 := H.zsc (k := k) (x := ⟨#[43]⟩) (by rw [Hk.out]; rfl)
            have f0 := (HBr.out.cell 43 (by omega))
            obtain ⟨p, c, hF⟩ := drop_at HBr.out (o := 43) (by omega)
            rw [hF] at f0
            clear hF
            have eb : ∀ h, ((⟨#[43]⟩ : ByteArray)[0]'h).toNat = 43 := fun _ => rfl
            have hcc := hcount' s 43 wr
            obtain ⟨n, hn⟩ : ∃ n, Lib.countByte s.data.toList 43 = n := ⟨_, rfl⟩
            rw [hn] at hcc
            have hnl : n ≤ s.size := by rw [← hn]; exact count_le s 43
            have Hn := Lib.hid hn
            clear hn
            by_cases h0 : n = 0
            · have h0' : ((n : Int) != 0) = false := by simp [h0]
              have H0 := Lib.hid h0
              clear h0
              go_wp2_with (go_at_call 36; refine hcc.mono ?_; rintro e w1 ⟨rfl, rfl⟩)
              go_roundw
              case rel => exact ⟨k + 1, by omega, by go_num, by rw [Hk.out, cntK_2, Hn.out, H0.out]; rfl, by rw [Hk.out, cntK_2, Hn.out, H0.out]; rfl, HBr, hbr⟩
              case measure => simp [intOf]; omega
            · have h0' : ((n : Int) != 0) = true := by simp [h0]
              have h3 := cntK_le s.data.toList (2 + 1) (by omega)
              rw [cntK_2, Hn.out] at h3
              have h4 : s.data.toList.length = s.size := by simp
              have h5 : cntK s.data.toList k = cntK s.data.toList 2 := by rw [Hk.out]
              obtain ⟨m, hm⟩ : ∃ m, s.size - cntK s.data.toList k = m := ⟨_, rfl⟩
              have hnm : n ≤ m := by omega
              have hmb : m ≤ 2097152 := by omega
              have hw1 : IntKind.i64.wrap ((n : Int) * -1) = -(n : Int) := by rw [show (n : Int) * -1 = -(n : Int) from by omega]; exact IntWalk.i64_in _ (by omega)
              have hw2 : IntKind.i64.wrap ((m : Int) + -(n : Int)) = ((m - n : Nat) : Int) := by rw [show (m : Int) + -(n : Int) = ((m - n : Nat) : Int) from by omega]; exact IntWalk.i64_in _ (by omega)
              have Hm := Lib.hid (show s.size - (cntK s.data.toList 2 + n) = m - n from by omega)
              have Hp := Lib.hid (show 0 < cntK s.data.toList 2 + n from by omega)
              rw [hm]
              clear hm h3 h5
              go_wp2_with (go_at_call 36; refine hcc.mono ?_; rintro e w1 ⟨rfl, rfl⟩)
              go_quiet (fail)
              go_wp2_with fail
              go_roundw
              case rel => exact ⟨k + 1, by omega, by go_num, by rw [Hk.out, cntK_2, Hn.out, Hm.out], by rw [Hk.out, cntK_2, Hn.out, decide_eq_true Hp.out], Lib.hid (HBr.out.on (below_drN (Below.refl _ _) nq)), below_drN hbr nq⟩
              case measure => simp [intOf]; omega
        · have hk3 : k = 3 := by omega
          have Hk := Lib.hid hk3
          clear hk3
          go_wp2_with fail
          go_meet
          have h4 : s.data.toList.length = s.size := by simp
          have h5 := cntK_3 s.data.toList
          exact ⟨_, by rw [Hk.out]; congr 2; omega, rfl, Lib.hid (fun h => strip_all (by rw [Hk.out] at h; have := of_decide_eq_false h; omega)), hbr⟩
    · rw [decide_eq_false hc]
      go_wp2_with fail
      clear hc
      go_loopw [5, 6, 10] (fun ns ac i wr => ∃ (k : Nat) (p : Bool), k ≤ s.size ∧ i = .int .i64 k ∧ ns = .int .i64 ((s.size - (k - (strip (s.data.toList.take k)).length) : Nat) : Int) ∧ ac = .bool p ∧ Hid (p = false → (strip (s.data.toList.take k)).length = k) ∧ w = wr) (fun _ _ i _ => s.size - (intOf i).toNat)
      case atStart => exact ⟨0, false, by omega, rfl, by simp [strip], rfl, Lib.hid (fun _ => by simp [strip]), rfl⟩
      case round =>
        obtain ⟨k, p, hk, rfl, rfl, rfl, Hp, rfl⟩ := hrel
        have h4 : s.data.toList.length = s.size := by simp
        have h5 := strip_le (s.data.toList.take k)
        rw [List.length_take, h4] at h5
        obtain ⟨a, ha⟩ : ∃ a, (strip (s.data.toList.take k)).length = a := ⟨_, rfl⟩
        rw [ha] at h5 Hp
        obtain ⟨m, hm⟩ : ∃ m, s.size - (k - a) = m := ⟨_, rfl⟩
        rw [ha, hm]
        have Ha := Lib.hid ha
        have Hm := Lib.hid hm
        have hak : a ≤ k := by omega
        clear ha h5
        by_cases hlt : k < s.size
        · obtain ⟨x, hxs⟩ : ∃ x : UInt8, s[k] = x := ⟨_, rfl⟩
          have hx : s.data.toList[k]? = some x := by rw [← hxs, Array.getElem?_toList, Array.getElem?_eq_getElem (show k < s.data.size from hlt)]; rfl
          have hx2 : x.toNat < 256 := UInt8.toNat_lt x
          have f0 := HB.out.cell x.toNat (by omega)
          have hfi := HB.out.fi x.toNat hx2
          have Hx := Lib.hid hx
          have hm1 : 1 + (k - a) ≤ s.size := by omega
          clear hx
          cases hd : drop3 x with
          | true =>
            rw [if_pos ((drop3_iff x).1 hd)] at hfi
            obtain ⟨p', c', hF⟩ := hfi
            rw [hF] at f0
            have q1 := fun W => z_nes W p' 0 c'
            have hw2 : IntKind.i64.wrap ((m : Int) + -1) = ((m - 1 : Nat) : Int) := by rw [show (m : Int) + -1 = ((m - 1 : Nat) : Int) from by omega]; exact IntWalk.i64_in _ (by omega)
            have Hd := Lib.hid hd
            have Hm2 := Lib.hid (show s.size - (k + 1 - a) = m - 1 from by omega)
            clear hd hF hm
            go_wp2_with fail
            go_roundw
            case rel => exact ⟨k + 1, true, by omega, by go_num, by rw [strip_yes Hx.out Hd.out, Ha.out, Hm2.out], rfl, Lib.hid (fun h => by cases h), by first | exact trivial | exact rfl⟩
            case measure => simp [intOf]; omega
          | false =>
            rw [if_neg (fun h => by rw [(drop3_iff x).2 h] at hd; cases hd)] at hfi
            rw [hfi] at f0
            have q1 := z_nen
            have Hd := Lib.hid hd
            have Hm2 := Lib.hid (show s.size - (k + 1 - (a + 1)) = m from by omega)
            clear hd hfi hm
            go_wp2_with fail
            go_roundw
            case rel => exact ⟨k + 1, p, by omega, by go_num, by rw [strip_no Hx.out Hd.out, List.length_append, Ha.out]; show _ = Value.int .i64 ((s.size - (k + 1 - (a + 1)) : Nat) : Int); rw [Hm2.out], rfl, Lib.hid (fun h => by rw [strip_no Hx.out Hd.out, List.length_append, Ha.out, Hp.out h]; rfl), by first | exact trivial | exact rfl⟩
            case measure => simp [intOf]; omega
        · have hks : k = s.size := by omega
          have htk : s.data.toList.take k = s.data.toList := List.take_of_length_le (by omega)
          rw [htk] at Ha
          have Hks := Lib.hid hks
          clear hks hm
          go_wp2_with fail
          go_meet
          have := strip_le s.data.toList
          have h6 := Ha.out
          have h7 := Hks.out
          have h8 := Hm.out
          exact ⟨p, by congr 2; omega, rfl, Lib.hid (fun h => strip_all (by rw [h6, Hp.out h]; omega)), Below.refl _ _⟩
  case rest =>
    obtain ⟨any, rfl, rfl, Hs, hbc⟩ := hcut
    cases any with
    | false =>
      go_wp2_with fail
      go_ret
      refine ⟨?_, hbc⟩
      have e : (⟨(strip s.data.toList).toArray⟩ : ByteArray) = s := by rw [Hs.out (by simp), Array.toArray_toList]
      rw [e]; rfl
    | true =>
      obtain ⟨i0, hi, hz0, hz1, hz2⟩ := info_parts z_info_u8
      have hNs := strip_le s.data.toList
      have h4 : s.data.toList.length = s.size := by simp
      obtain ⟨N, hN⟩ : ∃ N, (strip s.data.toList).length = N := ⟨_, rfl⟩
      rw [hN] at hNs ⊢
      have hmk := make_all Tryz.underlying77 hi hz0 N (by rw [hz2]; omega) (by omega)
      rw [hz1, Nat.mul_one] at hmk
      have HN := Lib.hid hN
      have HBc := Lib.hid (HB.out.on hbc)
      clear hi hz0 hz1 hz2 hN
      go_wp2_with fail
      clear hmk
      go_loopw [13, 14] (fun jv iv wr => ∃ k : Nat, k ≤ s.size ∧ iv = .int .i64 k ∧ jv = .int .i64 ((strip (s.data.toList.take k)).length : Nat) ∧ Hid (Row wr wc.heap.size 5 N ((strip (s.data.toList.take k)).flatMap bcl)) ∧ Hid (Below wc.heap.size wc wr)) (fun _ iv _ => s.size - (intOf iv).toNat)
      case atStart => exact ⟨0, by omega, by go_num, by simp [strip], Lib.hid (by simpa [strip] using Row.new wc _ _ _), Lib.hid (below_al (Below.refl _ _) _)⟩
      case round =>
        obtain ⟨k, hk, rfl, rfl, HR, HW⟩ := hrel
        by_cases hlt : k < s.size
        · obtain ⟨x, hxs⟩ : ∃ x : UInt8, s[k] = x := ⟨_, rfl⟩
          have hx : s.data.toList[k]? = some x := by rw [← hxs, Array.getElem?_toList, Array.getElem?_eq_getElem (show k < s.data.size from hlt)]; rfl
          have hx2 : x.toNat < 256 := UInt8.toNat_lt x
          have f0 := cell_on (HBc.out.cell x.toNat (by omega)) HW.out HBc.out.lt
          have hfi := HBc.out.fi x.toNat hx2
          have Hx := Lib.hid hx
          obtain ⟨a, ha⟩ : ∃ a, (strip (s.data.toList.take k)).length = a := ⟨_, rfl⟩
          have h5 := strip_len s.data.toList k
          have h6 := strip_len s.data.toList (k + 1)
          rw [HN.out] at h5 h6
          rw [ha] at h5 ⊢
          have Ha := Lib.hid ha
          clear hx ha
          cases hd : drop3 x with
          | true =>
            rw [if_pos ((drop3_iff x).1 hd)] at hfi
            obtain ⟨p', c', hF⟩ := hfi
            rw [hF] at f0
            have q1 := fun W => z_nes W p' 0 c'
            have Hd := Lib.hid hd
            clear hd hF h6
            have ha0 : (0 : Int) ≤ (a : Int) := by omega
            have haN : (a : Int) ≤ (N : Int) := by omega
            have hx0 : (0 : Int) ≤ (x.toNat : Int) := by omega
            have hx3 : (x.toNat : Int) < 256 := by omega
            by_cases hNa : N = a
            · subst hNa
              go_wp2_with fail
              go_region_law (refine step_copy0 (by rfl) _ _ (by rfl) _ _ _ _ _ (by rfl) (by rfl) ?_)
              go_wp2_with fail
              go_roundw
              case rel => exact ⟨k + 1, by omega, by go_num, by rw [strip_yes Hx.out Hd.out, Ha.out], Lib.hid (by rw [strip_yes Hx.out Hd.out]; exact HR.out.on (below_dr (Below.refl _ _))), Lib.hid (below_dr HW.out)⟩
              case measure => simp [intOf]; omega
            · go_wp2_with fail
              go_region_law (refine step_copy0 (by rfl) _ _ (by rfl) _ _ _ _ _ (by rfl) (by rfl) ?_)
              go_wp2_with fail
              go_roundw
              case rel => exact ⟨k + 1, by omega, by go_num, by rw [strip_yes Hx.out Hd.out, Ha.out], Lib.hid (by rw [strip_yes Hx.out Hd.out]; exact HR.out.on (below_dr (Below.refl _ _))), Lib.hid (below_dr HW.out)⟩
              case measure => simp [intOf]; omega
          | false =>
            rw [if_neg (fun h => by rw [(drop3_iff x).2 h] at hd; cases hd)] at hfi
            rw [hfi] at f0
            have q1 := z_nen
            have Hd := Lib.hid hd
            rw [strip_no Hx.out hd, List.length_append, Ha.out] at h6
            have haN : a < N := by simp at h6; omega
            obtain ⟨v0, hc0⟩ := HR.out.cell haN
            have hfr := HR.out.frozen a
            have hrl := HR.out.lt
            clear hd hfi h6
            go_wp2_with fail
            go_roundw
            case rel => exact ⟨k + 1, by omega, by go_num, by rw [strip_no Hx.out Hd.out, List.length_append, Ha.out]; go_num, Lib.hid (by rw [strip_no Hx.out Hd.out, List.flatMap_append]; exact HR.out.push1 (by rw [flat_len bcl_len, Nat.mul_one, Ha.out]) _ haN), Lib.hid (below_st HW.out _ (Nat.le_refl _) _)⟩
            case measure => simp [intOf]; omega
        · have hks : k = s.size := by omega
          have htk : s.data.toList.take k = s.data.toList := List.take_of_length_le (by omega)
          have hR := HR.out
          rw [htk] at hR
          have hcv := run_convert_bytes_back (P := Tryz.prog) wr 77 9 5 ⟨wc.heap.size, 0, none⟩ N (strip s.data.toList) Tryz.underlying77 Tryz.underlying5 Tryz.underlying9 (fun j hj => by
            have h1 := hR.at_ (i := j) (v := .int .u8 ((strip s.data.toList)[j].toNat : Int)) (by
              have := flat_get bcl_len (strip s.data.toList) j 0 _ _ (List.getElem?_eq_getElem hj) rfl
              simpa using this)
            have hadd : (⟨wc.heap.size, 0, none⟩ : Addr).add j = ⟨wc.heap.size, j, none⟩ := by unfold Addr.add; split <;> simp_all
            rw [hadd]; exact h1)
          rw [HN.out] at hcv
          clear hks htk hR
          go_wp2_with fail
          go_ret
          exact ⟨rfl, hbc.trans (HW.out.mono hbc.size)⟩

end Go.Proofs.YtgbblcbpmpokdaaGreatDoor

/- Walks over functions of this seat, by contract. Conditions: those that each theorem states. -/
import Derived.Test.YtgakpcepjhbhjaaB2
namespace Go.Proofs.Ytgakpcepjhbhjaa
open Go.RowKit Go.Sort

def billCode (es : List Q4) (owner n most : Int) : Int := if billsOk es = false then 1 else if (inR owner 0 39 && inR n 0 most) = false then 2 else 0
theorem billCode_zero {es : List Q4} {owner n most : Int} : billCode es owner n most = 0 ↔ billsOk es = true ∧ inR owner 0 39 = true ∧ inR n 0 most = true := by
  unfold billCode
  cases billsOk es <;> cases inR owner 0 39 <;> cases inR n 0 most <;> simp
theorem billCode_same (es : List Q4) (owner : Int) : billCode es owner 0 1000000000 = billCode es owner 0 0 := rfl
theorem bills_all {es : List Q4} (h : billsOk es = true) : es.length ≤ 100 ∧ ∀ e ∈ es, billOk e = true := by
  obtain ⟨h1, h2⟩ := billsOk_iff.1 h
  refine ⟨h2, fun e he => ?_⟩
  obtain ⟨k, hk, rfl⟩ := List.mem_iff_getElem.1 he
  exact (okList_iff.1 h1).1 k _ (List.getElem?_eq_getElem hk)
theorem spec_l20Code (A : Option Addr) (n c : Nat) (es : List Q4) (owner x most : Int) (w : World) (hmax : n ≤ 1048576) (h : Sl w w.heap.size 4 Q4.cells A n es) :
    Calls Try.prog 48 #[.slice A n c, .int .i64 owner, .int .i64 x, .int .i64 most] w fun e w' => e = .returned (.int .i64 (billCode es owner x most)) ∧ Below w.heap.size w w' := by
  by_cases k1 : billsOk es = true
  · by_cases k2 : inR owner 0 39 = true
    · by_cases k3 : inR x 0 most = true
      · have hc : billCode es owner x most = 0 := billCode_zero.2 ⟨k1, k2, k3⟩
        rw [hc]
        go_enter Try.func48, Try.ntmps48
        go_wp2_with (first
          | (go_at_call 46; refine (spec_l20Ok _ _ _ es _ hmax h).mono ?_; rintro e w1 ⟨rfl, hb1⟩; rw [k1])
          | (go_at_call 58; refine (spec_l20Owner _ _).mono ?_; rintro e w' ⟨rfl, rfl⟩; rw [k2])
          | (go_at_call 60; refine (spec_l00In _ _ _ _).mono ?_; rintro e w' ⟨rfl, rfl⟩; rw [k3]))
        go_ret
        exact ⟨rfl, hb1⟩
      · have k3' : inR x 0 most = false := by simpa using k3
        have hc : billCode es owner x most = 2 := by simp [billCode, k1, k2, k3]
        rw [hc]
        go_enter Try.func48, Try.ntmps48
        go_wp2_with (first
          | (go_at_call 46; refine (spec_l20Ok _ _ _ es _ hmax h).mono ?_; rintro e w1 ⟨rfl, hb1⟩; rw [k1])
          | (go_at_call 58; refine (spec_l20Owner _ _).mono ?_; rintro e w' ⟨rfl, rfl⟩; rw [k2])
          | (go_at_call 60; refine (spec_l00In _ _ _ _).mono ?_; rintro e w' ⟨rfl, rfl⟩; rw [k3']))
        go_ret
        exact ⟨rfl, hb1⟩
    · have k2' : inR owner 0 39 = false := by simpa using k2
      have hc : billCode es owner x most = 2 := by simp [billCode, k1, k2]
      rw [hc]
      go_enter Try.func48, Try.ntmps48
      go_wp2_with (first
        | (go_at_call 46; refine (spec_l20Ok _ _ _ es _ hmax h).mono ?_; rintro e w1 ⟨rfl, hb1⟩; rw [k1])
        | (go_at_call 58; refine (spec_l20Owner _ _).mono ?_; rintro e w' ⟨rfl, rfl⟩; rw [k2']))
      go_ret
      exact ⟨rfl, hb1⟩
  · have k1' : billsOk es = false := by simpa using k1
    have hc : billCode es owner x most = 1 := by simp [billCode, k1]
    rw [hc]
    go_enter Try.func48, Try.ntmps48
    go_wp2_with (go_at_call 46; refine (spec_l20Ok _ _ _ es _ hmax h).mono ?_; rintro e w1 ⟨rfl, hb1⟩; rw [k1'])
    go_ret
    exact ⟨rfl, hb1⟩
theorem impl_billsCode (A : Option Addr) (n c : Nat) (es : List Q4) (owner x : Int) (w : World) (hmax : n ≤ 1048576) (h : Sl w w.heap.size 4 Q4.cells A n es) :
    Calls Try.prog 50 #[.slice A n c, .int .i64 owner, .int .i64 x] w fun e w' => e = .returned (.int .i64 (billCode es owner x 1000000000)) ∧ Below w.heap.size w w' := by
  by_cases k1 : billsOk es = true
  · by_cases k2 : inR owner 0 39 = true
    · by_cases k3 : inR x 0 1000000000 = true
      · have hc : billCode es owner x 1000000000 = 0 := billCode_zero.2 ⟨k1, k2, k3⟩
        rw [hc]
        go_enter Try.func50, Try.ntmps50
        go_wp2_with (first
          | (go_at_call 20; refine (impl_ValidBills _ _ _ es _ hmax h).mono ?_; rintro e w1 ⟨rfl, hb1⟩; rw [k1])
          | (go_at_call 61; refine (impl_isOwner _ _).mono ?_; rintro e w' ⟨rfl, rfl⟩; rw [k2])
          | (go_at_call 63; refine (impl_isShared _ _).mono ?_; rintro e w' ⟨rfl, rfl⟩; rw [k3]))
        go_ret
        exact ⟨rfl, hb1⟩
      · have k3' : inR x 0 1000000000 = false := by simpa using k3
        have hc : billCode es owner x 1000000000 = 2 := by simp [billCode, k1, k2, k3]
        rw [hc]
        go_enter Try.func50, Try.ntmps50
        go_wp2_with (first
          | (go_at_call 20; refine (impl_ValidBills _ _ _ es _ hmax h).mono ?_; rintro e w1 ⟨rfl, hb1⟩; rw [k1])
          | (go_at_call 61; refine (impl_isOwner _ _).mono ?_; rintro e w' ⟨rfl, rfl⟩; rw [k2])
          | (go_at_call 63; refine (impl_isShared _ _).mono ?_; rintro e w' ⟨rfl, rfl⟩; rw [k3']))
        go_ret
        exact ⟨rfl, hb1⟩
    · have k2' : inR owner 0 39 = false := by simpa using k2
      have hc : billCode es owner x 1000000000 = 2 := by simp [billCode, k1, k2]
      rw [hc]
      go_enter Try.func50, Try.ntmps50
      go_wp2_with (first
        | (go_at_call 20; refine (impl_ValidBills _ _ _ es _ hmax h).mono ?_; rintro e w1 ⟨rfl, hb1⟩; rw [k1])
        | (go_at_call 61; refine (impl_isOwner _ _).mono ?_; rintro e w' ⟨rfl, rfl⟩; rw [k2']))
      go_ret
      exact ⟨rfl, hb1⟩
  · have k1' : billsOk es = false := by simpa using k1
    have hc : billCode es owner x 1000000000 = 1 := by simp [billCode, k1]
    rw [hc]
    go_enter Try.func50, Try.ntmps50
    go_wp2_with (go_at_call 20; refine (impl_ValidBills _ _ _ es _ hmax h).mono ?_; rintro e w1 ⟨rfl, hb1⟩; rw [k1'])
    go_ret
    exact ⟨rfl, hb1⟩
def openF (owner : Int) (q : Q4) : Int := if q.a = owner then q.c - q.d else 0
theorem openF_bd {es : List Q4} (h : billsOk es = true) (owner : Int) (k : Nat) : 0 ≤ sumBy (openF owner) (es.take k) ∧ sumBy (openF owner) (es.take k) ≤ 100000000000 := by
  obtain ⟨h1, h2⟩ := bills_all h
  obtain ⟨a, b⟩ := sumBy_bound (f := openF owner) (es := es) (B := 1000000000) (fun e he => by
    obtain ⟨_, _, ⟨c1, c2⟩, d1, d2⟩ := billOk_iff.1 (h2 e he)
    unfold openF
    split <;> omega) k
  have : (es.take k).length ≤ 100 := by rw [List.length_take]; omega
  omega
set_option maxHeartbeats 400000 in
theorem spec_l20Open (A : Option Addr) (n c : Nat) (es : List Q4) (owner : Int) (w : World) (hmax : n ≤ 1048576) (hok : billsOk es = true) (h : Sl w w.heap.size 4 Q4.cells A n es) :
    Calls Try.prog 49 #[.slice A n c, .int .i64 owner] w fun e w' => e = .returned (.int .i64 (sumBy (openF owner) es)) ∧ Below w.heap.size w w' := by
  have Hn := Lib.hid h.len
  have Hok := Lib.hid hok
  clear hok
  go_enter Try.func49, Try.ntmps49
  go_wp2
  go_loopw [5, 6] (fun sm i wr => ∃ (k : Nat) (s : Int), k ≤ n ∧ i = .int .i64 k ∧ sm = .int .i64 s ∧ Hid (s = sumBy (openF owner) (es.take k)) ∧ Below w.heap.size w wr) (fun _ i _ => n - (intOf i).toNat)
  case atStart => exact ⟨0, 0, by omega, rfl, rfl, Lib.hid rfl, Below.refl _ _⟩
  case round =>
    obtain ⟨k, s, hk, rfl, rfl, Hs, hbel⟩ := hrel
    by_cases hlt : k < n
    · obtain ⟨b, off, rfl, hb, H⟩ := h.at_ (by omega)
      obtain ⟨e, he⟩ := h.get hlt
      obtain ⟨c0, _, _, _⟩ := (H.below hbel hb).q4 he
      obtain ⟨_, _, d2, d3⟩ := (H.below hbel hb).q4c (Nat.lt_of_lt_of_le hb hbel.size) he
      obtain ⟨_, _, ⟨e1, e2⟩, e3, e4⟩ := billOk_iff.1 ((bills_all Hok.out).2 e (List.mem_of_getElem? he))
      have hbd := openF_bd Hok.out owner k
      rw [← Hs.out] at hbd
      obtain ⟨s1, s2⟩ := hbd
      have He := Lib.hid he
      clear he
      go_wp2
      · have hown : (e.a == owner) = true := by assumption
        refine wp_region_quiet_below (by kernel_rfl) (by kernel_rfl) ?_
        repeat (go_big_quiet_step (fail))
        refine wpQuiet_nil ?_
        intro wq hwq
        have hbq := below_then hbel (below_of_class hwq)
        clear hwq c0 d2 d3
        go_wp2
        go_roundw
        case rel => exact ⟨k + 1, _, by omega, by go_num, rfl, Lib.hid (by rw [sumBy_succ He.out, ← Hs.out, openF, if_pos (by simpa using hown)]), hbq⟩
        case measure => simp [intOf]; omega
      · have hown : (e.a == owner) = false := by assumption
        go_roundw
        case rel => exact ⟨k + 1, _, by omega, by go_num, rfl, Lib.hid (by rw [sumBy_succ He.out, ← Hs.out, openF, if_neg (by simpa using hown)]; omega), hbel⟩
        case measure => simp [intOf]; omega
    · go_wp2
      go_ret
      have hkn : k = n := by omega
      subst hkn
      exact ⟨ret_int (by rw [Hs.out, List.take_of_length_le (by rw [Hn.out]; omega)]), hbel⟩
set_option maxHeartbeats 400000 in
theorem impl_openOf (A : Option Addr) (n c : Nat) (es : List Q4) (owner : Int) (w : World) (hmax : n ≤ 1048576) (hok : billsOk es = true) (h : Sl w w.heap.size 4 Q4.cells A n es) :
    Calls Try.prog 51 #[.slice A n c, .int .i64 owner] w fun e w' => e = .returned (.int .i64 (sumBy (openF owner) es)) ∧ Below w.heap.size w w' := by
  have Hn := Lib.hid h.len
  have Hok := Lib.hid hok
  clear hok
  go_enter Try.func51, Try.ntmps51
  go_wp2
  go_loopw [5, 10] (fun sm i wr => ∃ (k : Nat) (s : Int), k ≤ n ∧ i = .int .i64 k ∧ sm = .int .i64 s ∧ Hid (s = sumBy (openF owner) (es.take k)) ∧ Below w.heap.size w wr) (fun _ i _ => n - (intOf i).toNat)
  case atStart => exact ⟨0, 0, by omega, rfl, rfl, Lib.hid rfl, Below.refl _ _⟩
  case round =>
    obtain ⟨k, s, hk, rfl, rfl, Hs, hbel⟩ := hrel
    by_cases hlt : k < n
    · obtain ⟨b, off, rfl, hb, H⟩ := h.at_ (by omega)
      obtain ⟨e, he⟩ := h.get hlt
      obtain ⟨c0, c1, c2, c3⟩ := (H.below hbel hb).q4 he
      obtain ⟨_, _, ⟨e1, e2⟩, e3, e4⟩ := billOk_iff.1 ((bills_all Hok.out).2 e (List.mem_of_getElem? he))
      have hbd := openF_bd Hok.out owner k
      rw [← Hs.out] at hbd
      obtain ⟨s1, s2⟩ := hbd
      have He := Lib.hid he
      clear he
      go_wp2_with (go_at_call 42; refine (Bill_open e _ e3 e2 e4).mono ?_; rintro e' w1 ⟨rfl, hb1⟩; have hb2 := below_then (below_al hbel _) hb1)
      · have hown : (e.a == owner) = true := by assumption
        go_roundw
        case rel => exact ⟨k + 1, _, by omega, by go_num, rfl, Lib.hid (by rw [sumBy_succ He.out, ← Hs.out, openF, if_pos (by simpa using hown)]), hb2⟩
        case measure => simp [intOf]; omega
      · have hown : (e.a == owner) = false := by assumption
        go_roundw
        case rel => exact ⟨k + 1, _, by omega, by go_num, rfl, Lib.hid (by rw [sumBy_succ He.out, ← Hs.out, openF, if_neg (by simpa using hown)]; omega), below_al hbel _⟩
        case measure => simp [intOf]; omega
    · go_wp2
      go_ret
      have hkn : k = n := by omega
      subst hkn
      exact ⟨ret_int (by rw [Hs.out, List.take_of_length_le (by rw [Hn.out]; omega)]), hbel⟩
def openRes (es : List Q4) (owner : Int) : Int × Int := if billCode es owner 0 0 = 0 then (sumBy (openF owner) es, 0) else (0, billCode es owner 0 0)
theorem spec_OpenOf (A : Option Addr) (n c : Nat) (es : List Q4) (owner : Int) (w : World) (hmax : n ≤ 1048576) (h : Sl w w.heap.size 4 Q4.cells A n es) :
    Calls Try.prog 21 #[.slice A n c, .int .i64 owner] w fun e w' => e = .returned (.tuple #[.int .i64 (openRes es owner).1, .int .i64 (openRes es owner).2]) ∧ Below w.heap.size w w' := by
  by_cases k1 : billCode es owner 0 0 = 0
  · have hr : openRes es owner = (sumBy (openF owner) es, 0) := by simp [openRes, k1]
    rw [hr]
    go_enter Try.func21, Try.ntmps21
    go_wp2_with (first
      | (go_at_call 48; refine (spec_l20Code _ _ _ es _ _ _ _ hmax h).mono ?_; rintro e w1 ⟨rfl, hb1⟩; rw [k1])
      | (go_at_call 49; refine (spec_l20Open _ _ _ es _ _ hmax (billCode_zero.1 k1).1 (h.on hb1)).mono ?_; rintro e w2 ⟨rfl, hb2⟩))
    go_ret2
    exact ⟨rfl, below_then hb1 hb2⟩
  · have hr : openRes es owner = (0, billCode es owner 0 0) := by simp [openRes, k1]
    rw [hr]
    have hne : (billCode es owner 0 0 != 0) = true := by simpa using k1
    go_enter Try.func21, Try.ntmps21
    go_wp2_with (go_at_call 48; refine (spec_l20Code _ _ _ es _ _ _ _ hmax h).mono ?_; rintro e w1 ⟨rfl, hb1⟩)
    go_ret2
    exact ⟨rfl, hb1⟩
theorem impl_OpenOf (A : Option Addr) (n c : Nat) (es : List Q4) (owner : Int) (w : World) (hmax : n ≤ 1048576) (h : Sl w w.heap.size 4 Q4.cells A n es) :
    Calls Try.prog 22 #[.slice A n c, .int .i64 owner] w fun e w' => e = .returned (.tuple #[.int .i64 (openRes es owner).1, .int .i64 (openRes es owner).2]) ∧ Below w.heap.size w w' := by
  by_cases k1 : billCode es owner 0 0 = 0
  · have hr : openRes es owner = (sumBy (openF owner) es, 0) := by simp [openRes, k1]
    rw [hr]
    go_enter Try.func22, Try.ntmps22
    go_wp2_with (first
      | (go_at_call 50; refine (impl_billsCode _ _ _ es _ _ _ hmax h).mono ?_; rintro e w1 ⟨rfl, hb1⟩; rw [billCode_same, k1])
      | (go_at_call 51; refine (impl_openOf _ _ _ es _ _ hmax (billCode_zero.1 k1).1 (h.on hb1)).mono ?_; rintro e w2 ⟨rfl, hb2⟩))
    go_ret2
    exact ⟨rfl, below_then hb1 hb2⟩
  · have hr : openRes es owner = (0, billCode es owner 0 0) := by simp [openRes, k1]
    rw [hr]
    have hne : (billCode es owner 0 0 != 0) = true := by simpa using k1
    go_enter Try.func22, Try.ntmps22
    go_wp2_with (go_at_call 50; refine (impl_billsCode _ _ _ es _ _ _ hmax h).mono ?_; rintro e w1 ⟨rfl, hb1⟩; rw [billCode_same])
    go_ret2
    exact ⟨rfl, hb1⟩
def debtorTo (es : List Q4) : Nat → Int × Int
  | 0 => (0, 0)
  | k + 1 => if (debtorTo es k).2 < sumBy (openF k) es then ((k : Int), sumBy (openF k) es) else debtorTo es k
def debtor (es : List Q4) : Int × Int × Int := if billsOk es = false then (0, 0, 1) else if (debtorTo es 40).2 = 0 then (0, 0, 3) else ((debtorTo es 40).1, (debtorTo es 40).2, 0)
set_option maxHeartbeats 400000 in
theorem spec_GreatestDebtor (A : Option Addr) (n c : Nat) (es : List Q4) (w : World) (hmax : n ≤ 1048576) (h : Sl w w.heap.size 4 Q4.cells A n es) :
    Calls Try.prog 23 #[.slice A n c] w fun e w' => e = .returned (.tuple #[.int .i64 (debtor es).1, .int .i64 (debtor es).2.1, .int .i64 (debtor es).2.2]) ∧ Below w.heap.size w w' := by
  by_cases k1 : billsOk es = true
  · have Hk := Lib.hid k1
    go_enter Try.func23, Try.ntmps23
    go_wp2_with (go_at_call 46; refine (spec_l20Ok _ _ _ es _ hmax h).mono ?_; rintro e w1 ⟨rfl, hb1⟩; rw [k1])
    clear k1
    go_loopw [5, 6, 7] (fun bs ms i wr => ∃ (k : Nat) (p q : Int), k ≤ 40 ∧ i = .int .i64 k ∧ bs = .int .i64 p ∧ ms = .int .i64 q ∧ Hid (debtorTo es k = (p, q)) ∧ Below w.heap.size w wr) (fun _ _ i _ => 40 - (intOf i).toNat)
    case atStart => exact ⟨0, 0, 0, by omega, rfl, rfl, rfl, Lib.hid rfl, hb1⟩
    case round =>
      obtain ⟨k, p, q, hk, rfl, rfl, rfl, Hd, hbel⟩ := hrel
      by_cases hlt : k < 40
      · obtain ⟨s, hs⟩ : ∃ s, s = sumBy (openF k) es := ⟨_, rfl⟩
        have Hs := Lib.hid hs
        go_wp2_with (go_at_call 49; refine (spec_l20Open _ _ _ es _ _ hmax Hk.out (h.on hbel)).mono ?_; rintro e w2 ⟨rfl, hb2⟩; rw [← hs]; clear hs)
        · have hgt : q < s := by assumption
          go_roundw
          case rel => exact ⟨k + 1, k, s, by omega, by go_num, rfl, rfl, Lib.hid (by rw [debtorTo, Hd.out, ← Hs.out, if_pos hgt]), below_then hbel hb2⟩
          case measure => simp [intOf]; omega
        · have hgt : ¬ q < s := by omega
          go_roundw
          case rel => exact ⟨k + 1, p, q, by omega, by go_num, rfl, rfl, Lib.hid (by rw [debtorTo, Hd.out, ← Hs.out, if_neg hgt]), below_then hbel hb2⟩
          case measure => simp [intOf]; omega
      · have hkn : k = 40 := by omega
        subst hkn
        go_wp2
        · have hz : (q == 0) = true := by assumption
          have hq : q = 0 := by simpa using hz
          go_ret3
          have hr : debtor es = (0, 0, 3) := by simp [debtor, Hk.out, Hd.out, hq]
          exact ⟨by rw [hr]; rfl, hbel⟩
        · have hz : (q == 0) = false := by assumption
          have hq : q ≠ 0 := by simpa using hz
          go_ret3
          have hr : debtor es = (p, q, 0) := by simp [debtor, Hk.out, Hd.out, hq]
          exact ⟨by rw [hr]; rfl, hbel⟩
  · have k1' : billsOk es = false := by simpa using k1
    have hr : debtor es = (0, 0, 1) := by simp [debtor, k1]
    rw [hr]
    go_enter Try.func23, Try.ntmps23
    go_wp2_with (go_at_call 46; refine (spec_l20Ok _ _ _ es _ hmax h).mono ?_; rintro e w1 ⟨rfl, hb1⟩; rw [k1'])
    go_ret3
    exact ⟨rfl, hb1⟩
set_option maxHeartbeats 400000 in
theorem impl_GreatestDebtor (A : Option Addr) (n c : Nat) (es : List Q4) (w : World) (hmax : n ≤ 1048576) (h : Sl w w.heap.size 4 Q4.cells A n es) :
    Calls Try.prog 24 #[.slice A n c] w fun e w' => e = .returned (.tuple #[.int .i64 (debtor es).1, .int .i64 (debtor es).2.1, .int .i64 (debtor es).2.2]) ∧ Below w.heap.size w w' := by
  by_cases k1 : billsOk es = true
  · have Hk := Lib.hid k1
    go_enter Try.func24, Try.ntmps24
    go_wp2_with (go_at_call 20; refine (impl_ValidBills _ _ _ es _ hmax h).mono ?_; rintro e w1 ⟨rfl, hb1⟩; rw [k1])
    clear k1
    go_loopw [5, 6, 7] (fun bs ms i wr => ∃ (k : Nat) (p q : Int), k ≤ 40 ∧ i = .int .i64 k ∧ bs = .int .i64 p ∧ ms = .int .i64 q ∧ Hid (debtorTo es k = (p, q)) ∧ Below w.heap.size w wr) (fun _ _ i _ => 40 - (intOf i).toNat)
    case atStart => exact ⟨0, 0, 0, by omega, rfl, rfl, rfl, Lib.hid rfl, hb1⟩
    case round =>
      obtain ⟨k, p, q, hk, rfl, rfl, rfl, Hd, hbel⟩ := hrel
      by_cases hlt : k < 40
      · obtain ⟨s, hs⟩ : ∃ s, s = sumBy (openF k) es := ⟨_, rfl⟩
        have Hs := Lib.hid hs
        go_wp2_with (go_at_call 51; refine (impl_openOf _ _ _ es _ _ hmax Hk.out (h.on hbel)).mono ?_; rintro e w2 ⟨rfl, hb2⟩; rw [← hs]; clear hs)
        · have hgt : q < s := by assumption
          go_roundw
          case rel => exact ⟨k + 1, k, s, by omega, by go_num, rfl, rfl, Lib.hid (by rw [debtorTo, Hd.out, ← Hs.out, if_pos hgt]), below_then hbel hb2⟩
          case measure => simp [intOf]; omega
        · have hgt : ¬ q < s := by omega
          go_roundw
          case rel => exact ⟨k + 1, p, q, by omega, by go_num, rfl, rfl, Lib.hid (by rw [debtorTo, Hd.out, ← Hs.out, if_neg hgt]), below_then hbel hb2⟩
          case measure => simp [intOf]; omega
      · have hkn : k = 40 := by omega
        subst hkn
        go_wp2
        · have hz : (q == 0) = true := by assumption
          have hq : q = 0 := by simpa using hz
          go_ret3
          have hr : debtor es = (0, 0, 3) := by simp [debtor, Hk.out, Hd.out, hq]
          exact ⟨by rw [hr]; rfl, hbel⟩
        · have hz : (q == 0) = false := by assumption
          have hq : q ≠ 0 := by simpa using hz
          go_ret3
          have hr : debtor es = (p, q, 0) := by simp [debtor, Hk.out, Hd.out, hq]
          exact ⟨by rw [hr]; rfl, hbel⟩
  · have k1' : billsOk es = false := by simpa using k1
    have hr : debtor es = (0, 0, 1) := by simp [debtor, k1]
    rw [hr]
    go_enter Try.func24, Try.ntmps24
    go_wp2_with (go_at_call 20; refine (impl_ValidBills _ _ _ es _ hmax h).mono ?_; rintro e w1 ⟨rfl, hb1⟩; rw [k1'])
    go_ret3
    exact ⟨rfl, hb1⟩

end Go.Proofs.Ytgakpcepjhbhjaa

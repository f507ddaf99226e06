/- Walks over functions of this seat, by contract. Conditions: those that each theorem states. -/
import Derived.Test.YtgakpcepjhbhjaaTq
import Derived.Test.YtgakpcepjhbhjaaTi
namespace Go.Proofs.Ytgakpcepjhbhjaa
open Go.RowKit Go.Sort

def billOk (q : Q4) : Bool := inR q.a 0 39 && inR q.b 0 100000 && inR q.c 0 1000000000 && inR q.d 0 q.c
def dayLe (p q : Q4) : Bool := decide (p.b ≤ q.b)
def billsOk (es : List Q4) : Bool := okList billOk dayLe es && decide (es.length ≤ 100)
theorem billOk_iff {q : Q4} : billOk q = true ↔ (0 ≤ q.a ∧ q.a ≤ 39) ∧ (0 ≤ q.b ∧ q.b ≤ 100000) ∧ (0 ≤ q.c ∧ q.c ≤ 1000000000) ∧ 0 ≤ q.d ∧ q.d ≤ q.c := by
  simp [billOk, inR_iff, and_assoc]
theorem billsOk_iff {es : List Q4} : billsOk es = true ↔ okList billOk dayLe es = true ∧ es.length ≤ 100 := by simp [billsOk]
theorem spec_l20One (q : Q4) (w : World) : Calls Try.prog 36 #[.agg #[.int .i64 q.a, .int .i64 q.b, .int .i64 q.c, .int .i64 q.d]] w fun e w' => e = .returned (.bool (billOk q)) ∧ Below w.heap.size w w' := by
  go_enter Try.func36, Try.ntmps36
  go_wp2_with (first
    | (go_at_call 58; refine (spec_l20Owner _ _).mono ?_; rintro e w' ⟨rfl, rfl⟩)
    | (go_at_call 59; refine (spec_l02Day _ _).mono ?_; rintro e w' ⟨rfl, rfl⟩)
    | (go_at_call 60; refine (spec_l00In _ _ _ _).mono ?_; rintro e w' ⟨rfl, rfl⟩))
  all_goals (go_ret; exact ⟨ret_bool (by simp_all [billOk]), below_al (Below.refl _ _) _⟩)
theorem spec_l20One_at (q : Q4) (r : Bool) (h : billOk q = r) (w : World) : Calls Try.prog 36 #[.agg #[.int .i64 q.a, .int .i64 q.b, .int .i64 q.c, .int .i64 q.d]] w fun e w' => e = .returned (.bool r) ∧ Below w.heap.size w w' := h ▸ spec_l20One q w
theorem impl_isBill (q : Q4) (w : World) : Calls Try.prog 39 #[.agg #[.int .i64 q.a, .int .i64 q.b, .int .i64 q.c, .int .i64 q.d]] w fun e w' => e = .returned (.bool (billOk q)) ∧ Below w.heap.size w w' := by
  go_enter Try.func39, Try.ntmps39
  go_wp2_with (first
    | (go_at_call 61; refine (impl_isOwner _ _).mono ?_; rintro e w' ⟨rfl, rfl⟩)
    | (go_at_call 62; refine (impl_ValidDay _ _).mono ?_; rintro e w' ⟨rfl, rfl⟩)
    | (go_at_call 63; refine (impl_isShared _ _).mono ?_; rintro e w' ⟨rfl, rfl⟩)
    | (go_at_call 55; refine (impl_in _ _ _ _).mono ?_; rintro e w' ⟨rfl, rfl⟩))
  all_goals (go_ret; exact ⟨ret_bool (by simp_all [billOk]), below_al (Below.refl _ _) _⟩)
set_option maxHeartbeats 400000 in
theorem spec_l20Ok (A : Option Addr) (n c : Nat) (es : List Q4) (w : World) (hmax : n ≤ 1048576) (h : Sl w w.heap.size 4 Q4.cells A n es) :
    Calls Try.prog 46 #[.slice A n c] w fun e w' => e = .returned (.bool (billsOk es)) ∧ Below w.heap.size w w' := by
  have Hn := Lib.hid h.len
  go_enter Try.func46, Try.ntmps46
  go_wp2
  go_loopw [3] (fun i wr => ∃ k : Nat, k ≤ n ∧ i = .int .i64 k ∧ okTo billOk dayLe es k ∧ Below w.heap.size w wr) (fun i _ => n - (intOf i).toNat)
  case atStart => exact ⟨0, by omega, rfl, okTo_zero, Below.refl _ _⟩
  case round =>
    obtain ⟨k, hk, rfl, hgood, hbel⟩ := hrel
    have Hgood := Lib.hid hgood
    clear hgood
    by_cases hlt : k < n
    · obtain ⟨b, off, rfl, hb, H⟩ := h.at_ (by omega)
      obtain ⟨e, he⟩ := h.get hlt
      obtain ⟨c0, c1, c2, c3⟩ := (H.below hbel hb).q4c (Nat.lt_of_lt_of_le hb hbel.size) he
      have He := Lib.hid he
      clear he
      go_wp2
      by_cases hok : billOk e = true
      · by_cases hk0 : 0 < k
        · obtain ⟨e', he'⟩ := h.get (k := k - 1) (by omega)
          obtain ⟨_, d1, _, _⟩ := (H.below hbel hb).q4c (Nat.lt_of_lt_of_le hb hbel.size) he'
          have He' := Lib.hid he'
          clear he'
          refine wp_region_quiet_below (by kernel_rfl) (by kernel_rfl) ?_
          repeat (go_big_quiet_step (exact Calls.regrown_of (spec_l20One_at e true hok _)))
          refine wpQuiet_nil ?_
          intro wq hwq
          have hbq := below_then hbel (below_of_class hwq)
          clear hwq c0 c1 c2 c3 d1
          go_wp2
          · go_ret
            have : e.b < e'.b := by assumption
            have hk1 : k - 1 + 1 = k := by omega
            exact ⟨ret_bool (by rw [billsOk, okList_no2 (k := k - 1) He'.out (by rw [hk1]; exact He.out) (by simp [dayLe]; omega)]; rfl), hbq⟩
          · have : e'.b ≤ e.b := by omega
            go_roundw
            case rel =>
              exact ⟨k + 1, by omega, by go_num, okTo_succ Hgood.out He.out hok (fun x _ hx => by rw [He'.out] at hx; injection hx with hx; subst hx; simp [dayLe]; omega), hbq⟩
            case measure => simp [intOf]; omega
        · refine wp_region_quiet_below (by kernel_rfl) (by kernel_rfl) ?_
          repeat (go_big_quiet_step (exact Calls.regrown_of (spec_l20One_at e true hok _)))
          refine wpQuiet_nil ?_
          intro wq hwq
          have hbq := below_then hbel (below_of_class hwq)
          clear hwq c0 c1 c2 c3
          go_wp2
          go_roundw
          case rel => exact ⟨k + 1, by omega, by go_num, okTo_succ Hgood.out He.out hok (fun x h0 _ => absurd h0 hk0), hbq⟩
          case measure => simp [intOf]; omega
      · have hok' : billOk e = false := by simpa using hok
        refine wp_region_quiet_below (by kernel_rfl) (by kernel_rfl) ?_
        repeat (go_big_quiet_step (exact Calls.regrown_of (spec_l20One_at e false hok' _)))
        refine wpQuiet_nil ?_
        intro wq hwq
        have hbq := below_then hbel (below_of_class hwq)
        clear hwq c0 c1 c2 c3
        go_wp2
        go_ret
        exact ⟨ret_bool (by rw [billsOk, okList_no1 He.out hok']; rfl), hbq⟩
    · go_wp2
      go_ret
      have hkn : k = n := by omega
      subst hkn
      exact ⟨ret_bool (by rw [billsOk, okTo_all Hgood.out Hn.out, Hn.out]; simp; omega), hbel⟩
theorem spec_ValidBills (A : Option Addr) (n c : Nat) (es : List Q4) (w : World) (hmax : n ≤ 1048576) (h : Sl w w.heap.size 4 Q4.cells A n es) :
    Calls Try.prog 19 #[.slice A n c] w fun e w' => e = .returned (.bool (billsOk es)) ∧ Below w.heap.size w w' := by
  go_enter Try.func19, Try.ntmps19
  go_wp2_with (go_at_call 46; refine (spec_l20Ok _ _ _ es _ hmax h).mono ?_; rintro e w' ⟨rfl, hb⟩)
  go_ret
  exact ⟨rfl, hb⟩
set_option maxHeartbeats 400000 in
theorem impl_all_Bill (A : Option Addr) (n c : Nat) (es : List Q4) (w : World) (hmax : n ≤ 1048576) (h : Sl w w.heap.size 4 Q4.cells A n es) :
    Calls Try.prog 47 #[.slice A n c, .func (.func 39) #[] #[]] w fun e w' => e = .returned (.bool (es.all billOk)) ∧ Below w.heap.size w w' := by
  have Hn := Lib.hid h.len
  go_enter Try.func47, Try.ntmps47
  go_wp2
  go_loopw [9] (fun i wr => ∃ k : Nat, k ≤ n ∧ i = .int .i64 k ∧ (∀ j e, j < k → es[j]? = some e → billOk e = true) ∧ Below w.heap.size w wr) (fun i _ => n - (intOf i).toNat)
  case atStart => exact ⟨0, by omega, rfl, fun j e hj => by omega, Below.refl _ _⟩
  case round =>
    obtain ⟨k, hk, rfl, hgood, hbel⟩ := hrel
    have Hgood := Lib.hid hgood
    clear hgood
    by_cases hlt : k < n
    · obtain ⟨b, off, rfl, hb, H⟩ := h.at_ (by omega)
      obtain ⟨e, he⟩ := h.get hlt
      obtain ⟨c0, c1, c2, c3⟩ := (H.below hbel hb).q4 he
      have He := Lib.hid he
      clear he
      go_wp2_with (go_at_call 39; refine (impl_isBill e _).mono ?_; rintro e' w' ⟨rfl, hb1⟩; have hb2 := below_then (below_al hbel _) hb1)
      · have hne : (!billOk e) = true := by assumption
        go_ret
        exact ⟨ret_bool (by rw [all_no He.out (by simpa using hne)]), hb2⟩
      · have heq : (!billOk e) = false := by assumption
        go_roundw
        case rel => exact ⟨k + 1, by omega, by go_num, fun j x hj hx => if h1 : j < k then Hgood.out j x h1 hx else by
          have : j = k := by omega
          subst this; rw [He.out] at hx; injection hx with hx; subst hx; simpa using heq, hb2⟩
        case measure => simp [intOf]; omega
    · go_wp2
      go_ret
      have hkn : k = n := by omega
      subst hkn
      exact ⟨ret_bool (by symm; rw [all_iff_get]; exact fun j x hx => Hgood.out j x (by rw [← Hn.out]; exact (List.getElem?_eq_some_iff.1 hx).1) hx), hbel⟩
set_option maxHeartbeats 400000 in
theorem impl_ValidBills (A : Option Addr) (n c : Nat) (es : List Q4) (w : World) (hmax : n ≤ 1048576) (h : Sl w w.heap.size 4 Q4.cells A n es) :
    Calls Try.prog 20 #[.slice A n c] w fun e w' => e = .returned (.bool (billsOk es)) ∧ Below w.heap.size w w' := by
  have Hn := Lib.hid h.len
  go_enter Try.func20, Try.ntmps20
  go_wp2
  go_loopw [3] (fun i wr => ∃ k : Nat, 1 ≤ k ∧ (k ≤ n ∨ k = 1) ∧ i = .int .i64 k ∧ (∀ j e e', j + 1 < k → es[j]? = some e → es[j+1]? = some e' → dayLe e e' = true) ∧ Below w.heap.size w wr) (fun i _ => n - (intOf i).toNat)
  case atStart => exact ⟨1, by omega, by omega, rfl, fun j e e' hj => by omega, Below.refl _ _⟩
  case round =>
    obtain ⟨k, hk1, hk, rfl, hgood, hbel⟩ := hrel
    have Hgood := Lib.hid hgood
    clear hgood
    by_cases hlt : k < n
    · obtain ⟨b, off, rfl, hb, H⟩ := h.at_ (by omega)
      obtain ⟨e, he⟩ := h.get hlt
      obtain ⟨_, c1, _, _⟩ := (H.below hbel hb).q4c (Nat.lt_of_lt_of_le hb hbel.size) he
      obtain ⟨e', he'⟩ := h.get (k := k - 1) (by omega)
      obtain ⟨_, d1, _, _⟩ := (H.below hbel hb).q4c (Nat.lt_of_lt_of_le hb hbel.size) he'
      have He := Lib.hid he
      have He' := Lib.hid he'
      clear he he' hk
      go_wp2
      refine wp_region_quiet_below (by kernel_rfl) (by kernel_rfl) ?_
      repeat (go_big_quiet_step (fail))
      refine wpQuiet_nil ?_
      intro wq hwq
      have hbq := below_then hbel (below_of_class hwq)
      clear hwq c1 d1
      go_wp2
      · go_ret
        have : e.b < e'.b := by assumption
        have hk2 : k - 1 + 1 = k := by omega
        exact ⟨ret_bool (by rw [billsOk, okList_no2 (k := k - 1) He'.out (by rw [hk2]; exact He.out) (by simp [dayLe]; omega)]; rfl), hbq⟩
      · have : e'.b ≤ e.b := by omega
        go_roundw
        case rel =>
          refine ⟨k + 1, by omega, by omega, by go_num, fun j x x' hj hx hx' => ?_, hbq⟩
          rcases Nat.lt_or_ge (j + 1) k with h1 | h1
          · exact Hgood.out j x x' h1 hx hx'
          · have : j = k - 1 := by omega
            subst this
            have hk2 : k - 1 + 1 = k := by omega
            rw [He'.out] at hx; rw [hk2, He.out] at hx'
            injection hx with hx; injection hx' with hx'
            subst hx; subst hx'; simp [dayLe]; omega
        case measure => simp [intOf]; omega
    · clear hk
      go_wp2_with (go_at_call 47; refine (impl_all_Bill _ _ _ es _ hmax (h.on hbel)).mono ?_; rintro e' w' ⟨rfl, hb1⟩)
      all_goals
        have hpair : okList billOk dayLe es = es.all billOk := okList_all fun j x x' hx hx' =>
          Hgood.out j x x' (by have := (List.getElem?_eq_some_iff.1 hx').1; have := Hn.out; omega) hx hx'
        go_ret
        refine ⟨ret_bool ?_, by first | exact hbel | exact below_then hbel hb1⟩
        rw [billsOk, hpair, Hn.out]
        have hd : decide (n ≤ 100) = true ∨ decide (n ≤ 100) = false := by cases decide (n ≤ 100) <;> simp
        first
          | (have : n ≤ 100 := by omega
             simp [this])
          | (have : ¬ n ≤ 100 := by omega
             simp [this])

end Go.Proofs.Ytgakpcepjhbhjaa

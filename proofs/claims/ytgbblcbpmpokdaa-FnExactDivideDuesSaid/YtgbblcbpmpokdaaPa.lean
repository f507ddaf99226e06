/- Walks over functions of this seat, by contract. Conditions: those that each theorem states. -/
import Derived.Test.YtgbblcbpmpokdaaTq
import Derived.Test.YtgbblcbpmpokdaaTi
namespace Go.Proofs.Ytgbblcbpmpokdaa
open Go.RowKit Go.Sort

def parcelOk (q : Q4) : Bool := inR q.a 1 9999 && inR q.b 0 39 && inR q.c 1 10000000 && inR q.d 0 3
def idLt (p q : Q4) : Bool := decide (p.a < q.a)
def parcelsOk (es : List Q4) : Bool := okList parcelOk idLt es && decide (es.length ≤ 60)
theorem parcelOk_iff {q : Q4} : parcelOk q = true ↔ (1 ≤ q.a ∧ q.a ≤ 9999) ∧ (0 ≤ q.b ∧ q.b ≤ 39) ∧ (1 ≤ q.c ∧ q.c ≤ 10000000) ∧ 0 ≤ q.d ∧ q.d ≤ 3 := by
  simp [parcelOk, inR_iff, and_assoc]
theorem parcelsOk_iff {es : List Q4} : parcelsOk es = true ↔ okList parcelOk idLt es = true ∧ es.length ≤ 60 := by simp [parcelsOk]
theorem parcels_all {es : List Q4} (h : parcelsOk es = true) : es.length ≤ 60 ∧ ∀ e ∈ es, parcelOk e = true := by
  obtain ⟨h1, h2⟩ := parcelsOk_iff.1 h
  refine ⟨h2, fun e he => ?_⟩
  obtain ⟨k, hk, rfl⟩ := List.mem_iff_getElem.1 he
  exact (okList_iff.1 h1).1 k _ (List.getElem?_eq_getElem hk)
theorem spec_l19One (b o : Nat) (q : Q4) (w : World) (c0 : w.cell? ⟨b, o, none⟩ = some (.int .i64 q.a)) (c1 : w.cell? ⟨b, o + 1, none⟩ = some (.int .i64 q.b)) (c2 : w.cell? ⟨b, o + 2, none⟩ = some (.int .i64 q.c)) (c3 : w.cell? ⟨b, o + 3, none⟩ = some (.int .i64 q.d)) :
    Calls Try.prog 105 #[.pointer (some ⟨b, o, none⟩)] w fun e w' => e = .returned (.bool (parcelOk q)) ∧ w = w' := by
  go_enter Try.func105, Try.ntmps105
  go_wp2_with (first
    | (go_at_call 131; refine (spec_l19Id _ _).mono ?_; rintro e w' ⟨rfl, rfl⟩)
    | (go_at_call 132; refine (spec_l19Owner _ _).mono ?_; rintro e w' ⟨rfl, rfl⟩)
    | (go_at_call 38; refine (spec_l00In _ _ _ _).mono ?_; rintro e w' ⟨rfl, rfl⟩))
  all_goals (go_ret; exact ⟨ret_bool (by simp_all [parcelOk]), rfl⟩)
theorem spec_l19One_r (b o : Nat) (q : Q4) (r : Bool) (hr : parcelOk q = r) (w : World) (c0 : w.cell? ⟨b, o, none⟩ = some (.int .i64 q.a)) (c1 : w.cell? ⟨b, o + 1, none⟩ = some (.int .i64 q.b)) (c2 : w.cell? ⟨b, o + 2, none⟩ = some (.int .i64 q.c)) (c3 : w.cell? ⟨b, o + 3, none⟩ = some (.int .i64 q.d)) :
    Calls Try.prog 105 #[.pointer (some ⟨b, o, none⟩)] w fun e w' => e = .returned (.bool r) ∧ Below w.heap.size w w' := by
  subst hr; exact calls_below (spec_l19One b o q w c0 c1 c2 c3)
theorem impl_isParcel (q : Q4) (w : World) : Calls Try.prog 90 #[.agg #[.int .i64 q.a, .int .i64 q.b, .int .i64 q.c, .int .i64 q.d]] w fun e w' => e = .returned (.bool (parcelOk q)) ∧ Below w.heap.size w w' := by
  go_enter Try.func90, Try.ntmps90
  go_wp2_with (first
    | (go_at_call 106; refine (impl_isParcelId _ _).mono ?_; rintro e w' ⟨rfl, rfl⟩)
    | (go_at_call 107; refine (impl_isOwner _ _).mono ?_; rintro e w' ⟨rfl, rfl⟩)
    | (go_at_call 108; refine (impl_isParcelArea _ _).mono ?_; rintro e w' ⟨rfl, rfl⟩)
    | (go_at_call 56; refine (impl_in _ _ _ _).mono ?_; rintro e w' ⟨rfl, rfl⟩))
  all_goals (go_ret; exact ⟨ret_bool (by simp_all [parcelOk]), below_al (Below.refl _ _) _⟩)
set_option maxHeartbeats 400000 in
theorem spec_l19Ok (A : Option Addr) (n c : Nat) (es : List Q4) (w : World) (hmax : n ≤ 1048576) (h : Sl w w.heap.size 4 Q4.cells A n es) :
    Calls Try.prog 88 #[.slice A n c] w fun e w' => e = .returned (.bool (parcelsOk es)) ∧ Below w.heap.size w w' := by
  have Hn := Lib.hid h.len
  go_enter Try.func88, Try.ntmps88
  go_wp2
  go_loopw [3] (fun i wr => ∃ k : Nat, k ≤ n ∧ i = .int .i64 k ∧ okTo parcelOk idLt es k ∧ Below w.heap.size w wr) (fun i _ => n - (intOf i).toNat)
  case atStart => exact ⟨0, by omega, rfl, okTo_zero, Below.refl _ _⟩
  case round =>
    obtain ⟨k, hk, rfl, hgood, hbel⟩ := hrel
    have Hgood := Lib.hid hgood
    clear hgood
    by_cases hlt : k < n
    · obtain ⟨b, off, rfl, hb, H⟩ := h.at_ (by omega)
      obtain ⟨e, he⟩ := h.get hlt
      obtain ⟨c0, c1, c2, c3⟩ := (H.below hbel hb).q4c (Nat.lt_of_lt_of_le hb hbel.size) he
      have He := Lib.hid he
      clear he
      go_wp2
      by_cases hok : parcelOk e = true
      · by_cases hk0 : 0 < k
        · obtain ⟨e', he'⟩ := h.get (k := k - 1) (by omega)
          obtain ⟨d0, _, _, _⟩ := (H.below hbel hb).q4c (Nat.lt_of_lt_of_le hb hbel.size) he'
          have He' := Lib.hid he'
          clear he'
          refine wp_region_quiet_below (by kernel_rfl) (by kernel_rfl) ?_
          repeat (go_big_quiet_step (exact Calls.regrown_of (spec_l19One_r b (off + k * 4) e true hok _ (c0 _ _) (c1 _ _) (c2 _ _) (c3 _ _))))
          refine wpQuiet_nil ?_
          intro wq hwq
          have hbq := below_then hbel (below_of_class hwq)
          clear hwq c0 c1 c2 c3 d0
          go_wp2
          · go_ret
            have : e.a ≤ e'.a := by omega
            have hk1 : k - 1 + 1 = k := by omega
            exact ⟨ret_bool (by rw [parcelsOk, okList_no2 (k := k - 1) He'.out (by rw [hk1]; exact He.out) (by simp [idLt]; omega)]; rfl), hbq⟩
          · have : e'.a < e.a := by omega
            go_roundw
            case rel =>
              exact ⟨k + 1, by omega, by go_num, okTo_succ Hgood.out He.out hok (fun x _ hx => by rw [He'.out] at hx; injection hx with hx; subst hx; simp [idLt]; omega), hbq⟩
            case measure => simp [intOf]; omega
        · refine wp_region_quiet_below (by kernel_rfl) (by kernel_rfl) ?_
          repeat (go_big_quiet_step (exact Calls.regrown_of (spec_l19One_r b (off + k * 4) e true hok _ (c0 _ _) (c1 _ _) (c2 _ _) (c3 _ _))))
          refine wpQuiet_nil ?_
          intro wq hwq
          have hbq := below_then hbel (below_of_class hwq)
          clear hwq c0 c1 c2 c3
          go_wp2
          go_roundw
          case rel => exact ⟨k + 1, by omega, by go_num, okTo_succ Hgood.out He.out hok (fun x h0 _ => absurd h0 hk0), hbq⟩
          case measure => simp [intOf]; omega
      · have hok' : parcelOk e = false := by simpa using hok
        refine wp_region_quiet_below (by kernel_rfl) (by kernel_rfl) ?_
        repeat (go_big_quiet_step (exact Calls.regrown_of (spec_l19One_r b (off + k * 4) e false hok' _ (c0 _ _) (c1 _ _) (c2 _ _) (c3 _ _))))
        refine wpQuiet_nil ?_
        intro wq hwq
        have hbq := below_then hbel (below_of_class hwq)
        clear hwq c0 c1 c2 c3
        go_wp2
        go_ret
        exact ⟨ret_bool (by rw [parcelsOk, okList_no1 He.out hok']; rfl), hbq⟩
    · go_wp2
      go_ret
      have hkn : k = n := by omega
      subst hkn
      exact ⟨ret_bool (by rw [parcelsOk, okTo_all Hgood.out Hn.out, Hn.out]; simp; omega), hbel⟩
theorem spec_ValidParcels (A : Option Addr) (n c : Nat) (es : List Q4) (w : World) (hmax : n ≤ 1048576) (h : Sl w w.heap.size 4 Q4.cells A n es) :
    Calls Try.prog 60 #[.slice A n c] w fun e w' => e = .returned (.bool (parcelsOk es)) ∧ Below w.heap.size w w' := by
  go_enter Try.func60, Try.ntmps60
  go_wp2_with (go_at_call 88; refine (spec_l19Ok _ _ _ es _ hmax h).mono ?_; rintro e w' ⟨rfl, hb⟩)
  go_ret
  exact ⟨rfl, hb⟩
set_option maxHeartbeats 400000 in
theorem impl_all_Parcel (A : Option Addr) (n c : Nat) (es : List Q4) (w : World) (hmax : n ≤ 1048576) (h : Sl w w.heap.size 4 Q4.cells A n es) :
    Calls Try.prog 89 #[.slice A n c, .func (.func 90) #[] #[]] w fun e w' => e = .returned (.bool (es.all parcelOk)) ∧ Below w.heap.size w w' := by
  have Hn := Lib.hid h.len
  go_enter Try.func89, Try.ntmps89
  go_wp2
  go_loopw [9] (fun i wr => ∃ k : Nat, k ≤ n ∧ i = .int .i64 k ∧ (∀ j e, j < k → es[j]? = some e → parcelOk e = true) ∧ Below w.heap.size w wr) (fun i _ => n - (intOf i).toNat)
  case atStart => exact ⟨0, by omega, rfl, fun j e hj => by omega, Below.refl _ _⟩
  case round =>
    obtain ⟨k, hk, rfl, hgood, hbel⟩ := hrel
    have Hgood := Lib.hid hgood
    clear hgood
    by_cases hlt : k < n
    · obtain ⟨b, off, rfl, hb, H⟩ := h.at_ (by omega)
      obtain ⟨e, he⟩ := h.get hlt
      obtain ⟨c0, c1, c2, c3⟩ := (H.below hbel hb).q4 he
      have He := Lib.hid he
      clear he
      go_wp2_with (go_at_call 90; refine (impl_isParcel e _).mono ?_; rintro e' w' ⟨rfl, hb1⟩; have hb2 := below_then (below_al hbel _) hb1)
      · have hne : (!parcelOk e) = true := by assumption
        go_ret
        exact ⟨ret_bool (by rw [all_no He.out (by simpa using hne)]), hb2⟩
      · have heq : (!parcelOk e) = false := by assumption
        go_roundw
        case rel => exact ⟨k + 1, by omega, by go_num, fun j x hj hx => if h1 : j < k then Hgood.out j x h1 hx else by
          have : j = k := by omega
          subst this; rw [He.out] at hx; injection hx with hx; subst hx; simpa using heq, hb2⟩
        case measure => simp [intOf]; omega
    · go_wp2
      go_ret
      have hkn : k = n := by omega
      subst hkn
      exact ⟨ret_bool (by symm; rw [all_iff_get]; exact fun j x hx => Hgood.out j x (by rw [← Hn.out]; exact (List.getElem?_eq_some_iff.1 hx).1) hx), hbel⟩
set_option maxHeartbeats 400000 in
theorem impl_ValidParcels (A : Option Addr) (n c : Nat) (es : List Q4) (w : World) (hmax : n ≤ 1048576) (h : Sl w w.heap.size 4 Q4.cells A n es) :
    Calls Try.prog 64 #[.slice A n c] w fun e w' => e = .returned (.bool (parcelsOk es)) ∧ Below w.heap.size w w' := by
  have Hn := Lib.hid h.len
  go_enter Try.func64, Try.ntmps64
  go_wp2
  go_loopw [3] (fun i wr => ∃ k : Nat, 1 ≤ k ∧ (k ≤ n ∨ k = 1) ∧ i = .int .i64 k ∧ (∀ j e e', j + 1 < k → es[j]? = some e → es[j+1]? = some e' → idLt e e' = true) ∧ Below w.heap.size w wr) (fun i _ => n - (intOf i).toNat)
  case atStart => exact ⟨1, by omega, by omega, rfl, fun j e e' hj => by omega, Below.refl _ _⟩
  case round =>
    obtain ⟨k, hk1, hk, rfl, hgood, hbel⟩ := hrel
    have Hgood := Lib.hid hgood
    clear hgood
    by_cases hlt : k < n
    · obtain ⟨b, off, rfl, hb, H⟩ := h.at_ (by omega)
      obtain ⟨e, he⟩ := h.get hlt
      obtain ⟨c1, _, _, _⟩ := (H.below hbel hb).q4c (Nat.lt_of_lt_of_le hb hbel.size) he
      obtain ⟨e', he'⟩ := h.get (k := k - 1) (by omega)
      obtain ⟨d1, _, _, _⟩ := (H.below hbel hb).q4c (Nat.lt_of_lt_of_le hb hbel.size) he'
      have He := Lib.hid he
      have He' := Lib.hid he'
      clear he he' hk
      go_wp2
      refine wp_region_quiet_below (by kernel_rfl) (by kernel_rfl) ?_
      repeat (go_big_quiet_step (fail))
      refine wpQuiet_nil ?_
      intro wq hwq
      have hbq := below_then hbel (below_of_class hwq)
      clear hwq c1 d1
      go_wp2
      · go_ret
        have : e.a ≤ e'.a := by omega
        have hk2 : k - 1 + 1 = k := by omega
        exact ⟨ret_bool (by rw [parcelsOk, okList_no2 (k := k - 1) He'.out (by rw [hk2]; exact He.out) (by simp [idLt]; omega)]; rfl), hbq⟩
      · have : e'.a < e.a := by omega
        go_roundw
        case rel =>
          refine ⟨k + 1, by omega, by omega, by go_num, fun j x x' hj hx hx' => ?_, hbq⟩
          rcases Nat.lt_or_ge (j + 1) k with h1 | h1
          · exact Hgood.out j x x' h1 hx hx'
          · have : j = k - 1 := by omega
            subst this
            have hk2 : k - 1 + 1 = k := by omega
            rw [He'.out] at hx; rw [hk2, He.out] at hx'
            injection hx with hx; injection hx' with hx'
            subst hx; subst hx'; simp [idLt]; omega
        case measure => simp [intOf]; omega
    · clear hk
      go_wp2_with (go_at_call 89; refine (impl_all_Parcel _ _ _ es _ hmax (h.on hbel)).mono ?_; rintro e' w' ⟨rfl, hb1⟩)
      all_goals
        have hpair : okList parcelOk idLt es = es.all parcelOk := okList_all fun j x x' hx hx' =>
          Hgood.out j x x' (by have := (List.getElem?_eq_some_iff.1 hx').1; have := Hn.out; omega) hx hx'
        go_ret
        refine ⟨ret_bool ?_, by first | exact hbel | exact below_then hbel hb1⟩
        rw [parcelsOk, hpair, Hn.out]
        have hd : decide (n ≤ 60) = true ∨ decide (n ≤ 60) = false := by cases decide (n ≤ 60) <;> simp
        first
          | (have : n ≤ 60 := by omega
             simp [this])
          | (have : ¬ n ≤ 60 := by omega
             simp [this])

end Go.Proofs.Ytgbblcbpmpokdaa

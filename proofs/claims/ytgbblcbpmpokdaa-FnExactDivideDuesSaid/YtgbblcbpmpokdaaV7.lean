/- Walks over functions of this seat, by contract. Conditions: those that each theorem states. -/
import Derived.Test.YtgbblcbpmpokdaaV6
import Derived.Deep.RegionHeld3
namespace Go.Proofs.Ytgbblcbpmpokdaa
open Go.RowKit Go.Sort

set_option maxHeartbeats 2000000 in
set_option maxRecDepth 100000 in
theorem spec_l20Divide (A : Option Addr) (n c : Nat) (es : List Q4) (A2 : Option Addr) (n2 c2 : Nat) (fs : List Int) (T : Int) (w : World) (hmax : n ≤ 1048576) (hmax2 : n2 ≤ 1048576) (h : Sl w w.heap.size 4 Q4.cells A n es) (h2 : Sl w w.heap.size 1 icell A2 n2 fs) :
    Calls Try.prog 31 #[.slice A n c, .slice A2 n2 c2, .int .i64 T] w fun e w' => ∃ v, e = .returned (.tuple #[v, .int .i64 (duCode es fs T)]) ∧ Own w' w.heap.size 2 1 icell v (duOut es fs T) ∧ Below w.heap.size w w' := by
  obtain ⟨i0, hi, hz0, hz1, hz2⟩ := info_parts info_i64
  rcases Bool.eq_false_or_eq_true (parcelsOk es) with g1 | g1
  rotate_left
  · rw [duOut_neg (by rw [duCode_1 g1]; omega), duCode_1 g1]
    go_enter Try.func31, Try.ntmps31
    go_wp2_with (go_at_call 60; refine (spec_ValidParcels _ _ _ es _ hmax h).mono ?_; rintro e w1 ⟨rfl, hb1⟩; rw [g1])
    go_ret2
    exact ⟨_, rfl, own_nil _ _ _ _ _, hb1⟩
  rcases Bool.eq_false_or_eq_true (facOk fs) with g2 | g2
  rotate_left
  · have hc := duCode_2 (T := T) g1 (by rw [g2]; rfl)
    rw [duOut_neg (by rw [hc]; omega), hc]
    go_enter Try.func31, Try.ntmps31
    go_wp2_with (first
      | (go_at_call 60; refine (spec_ValidParcels _ _ _ es _ hmax h).mono ?_; rintro e w1 ⟨rfl, hb1⟩; rw [g1])
      | (go_at_call 61; refine (spec_l20Factors _ _ _ fs _ hmax2 (h2.on hb1)).mono ?_; rintro e w2 ⟨rfl, rfl⟩; rw [g2]))
    go_ret2
    exact ⟨_, rfl, own_nil _ _ _ _ _, hb1⟩
  rcases Bool.eq_false_or_eq_true (inR T 0 1000000000) with g3 | g3
  rotate_left
  · have hc := duCode_2 (fs := fs) (T := T) g1 (by rw [g3]; simp)
    rw [duOut_neg (by rw [hc]; omega), hc]
    go_enter Try.func31, Try.ntmps31
    go_wp2_with (first
      | (go_at_call 60; refine (spec_ValidParcels _ _ _ es _ hmax h).mono ?_; rintro e w1 ⟨rfl, hb1⟩; rw [g1])
      | (go_at_call 61; refine (spec_l20Factors _ _ _ fs _ hmax2 (h2.on hb1)).mono ?_; rintro e w2 ⟨rfl, rfl⟩; rw [g2])
      | (go_at_call 38; refine (spec_l00In _ _ _ _).mono ?_; rintro e w' ⟨rfl, rfl⟩; rw [g3]))
    go_ret2
    exact ⟨_, rfl, own_nil _ _ _ _ _, hb1⟩
  obtain ⟨hf1, hf2⟩ := facOk_iff.1 g2
  have hn2 : n2 = 4 := by rw [← h2.len]; exact hf2
  subst hn2
  have Hf1 := Lib.hid hf1
  have Hn := Lib.hid h.len
  have Hok := Lib.hid g1
  have Hfk := Lib.hid g2
  have HT := Lib.hid (inR_iff.1 g3)
  have h60 := (parcels_all g1).1
  rw [h.len] at h60
  have hc6 := fun h4 => duCode_6 (T := T) g1 g2 g3 h4
  have hc0 := fun h4 => duCode_0 (T := T) g1 g2 g3 h4
  have Hc6 := Lib.hid hc6
  have Hc0 := Lib.hid hc0
  clear hc6 hc0 hf1 hf2
  go_enter Try.func31, Try.ntmps31
  go_wp2_with (first
    | (go_at_call 60; refine (spec_ValidParcels _ _ _ es _ hmax h).mono ?_; rintro e w1 ⟨rfl, hb1⟩; rw [g1])
    | (go_at_call 61; refine (spec_l20Factors _ _ _ fs _ (by omega) (h2.on hb1)).mono ?_; rintro e w2 ⟨rfl, rfl⟩; rw [g2])
    | (go_at_call 38; refine (spec_l00In _ _ _ _).mono ?_; rintro e w' ⟨rfl, rfl⟩; rw [g3]))
  clear g1 g2 g3
  have hb1z := hb1.size
  go_loopw [8, 9] (fun v i wr => ∃ k : Nat, k ≤ n ∧ i = .int .i64 k ∧ Hid (Own wr w.heap.size 2 1 icell v (wOf fs (es.take k))) ∧ Hid (Below w.heap.size w wr)) (fun _ i _ => n - (intOf i).toNat)
  case atStart => exact ⟨0, by omega, rfl, Lib.hid (own_new_empty _ _ _ _ _ hb1z), Lib.hid (below_al hb1 _)⟩
  case round =>
    obtain ⟨k, hk, rfl, HO, HB⟩ := hrel
    obtain ⟨A5, n5, c5, rfl, hl5, _⟩ := own_shape HO.out
    rw [wOf_len, List.length_take, Hn.out] at hl5
    have hbz := HB.out.size
    by_cases hlt : k < n
    · obtain ⟨b, off, rfl, hb, H⟩ := h.at_ (by omega)
      obtain ⟨e, he⟩ := h.get hlt
      obtain ⟨c0, c1, x2, x3⟩ := (H.below HB.out hb).q4 he
      obtain ⟨_, _, ⟨p1, p2⟩, p3, p4⟩ := parcelOk_iff.1 ((parcels_all Hok.out).2 e (List.mem_of_getElem? he))
      obtain ⟨cl, hcl⟩ : ∃ cl : Nat, e.d = (cl : Int) := ⟨e.d.toNat, by omega⟩
      have hcl4 : cl < 4 := by omega
      obtain ⟨bf, offf, rfl, hbf, HF⟩ := h2.at_ (by omega)
      obtain ⟨y, hy⟩ := h2.get hcl4
      have f1 := (HF.below HB.out hbf).i1 hy
      obtain ⟨y0, y1⟩ := Hf1.out y (List.mem_of_getElem? hy)
      have hprod := fW_bd (fs := fs) ((parcels_all Hok.out).2 e (List.mem_of_getElem? he)) Hf1.out
      have hfw : fW fs e = e.c * y := by rw [fW, hcl, Int.toNat_natCast, hy]; rfl
      rw [hfw] at hprod
      have hwr : IntKind.i64.wrap (e.c * y) = e.c * y := IntWalk.i64_in _ (by omega)
      have Hfw := Lib.hid hfw
      have He := Lib.hid he
      rw [hcl] at x3
      have hbr : b < wr.heap.size := by omega
      have hbfr : bf < wr.heap.size := by omega
      have hci0 : (0 : Int) ≤ (cl : Int) := by omega
      have hci1 : (cl : Int) < 4 := by omega
      have hk0 : (0 : Int) ≤ (k : Int) := by omega
      have hkn : (k : Int) < (n : Int) := by omega
      have hne1 : (Value.slice A5 n5 c5).ownBlock ≠ some b := fun e1 => absurd (World.ownsRow.lt HO.out _ e1).1 (by omega)
      have hne2 : (Value.slice A5 n5 c5).ownBlock ≠ some bf := fun e1 => absurd (World.ownsRow.lt HO.out _ e1).1 (by omega)
      clear he hy hcl p3 p4 H HF hfw c0 c1
      go_wp2_with fail
      go_region_held3 (fun w' => w'.cell? ⟨b, off + k * 4 + 2, none⟩ = some (.int .i64 e.c) ∧ w'.cell? ⟨b, off + k * 4 + 3, none⟩ = some (.int .i64 (cl : Int)) ∧ w'.cell? ⟨bf, offf + cl, none⟩ = some (.int .i64 y))
        (go_keep)
        (first
          | (refine step_app (by rfl) _ _ 23 (by rfl) w.heap.size 2 i0 _ 1 8 Try.underlying23 hi hz0 hz1 hz2 rfl (by omega) icell_len icell_one (.slice A5 n5 c5) (wOf fs (es.take k)) [e.c * y] (by rfl) (own_alloc (HO.out.below (below_dr (Below.refl wr.heap.size wr)) (Nat.le_refl _)) _) (wr.heap.size + 1) (some ⟨wr.heap.size, 0, none⟩) 1 1 (by rfl) (sl_box1 wr.drew (e.c * y) _) (by rw [wOf_len, List.length_take]; omega) (by omega) (by omega) (by simp; omega) ?_; intro v3 w3 ho3 hg3; have hb3 := own_grown (below_al (below_dr HB.out) (.cells #[.int .i64 (e.c * y)] 2)) (own_alloc (HO.out.below (below_dr (Below.refl wr.heap.size wr)) (Nat.le_refl _)) _) (Nat.le_refl _) (by simp; omega) hg3; have HO3 := Lib.hid ho3; have HB3 := Lib.hid hb3; have x2' := (grown_cell (p := ⟨b, off + k * 4 + 2, none⟩) hg3 (by simp; omega) hne1).trans (cell_on x2 (below_al (below_dr (Below.refl _ _)) _) hbr); have x3' := (grown_cell (p := ⟨b, off + k * 4 + 3, none⟩) hg3 (by simp; omega) hne1).trans (cell_on x3 (below_al (below_dr (Below.refl _ _)) _) hbr); have f1' := (grown_cell (p := ⟨bf, offf + cl, none⟩) hg3 (by simp; omega) hne2).trans (cell_on f1 (below_al (below_dr (Below.refl _ _)) _) hbfr)))
      go_wp2_with fail
      go_roundw
      case rel => exact ⟨k + 1, by omega, by go_num, Lib.hid (by rw [wOf_succ He.out, Hfw.out]; exact HO3.out), HB3⟩
      case measure => simp [intOf]; omega
    · have hkn : k = n := by omega
      have htk : es.take k = es := List.take_of_length_le (by rw [Hn.out]; omega)
      rw [htk] at HO
      have hl5n : n = n5 := by omega
      subst hl5n
      clear htk hkn
      have hsl := own_sl HO.out icell_len
      obtain ⟨s, hs⟩ : ∃ s, isum (wOf fs es) = s := ⟨_, rfl⟩
      have Hs := Lib.hid hs
      have hs0 : 0 ≤ s := by rw [← hs]; exact isum_nn fun x hx => (wOf_bd Hok.out Hf1.out x hx).1
      by_cases hz : s = 0
      · have hz' : (s == 0) = true := by simp [hz]
        have Hz := Lib.hid hz
        clear hz hs
        go_wp2_with (go_at_call 62; refine (spec_l02Sum _ _ _ (wOf fs es) _ (by omega) (wOf_small Hok.out Hfk.out) hsl).mono ?_; rintro e w' ⟨rfl, rfl⟩; rw [Hs.out])
        go_ret2
        have hcc := Hc6.out (by rw [Hs.out, Hz.out])
        refine ⟨.slice none 0 0, ?_, ?_, HB.out⟩
        · rw [hcc]; rfl
        · rw [duOut_neg (by rw [hcc]; omega)]; exact own_nil _ _ _ _ _
      · have hz' : (s == 0) = false := by simp [hz]
        have hsp : 0 < s := by omega
        have Hz := Lib.hid hz
        clear hz hs
        go_wp2_with (first
          | (go_at_call 62; refine (spec_l02Sum _ _ _ (wOf fs es) _ (by omega) (wOf_small Hok.out Hfk.out) hsl).mono ?_; rintro e w' ⟨rfl, rfl⟩; rw [Hs.out])
          | (go_at_call 63; refine (spec_l02Share _ _ _ (wOf fs es) T s _ (by omega) HT.out hsp Hs.out (wOf_bd Hok.out Hf1.out) hsl).mono ?_; rintro e w4 ⟨v4, rfl, ho4, hb4⟩))
        go_ret2
        have hcc := Hc0.out (by rw [Hs.out]; exact Hz.out)
        refine ⟨v4, ?_, ?_, HB.out.trans (hb4.mono hbz)⟩
        · rw [hcc]; rfl
        · rw [duOut_pos hcc, Hs.out]; exact ho4.base_le hbz
theorem spec_DivideDues (A : Option Addr) (n c : Nat) (es : List Q4) (A2 : Option Addr) (n2 c2 : Nat) (fs : List Int) (T : Int) (w : World) (hmax : n ≤ 1048576) (hmax2 : n2 ≤ 1048576) (h : Sl w w.heap.size 4 Q4.cells A n es) (h2 : Sl w w.heap.size 1 icell A2 n2 fs) :
    Calls Try.prog 7 #[.slice A n c, .slice A2 n2 c2, .int .i64 T] w fun e w' => ∃ v, e = .returned (.tuple #[v, .int .i64 (duCode es fs T)]) ∧ Own w' w.heap.size 2 1 icell v (duOut es fs T) ∧ Below w.heap.size w w' := by
  go_enter Try.func7, Try.ntmps7
  go_wp2_with (go_at_call 31; refine (spec_l20Divide _ _ _ es _ _ _ fs T _ hmax hmax2 h h2).mono ?_; rintro e w1 ⟨v1, rfl, ho1, hb1⟩)
  go_ret2
  exact ⟨_, rfl, ho1, hb1⟩

end Go.Proofs.Ytgbblcbpmpokdaa

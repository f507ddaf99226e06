/- Walks over functions of this seat, by contract. Conditions: those that each theorem states. -/
import Derived.Test.YtogjkcakoahpiaaN9
namespace Go.Proofs.Ytogjkcakoahpiaa
open Go.RowKit Go.Sort

set_option maxHeartbeats 4000000 in
set_option maxRecDepth 100000 in
open Go.Maps in
theorem impl_push (Jn sn : Nat) (A : Option Addr) (n c cf q B nn base : Nat) (es : List Q3) (fl : List Int) (t : Int) (w : World) (L : List Int) (val : Int → Int) (how : Int → Nat)
    (hok : netOk Jn es = true) (h : Sl w q 3 Q3.cells A n es) (hqB : q ≠ B) (hMp : Mp w B nn L val) (hT : Tree es fl (sn : Int) L how) (hlink : ∀ v ∈ L, v ≠ (sn : Int) → val v = (how v : Int)) (hroot : val (sn : Int) = -1)
    (h0 : (0 : Int) ∈ L) (hf : IsFlow es (sn : Int) fl t)
    (hO : Own w base 2 1 icell (.slice (some ⟨q, 0, none⟩) n cf) fl) (hq : q < w.heap.size) :
    Calls Try.prog 93 #[.agg #[.int .i64 (Jn : Int), .slice A n c], .map (some B), .slice (some ⟨q, 0, none⟩) n cf] w fun e w' =>
      e = .returned (.tuple #[]) ∧ ∃ fl', IsFlow es (sn : Int) fl' (t + 1) ∧ Own w' base 2 1 icell (.slice (some ⟨q, 0, none⟩) n cf) fl' ∧ w.grownBy w' (some q) := by
  obtain ⟨⟨j1, j2⟩, hn20, hall⟩ := netOk_iff.1 hok
  have HALL := Lib.hid (all_iff_get.1 hall)
  have Hn := Lib.hid h.len
  have hn20' : n ≤ 20 := by have := h.len; omega
  obtain ⟨D, hown, hD⟩ := hMp
  obtain ⟨i, hi, hi0⟩ := List.mem_iff_getElem.1 h0
  have hi0' : L[i]? = some 0 := by rw [List.getElem?_eq_getElem hi, hi0]
  have HT := Lib.hid hT
  have HO := Lib.hid (own_alloc hO (.cells #[.int .i64 (Jn : Int), .slice A n c] 30))
  have HG0 := Lib.hid (Going.start (L := L) (how := how) hf hi0')
  have HNE : Hid (∀ (k : Nat) d, es[k]? = some d → d.a ≠ d.b) := Lib.hid (fun k d hd => (dOk_iff.1 (HALL.out k d hd)).2.2.1)
  have HB := Lib.hid (hown.alloc (.cells #[.int .i64 (Jn : Int), .slice A n c] 30))
  have HD := Lib.hid hD
  have HL := Lib.hid hlink
  have HRt := Lib.hid hroot
  have hBw := hown.lt
  have hk1 := box2k (Below.refl (w.alloc (.cells #[.int .i64 (Jn : Int), .slice A n c] 30)).heap.size (w.alloc (.cells #[.int .i64 (Jn : Int), .slice A n c] 30)))
  have x1 := hk1.2
  have h2 := h.keep (w' := w.alloc (.cells #[.int .i64 (Jn : Int), .slice A n c] 30)) (fun p hp => (below_al (Below.refl _ w) (.cells #[.int .i64 (Jn : Int), .slice A n c] 30)).cell (Nat.lt_trans hp hq))
  have hwq : q < (w.alloc (.cells #[.int .i64 (Jn : Int), .slice A n c] 30)).heap.size := by simp; omega
  clear hok hall hT hO hf hi hi0 hi0' h0 hown hD hlink hroot hk1
  go_enter Try.func93, Try.ntmps93
  go_wp2_with fail
  go_loopg [6] i (fun gi av wr => ∃ (v : Nat) (gl : List Int), av = .int .i64 v ∧ v < Jn ∧ Hid (Going es fl (sn : Int) L how t gi (v : Int) gl) ∧ Hid (Own wr base 2 1 icell (.slice (some ⟨q, 0, none⟩) n cf) gl) ∧ (w.alloc (.cells #[.int .i64 (Jn : Int), .slice A n c] 30)).grownBy wr (some q))
  case atStart => exact ⟨0, fl, rfl, by omega, HG0, HO, World.grownBy.refl _ _⟩
  case round =>
    obtain ⟨v, gl, rfl, hvJ, HG, HOl, hgr⟩ := hrel
    have hvL : (v : Int) ∈ L := List.mem_of_getElem? HG.out.here
    have hBr := Lib.hid (HB.out.kept hgr (by simp; omega))
    have hwfv : (Lit.int .i64 (v : Int)).wf = true := wf64 (by omega) (by omega)
    have HK : Hid (keyOf Try.prog 2 (.int .i64 (v : Int)) = some (.int .i64 (v : Int))) := Lib.hid (keyOf_int_mk Try.underlying2 hwfv)
    obtain ⟨x, hx⟩ : ∃ x, val (v : Int) = x := ⟨_, rfl⟩
    have hat := (HD.out _ hwfv).2 hvL
    rw [hx] at hat
    have HAt := Lib.hid hat
    have Hx := Lib.hid hx
    have HvL := Lib.hid hvL
    clear hat hx hvL hwfv
    by_cases hgz : gk = 0
    · have hv : (v : Int) = (sn : Int) := (HG.out.at_src HT.out).2 hgz
      have HDn := Lib.hid (Going.done HT.out (by rw [← hgz]; exact HG.out))
      have hxm : x = -1 := by rw [← Hx.out, hv]; exact HRt.out
      have Hv := Lib.hid hv
      clear hv
      subst hxm
      go_wp2_with (at_lookup; refine wpList_lookup_own_int _ rfl _ _ 81 rfl 2 2 .i64 lawK Try.underlying81 Try.underlying2 (zeroI _) B nn D rfl hBr.out _ _ rfl HK.out ?_; intro cc hcc hwc; obtain rfl : cc = -1 := (by rw [HAt.out] at hcc; injection hcc with hcc; injection hcc with _ hcc; exact hcc.symm); clear hcc)
      go_end0
      exact ⟨rfl, gl, HDn.out, HOl.out, grown_drop_alloc hgr⟩
    have hvs : ¬ (v : Int) = (sn : Int) := fun e => hgz ((HG.out.at_src HT.out).1 e)
    obtain ⟨d, f, hd, hfk, hf0, hfc, hcase⟩ := Going.next HT.out HG.out HNE.out (by omega)
    obtain ⟨⟨a1, a2⟩, ⟨b1, b2⟩, hab, c1, c2⟩ := dOk_iff.1 (HALL.out _ d hd)
    obtain ⟨k, hk⟩ : ∃ k, how (v : Int) = k := ⟨_, rfl⟩
    have hxk : x = (k : Int) := by rw [← Hx.out, HL.out _ HvL.out hvs, hk]
    rw [hk] at hd hfk hcase
    have hkn : k < n := by have := getD_some' hd; have := Hn.out; omega
    have y2 := own_i0 HOl.out hfk
    have y3 := own_free HOl.out k
    have y4 := grown_on x1 hgr (by simp) (by omega)
    obtain ⟨b', off, hA, hb', H⟩ := (sl_grown h2 hgr hwq).at_ (by omega)
    rw [hA] at y4
    obtain ⟨d0, d1, d2⟩ := H.q3 hd
    have hqr : q < wr.heap.size := Nat.lt_of_lt_of_le hwq hgr.size
    have hk0 : (0 : Int) ≤ (k : Int) := by omega
    have hk1 : (k : Int) < (n : Int) := by omega
    have Hd := Lib.hid hd
    have Hfk := Lib.hid hfk
    have hkl : k < gl.length := getD_some' hfk
    clear hd hfk hA H
    have hkk : how (v : Int) = k := hk
    have Hk := Lib.hid hkk
    clear hk hkk
    subst hxk
    obtain ⟨da, db, dc⟩ := d
    dsimp only at *
    obtain ⟨ea, rfl⟩ : ∃ x : Nat, da = (x : Int) := ⟨da.toNat, by omega⟩
    obtain ⟨eb, rfl⟩ : ∃ x : Nat, db = (x : Int) := ⟨db.toNat, by omega⟩
    rcases hcase with ⟨e1, e2, e3, j, hj, hgo⟩ | ⟨e1, e2, e3, j, hj, hgo⟩
    · have Hgo := Lib.hid hgo
      have he1 : ((eb : Int) == (v : Int)) = true := by simpa using e1
      have He1 := Lib.hid e1
      clear hgo e1 e2
      have hw1 : IntKind.i64.wrap (f + 1) = f + 1 := by rw [IntKind.wrap_i64]; omega
      go_wp2_with (at_lookup; refine wpList_lookup_own_int _ rfl _ _ 81 rfl 2 2 .i64 lawK Try.underlying81 Try.underlying2 (zeroI _) B nn D rfl hBr.out _ _ rfl HK.out ?_; intro cc hcc hwc; obtain rfl : cc = (k : Int) := (by rw [HAt.out] at hcc; injection hcc with hcc; injection hcc with _ hcc; exact hcc.symm); clear hcc)
      go_roundg j
      case measure => exact hj
      case rel => exact ⟨ea, gl.set k (f + 1), rfl, by omega, Hgo, Lib.hid (own_alloc (own_iset HOl.out hkl _) _), only_below (only_st hgr _ _) (below_al (Below.refl _ _) _)⟩
    · have Hgo := Lib.hid hgo
      have he1 : ((eb : Int) == (v : Int)) = false := by simpa using e1
      have He1 := Lib.hid e1
      clear hgo e1 e2
      have hw1 : IntKind.i64.wrap (f - 1) = f - 1 := by rw [IntKind.wrap_i64]; omega
      go_wp2_with (at_lookup; refine wpList_lookup_own_int _ rfl _ _ 81 rfl 2 2 .i64 lawK Try.underlying81 Try.underlying2 (zeroI _) B nn D rfl hBr.out _ _ rfl HK.out ?_; intro cc hcc hwc; obtain rfl : cc = (k : Int) := (by rw [HAt.out] at hcc; injection hcc with hcc; injection hcc with _ hcc; exact hcc.symm); clear hcc)
      go_roundg j
      case measure => exact hj
      case rel => exact ⟨eb, gl.set k (f - 1), rfl, by omega, Hgo, Lib.hid (own_alloc (own_iset HOl.out hkl _) _), only_below (only_st hgr _ _) (below_al (Below.refl _ _) _)⟩
set_option maxHeartbeats 4000000 in
set_option maxRecDepth 100000 in
open Go.Maps in
theorem impl_greatest (Jn sn : Nat) (A : Option Addr) (n c : Nat) (es : List Q3) (w : World) (hok : netOk Jn es = true) (hs0 : 1 ≤ sn) (hs : sn < Jn) (h : Sl w w.heap.size 3 Q3.cells A n es) :
    Calls Try.prog 50 #[.agg #[.int .i64 (Jn : Int), .slice A n c], .int .i64 (sn : Int)] w fun e w' =>
      ∃ q, e = .returned (.tuple #[.slice (some ⟨q, 0, none⟩) n n, .int .i64 (mflow es (sn : Int))]) ∧ (∃ fl, Own w' w.heap.size 2 1 icell (.slice (some ⟨q, 0, none⟩) n n) fl ∧ IsFlow es (sn : Int) fl (mflow es (sn : Int)) ∧ ¬ Rch es fl (sn : Int) 0) ∧ Below w.heap.size w w' := by
  obtain ⟨⟨j1, j2⟩, hn20, _⟩ := netOk_iff.1 hok
  have Hn := Lib.hid h.len
  have hn20' : n ≤ 20 := by have := h.len; omega
  have hcap := netOk_c hok
  have HC := Lib.hid hcap
  have hz := isflow_zero (src := (sn : Int)) hcap.1
  rw [h.len] at hz
  have HZ := Lib.hid hz
  have HK := Lib.hid hok
  clear hcap hz hok
  obtain ⟨i0, hi, hz0, hz1, hz2⟩ := info_parts info_int64
  have hmk := make_all Try.underlying34 hi hz0 n (by rw [hz2]; omega) (by omega)
  rw [hz1, Nat.mul_one] at hmk
  clear hi hz0 hz1 hz2
  obtain ⟨w0, hw0⟩ : ∃ w0, w.alloc (.cells #[.int .i64 (Jn : Int), .slice A n c] 30) = w0 := ⟨_, rfl⟩
  have hk1 := box2k (Below.refl (w.alloc (.cells #[.int .i64 (Jn : Int), .slice A n c] 30)).heap.size (w.alloc (.cells #[.int .i64 (Jn : Int), .slice A n c] 30)))
  have hb0 := below_al (Below.refl _ w) (.cells #[.int .i64 (Jn : Int), .slice A n c] 30)
  rw [hw0] at hk1 hb0
  have hsz0 : w0.heap.size = w.heap.size + 1 := by rw [← hw0]; simp
  have HO0 := Lib.hid (own_made8 w0 n hn20')
  have hkey : keyOf Try.prog 2 (.int .i64 0) = some (.int .i64 0) := keyOf_int_mk Try.underlying2 (wf64 (by omega) (by omega))
  have HKey := Lib.hid hkey
  clear hkey
  go_enter Try.func50, Try.ntmps50
  go_wp2_with fail
  clear hmk
  rw [← hsz0]
  clear hsz0
  go_loopg [7] 20001 (fun gk sv wr => ∃ (t : Nat) (fl : List Int), sv = .int .i64 t ∧ gk + t = 20001 ∧ Hid (IsFlow es (sn : Int) fl t) ∧ Hid (Own wr w0.heap.size 2 1 icell (.slice (some ⟨w0.heap.size, 0, none⟩) n n) fl) ∧ Below w.heap.size w wr ∧ Below w0.heap.size w0 wr ∧ w0.heap.size < wr.heap.size)
  case atStart => exact ⟨0, _, rfl, by omega, HZ, HO0, below_al hb0 _, below_al (Below.refl _ _) _, by simp⟩
  case round =>
    obtain ⟨t, fl, rfl, hgt, HF, HO, hbel, hbel0, hlt⟩ := hrel
    have htop : (t : Int) ≤ 1000 * (n : Int) := by have := isflow_top HF.out (by omega) HC.out.2; rw [Hn.out] at this; exact this
    have hws : w.heap.size < w0.heap.size := by rw [← hw0]; simp
    have y0 := cell_on hk1.1 hbel0 hws
    have y1 := cell_on hk1.2 hbel0 hws
    have Hh := Lib.hid (h.on hbel)
    clear hw0
    go_wp2_with fail
    refine (impl_reached Jn sn A _ n c n es fl _ HK.out hs0 hs Hh.out (own_sl HO.out icell_len)).mono ?_
    rintro e w1 ⟨lv, B, rfl, L, val, how, nn, hlo, ⟨D, hBo, hD⟩, hBw, hBr, hT, hlink, hroot, hinn, hcl, hb1⟩
    have HBo := Lib.hid hBo
    have HMp : Hid (Mp w1 B nn L val) := Lib.hid ⟨D, hBo, hD⟩
    have HT := Lib.hid hT
    have HLn := Lib.hid hlink
    have HRt := Lib.hid hroot
    have HCl := Lib.hid hcl
    have hbel1 := below_then hbel hb1
    have hbel01 := below_then hbel0 hb1
    have HO1 := Lib.hid (HO.out.below hb1 (Nat.le_refl _))
    have z0 := cell_on hk1.1 hbel01 hws
    have z1 := cell_on hk1.2 hbel01 hws
    have hhas := (hD 0 (wf64 (by omega) (by omega))).1
    have hlt1 : w0.heap.size < w1.heap.size := Nat.lt_of_lt_of_le hlt hb1.size
    clear hBo hD hT hlink hroot hcl hlo hinn
    by_cases hin : (0 : Int) ∈ L
    · have hh : Maps.has D (.int .i64 0) = true := by rw [hhas]; exact decide_eq_true hin
      have Hin := Lib.hid hin
      clear hin hhas
      go_wp2_with (at_lookup; refine wpList_lookup_own_ok_int _ rfl _ _ 81 rfl 2 2 .i64 lawK Try.underlying81 Try.underlying2 (zeroI _) B nn D rfl HBo.out _ _ rfl HKey.out ?_; intro cc hat hwc; rw [hh])
      go_wp2_with fail
      refine (impl_push Jn sn A n c n w0.heap.size B nn w0.heap.size es fl t _ L val how HK.out ((h.below hbel1).more (by omega)) (by omega) HMp.out HT.out HLn.out HRt.out Hin.out HF.out HO1.out hlt1).mono ?_
      rintro e w2 ⟨rfl, fl', hf', hO', hg2⟩
      have HF' := Lib.hid hf'
      have HO' := Lib.hid hO'
      have hbel2 := own_grown hbel1 HO1.out (by omega) hbel1.size hg2
      have hbel02 := own_grown hbel01 HO1.out (Nat.le_refl _) hbel01.size hg2
      have hsz2 := hg2.size
      clear hf' hO'
      go_wp2_with fail
      go_roundg (gk - 1)
      case measure => omega
      case rel => exact ⟨t + 1, fl', by go_num, by omega, by rw [Int.natCast_add]; exact HF', HO', hbel2, hbel02, by omega⟩
    · have hh : Maps.has D (.int .i64 0) = false := by rw [hhas]; exact decide_eq_false hin
      have hM := isMax_of HT.out HF.out HCl.out hin
      have HM := Lib.hid (isMax_flow hM).1
      have Hin := Lib.hid hin
      clear hM hin hhas
      go_wp2_with (at_lookup; refine wpList_lookup_own_ok_int _ rfl _ _ 81 rfl 2 2 .i64 lawK Try.underlying81 Try.underlying2 (zeroI _) B nn D rfl HBo.out _ _ rfl HKey.out ?_; intro cc hat hwc; rw [hh])
      go_ret2
      refine ⟨w0.heap.size, by rw [← HM.out]; rfl, ⟨fl, HO1.out.base_le (by omega), by rw [← HM.out]; exact HF.out, fun hr => Hin.out ((HT.out.all HCl.out 0).2 hr)⟩, hbel1⟩

end Go.Proofs.Ytogjkcakoahpiaa

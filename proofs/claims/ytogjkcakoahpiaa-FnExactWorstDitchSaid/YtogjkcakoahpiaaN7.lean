/- Walks over functions of this seat, by contract. Conditions: those that each theorem states. -/
import Derived.Test.YtogjkcakoahpiaaN5
import Derived.Test.YtogjkcakoahpiaaN6
namespace Go.Proofs.Ytogjkcakoahpiaa
open Go.RowKit Go.Sort

theorem isMax_of {es : List Q3} {fl L : List Int} {src t : Int} {how : Int → Nat} (hT : Tree es fl src L how) (hf : IsFlow es src fl t) (hc : ∀ u v, u ∈ L → Res es fl u v → v ∈ L) (h0 : (0 : Int) ∉ L) : IsMax es src t (fun v => decide (v ∈ L)) :=
  ⟨fl, hf, fun v => by rw [decide_eq_true_iff]; exact hT.all hc v, by simpa using h0⟩
noncomputable def sideL (es : List Q3) (src : Int) (Jn : Nat) : List Bool := (List.range Jn).map fun (v : Nat) => mside es src (v : Int)
theorem sideL_len (es : List Q3) (src : Int) (Jn : Nat) : (sideL es src Jn).length = Jn := by simp [sideL]
theorem sideL_get {es : List Q3} {src : Int} {Jn v : Nat} (h : v < Jn) : (sideL es src Jn)[v]? = some (mside es src (v : Int)) := by simp [sideL, h]
theorem seen_side {es : List Q3} {L : List Int} {src t : Int} {Jn : Nat} {sl : List Bool} (hM : IsMax es src t (fun v => decide (v ∈ L))) (hl : sl.length = Jn) (hs : ∀ v : Nat, v < Jn → sl[v]? = some (decide ((v : Int) ∈ L))) : sl = sideL es src Jn := by
  have h2 := (isMax_flow hM).2
  apply List.ext_getElem?
  intro v
  rcases Nat.lt_or_ge v Jn with h | h
  · rw [hs v h, sideL_get h, ← h2]
  · rw [List.getElem?_eq_none (by omega), List.getElem?_eq_none (by rw [sideL_len]; exact h)]
theorem netOk_c {J : Int} {es : List Q3} (h : netOk J es = true) : (∀ (k : Nat) d, es[k]? = some d → 0 ≤ d.c) ∧ (∀ (k : Nat) d, es[k]? = some d → d.c ≤ 1000) := by
  obtain ⟨_, _, hall⟩ := netOk_iff.1 h
  have := all_iff_get.1 hall
  exact ⟨fun k d hd => (dOk_iff.1 (this k d hd)).2.2.2.1, fun k d hd => (dOk_iff.1 (this k d hd)).2.2.2.2⟩
theorem own_made8 (w : World) (n : Nat) (hn : n ≤ 20) : Own (w.alloc (.cells (madeCells #[.int .i64 0] n) 2)) w.heap.size 2 1 icell (.slice (some ⟨w.heap.size, 0, none⟩) n n) (List.replicate n (0 : Int)) := own_made w 2 n w.heap.size (.int .i64 0) (0 : Int) rfl (by omega) (Nat.le_refl _)
set_option maxHeartbeats 4000000 in
set_option maxRecDepth 100000 in
theorem spec_l04Most (Jn sn : Nat) (A : Option Addr) (n c : Nat) (es : List Q3) (b : Nat) (w : World) (hok : netOk Jn es = true) (hs0 : 1 ≤ sn) (hs : sn < Jn)
    (h : Sl w w.heap.size 3 Q3.cells A n es) (hbw : b < w.heap.size)
    (x0 : w.cell? ⟨b, 0, none⟩ = some (.int .i64 (Jn : Int))) (x1 : w.cell? ⟨b, 1, none⟩ = some (.slice A n c)) :
    Calls Try.prog 46 #[.pointer (some ⟨b, 0, none⟩), .int .i64 (sn : Int)] w fun e w' =>
      ∃ sb, e = .returned (.tuple #[.slice (some ⟨sb, 0, none⟩) Jn Jn, .int .i64 (mflow es (sn : Int))]) ∧ Own w' w.heap.size 4 1 bcell (.slice (some ⟨sb, 0, none⟩) Jn Jn) (sideL es (sn : Int) Jn) ∧ Below w.heap.size w w' := by
  obtain ⟨⟨j1, j2⟩, hn20, _⟩ := netOk_iff.1 hok
  have Hn := Lib.hid h.len
  have hn20' : n ≤ 20 := by have := h.len; omega
  have hcap := netOk_c hok
  have HC := Lib.hid hcap
  have hz := isflow_zero (src := (sn : Int)) hcap.1
  rw [h.len] at hz
  have HZ := Lib.hid hz
  have HK := Lib.hid hok
  clear hcap hz hok
  obtain ⟨i0, hi, hz0, hz1, hz2⟩ := info_parts info_int64
  have hmk := make_all Try.underlying34 hi hz0 n (by rw [hz2]; omega) (by omega)
  rw [hz1, Nat.mul_one] at hmk
  clear hi hz0 hz1 hz2
  have HO0 := Lib.hid (own_made8 w n hn20')
  go_enter Try.func46, Try.ntmps46
  go_wp2_with fail
  clear hmk
  go_loopg [7] 20001 (fun gk sv wr => ∃ (t : Nat) (fl : List Int), sv = .int .i64 t ∧ gk + t = 20001 ∧ Hid (IsFlow es (sn : Int) fl t) ∧ Hid (Own wr w.heap.size 2 1 icell (.slice (some ⟨w.heap.size, 0, none⟩) n n) fl) ∧ Below w.heap.size w wr ∧ w.heap.size < wr.heap.size)
  case atStart => exact ⟨0, _, rfl, by omega, HZ, HO0, below_al (Below.refl _ _) _, by simp⟩
  case round =>
    obtain ⟨t, fl, rfl, hgt, HF, HO, hbel, hlt⟩ := hrel
    have htop : (t : Int) ≤ 1000 * (n : Int) := by have := isflow_top HF.out (by omega) HC.out.2; rw [Hn.out] at this; exact this
    have hwt : IntKind.i64.wrap ((t : Int) + 1) = ((t + 1 : Nat) : Int) := by rw [IntKind.wrap_i64]; omega
    have Hw := Lib.hid hwt
    clear hwt
    go_wp2_with fail
    refine (spec_l04Walk Jn sn A _ n c n n es fl b _ HK.out hs0 hs (h.on hbel) (own_sl HO.out icell_len) rfl (Nat.lt_of_lt_of_le hbw hbel.size) (cell_on x0 hbel hbw) (cell_on x1 hbel hbw)).mono ?_
    rintro e w1 ⟨g, rfl, sb, bb, L, how, sl, bl, hS, hcl, hb1⟩
    have HS := Lib.hid hS
    have HCl := Lib.hid hcl
    have hbel1 := below_then hbel hb1
    have HO1 := Lib.hid (HO.out.below hb1 (Nat.le_refl _))
    have y0 := hS.g0
    have y1 := own_b0 hS.so (hS.seen 0 (by omega))
    obtain ⟨p0, hp0⟩ : ∃ p, decide (((0 : Nat) : Int) ∈ L) = p := ⟨_, rfl⟩
    rw [hp0] at y1
    have Hp0 := Lib.hid hp0
    obtain ⟨gb1, gb2, gb3, gb4, gb5, gb6⟩ := hS.gb
    clear hS hcl hp0
    have hj0 : (0 : Int) < (Jn : Int) := by omega
    cases p0 with
    | false =>
      have hno : (0 : Int) ∉ L := by have := of_decide_eq_false Hp0.out; exact this
      have hM := isMax_of HS.out.tree HF.out (closed_res HCl.out) hno
      have HM := Lib.hid (isMax_flow hM).1
      have HSd := Lib.hid (seen_side hM HS.out.sll HS.out.seen)
      clear hM hno
      go_wp2_with fail
      go_ret2
      refine ⟨sb, by rw [← HM.out]; rfl, ?_, hbel1⟩
      rw [← HSd.out]
      exact HS.out.so.base_le hbel.size
    | true =>
      have hin : (0 : Int) ∈ L := by have := of_decide_eq_true Hp0.out; exact this
      have Hin := Lib.hid hin
      clear hin
      go_wp2_with fail
      refine (spec_l04Push Jn sn A n c n w.heap.size _ w.heap.size es fl t b g sb bb _ L how sl bl HK.out (h.below hbel1) hbw hlt (cell_on x1 hbel1 hbw) HS.out Hin.out HF.out HO1.out (Nat.lt_of_lt_of_le hlt hb1.size)).mono ?_
      rintro e w2 ⟨rfl, fl', hf', hO', hg2⟩
      have HF' := Lib.hid hf'
      have HO' := Lib.hid hO'
      have hbel2 := own_grown hbel1 HO1.out (Nat.le_refl _) hbel1.size hg2
      have hsz2 := hg2.size
      have hsz1 := hb1.size
      clear hf' hO'
      go_wp2_with fail
      go_roundg (gk - 1)
      case measure => omega
      case rel => exact ⟨t + 1, fl', by go_num, by omega, by rw [Int.natCast_add]; exact HF', HO', hbel2, by omega⟩
set_option maxHeartbeats 400000 in
theorem spec_l04List (A : Option Addr) (n c : Nat) (bl : List Bool) (w : World) (hmax : n ≤ 1048576) (h : Sl w w.heap.size 1 bcell A n bl) :
    Calls Try.prog 54 #[.slice A n c] w fun e w' => ∃ v, e = .returned v ∧ Own w' w.heap.size 2 1 icell v (idxs (fun i => bl.getD i false) n) ∧ Below w.heap.size w w' := by
  obtain ⟨i0, hi, hz0, hz1, hz2⟩ := info_parts info_int64
  go_enter Try.func54, Try.ntmps54
  go_wp2
  go_loopw [3, 4] (fun v i wr => ∃ k : Nat, k ≤ n ∧ i = .int .i64 k ∧ Own wr w.heap.size 2 1 icell v (idxs (fun i => bl.getD i false) k) ∧ Below w.heap.size w wr) (fun _ i _ => n - (intOf i).toNat)
  case atStart => exact ⟨0, by omega, rfl, own_new_empty _ _ _ _ _ (Nat.le_refl _), below_al (Below.refl _ _) _⟩
  case round =>
    obtain ⟨k, hk, rfl, hown, hbel⟩ := hrel
    have Hown := Lib.hid hown
    have hll := idxs_len (fun i => bl.getD i false) k
    clear hown
    by_cases hlt : k < n
    · obtain ⟨b, off, rfl, hb, H⟩ := h.at_ (by omega)
      obtain ⟨x, hx⟩ := h.get hlt
      have c0 := (H.below hbel hb).b1 hx
      have hg : bl.getD k false = x := by rw [List.getD_eq_getElem?_getD, hx]; rfl
      have Hg := Lib.hid hg
      clear hx hg
      cases x with
      | true =>
        go_wp2_with (at_builtin; refine wpList_push rfl _ _ 34 rfl w.heap.size 2 i0 (.int .i64 0) 1 8 Try.underlying34 hi hz0 hz1 hz2 rfl (by omega) icell_len (fun e u hu => by simp [icell] at hu; subst hu; rfl) _ _ (k : Int) rfl Hown.out _ rfl _ rfl (by first | rfl | simp) (by omega) (by omega) hbel.size ?_; intro v2 w2 ho2 hg2; have hbel2 := own_grown hbel Hown.out (Nat.le_refl _) hbel.size hg2; have Ho2 := Lib.hid ho2; clear ho2)
        go_roundw
        case rel => exact ⟨k + 1, by omega, by go_num, by rw [idxs_yes Hg.out]; exact Ho2.out, hbel2⟩
        case measure => simp [intOf]; omega
      | false =>
        go_wp2
        go_roundw
        case rel => exact ⟨k + 1, by omega, by go_num, by rw [idxs_no Hg.out]; exact Hown.out, hbel⟩
        case measure => simp [intOf]; omega
    · go_wp2
      go_ret
      have hkn : k = n := by omega
      subst hkn
      exact ⟨_, rfl, Hown.out, hbel⟩

end Go.Proofs.Ytogjkcakoahpiaa

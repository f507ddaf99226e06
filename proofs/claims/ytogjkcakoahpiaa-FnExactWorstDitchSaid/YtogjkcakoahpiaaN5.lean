/- Walks over functions of this seat, by contract. Conditions: those that each theorem states. -/
import Derived.Test.YtogjkcakoahpiaaN4
import Derived.Deep.Cut
namespace Go.Proofs.Ytogjkcakoahpiaa
open Go.RowKit Go.Sort

theorem size_setC (w : World) (a : Addr) (v : Value) : (w.setCell a v).heap.size = w.heap.size := by simp [World.setCell]
/-- what the reference's walk hands back -/
def WOut (w w' : World) (g Jn : Nat) (es : List Q3) (fl : List Int) (src : Int) : Prop :=
  ∃ sb bb L how sl bl, WSt w' w.heap.size g sb bb Jn es fl src L how sl bl ∧ ClosedTo es fl L es.length ∧ Below w.heap.size w w'
set_option maxHeartbeats 8000000 in
set_option maxRecDepth 100000 in
theorem spec_l04Walk (Jn sn : Nat) (A F : Option Addr) (n c m cf : Nat) (es : List Q3) (fl : List Int) (b : Nat) (w : World) (hok : netOk Jn es = true) (hs0 : 1 ≤ sn) (hs : sn < Jn)
    (h : Sl w w.heap.size 3 Q3.cells A n es) (hF : Sl w w.heap.size 1 icell F m fl) (hml : m = n) (hbw : b < w.heap.size)
    (x0 : w.cell? ⟨b, 0, none⟩ = some (.int .i64 (Jn : Int))) (x1 : w.cell? ⟨b, 1, none⟩ = some (.slice A n c)) :
    Calls Try.prog 87 #[.pointer (some ⟨b, 0, none⟩), .slice F m cf, .int .i64 (sn : Int)] w fun e w' =>
      ∃ g, e = .returned (.pointer (some ⟨g, 0, none⟩)) ∧ WOut w w' g Jn es fl (sn : Int) := by
  obtain ⟨⟨j1, j2⟩, hn20, hall⟩ := netOk_iff.1 hok
  have hJ : Jn ≤ 10 := by omega
  have HALL := Lib.hid (all_iff_get.1 hall)
  have Hn := Lib.hid h.len
  have Hm := Lib.hid hF.len
  have hn20' : n ≤ 20 := by have := h.len; omega
  subst hml
  clear hok hall
  obtain ⟨i0, hi, hz0, hz1, hz2⟩ := info_parts info_bool
  obtain ⟨i0', hi', hz0', hz1', hz2'⟩ := info_parts info_int
  have hmk := make_all Try.underlying70 hi hz0 Jn (by rw [hz2]; omega) (by omega)
  have hmk' := make_all Try.underlying113 hi' hz0' Jn (by rw [hz2']; omega) (by omega)
  rw [hz1] at hmk
  rw [hz1'] at hmk'
  clear hi hz0 hz1 hz2 hi' hz0' hz1' hz2'
  go_enter Try.func87, Try.ntmps87
  go_wp2_with fail
  go_cut [7] (fun p wx => ∃ g sb bb, p = .pointer (some ⟨g, 0, none⟩) ∧ Mk w wx g sb bb Jn)
  case first =>
    go_region
    all_goals (go_wp2_with fail; go_meet)
    · exact ⟨_, _, _, rfl, (mk_sb w Jn hJ _).drew⟩
    · exact ⟨_, _, _, rfl, (mk_bs w Jn hJ _).drew⟩
  case rest =>
  obtain ⟨g, sb, bb, rfl, HM⟩ := hcut
  clear hmk hmk'
  have hsi : (0 : Int) ≤ (sn : Int) := by omega
  have hsj : (sn : Int) < (Jn : Int) := by omega
  have y0 := HM.g0
  have y1 := own_b0 HM.so (k := sn) (x := false) (by rw [List.getElem?_replicate, if_pos hs])
  have y2 := own_free HM.so sn
  have hBm := HM.bel
  have HS := wst_start (ds := es) (fl := fl) HM hs
  have hBs := below_st HM.bel ⟨sb, sn, none⟩ HM.gb.2.2.1 (.bool true)
  clear HM
  have hBs' : Below w.heap.size w (wc.setCell ⟨sb, sn, none⟩ (.bool true)) := hBs
  have HS0 := Lib.hid HS
  clear HS
  go_wp2_with fail
  clear y0 y1 y2 hBm hBs
  go_loopg [8] (Jn + 1) (fun gk mv wr => ∃ (mb : Bool) (L : List Int) (how : Int → Nat) (sl : List Bool) (bl : List Int), mv = .bool mb ∧ Hid (WSt wr w.heap.size g sb bb Jn es fl (sn : Int) L how sl bl) ∧ Hid (mb = false → ClosedTo es fl L es.length) ∧ Hid (mb = true → Jn + 1 ≤ gk + L.length) ∧ Below w.heap.size w wr)
  case atStart => exact ⟨true, _, _, _, _, rfl, HS0, Lib.hid (fun h => by cases h), Lib.hid (fun _ => by omega), hBs'⟩
  case round =>
    obtain ⟨mb, L, how, sl, bl, rfl, HS, HC, HG, hbel⟩ := hrel
    clear HS0 hBs'
    cases mb with
    | false =>
      have Hcl := Lib.hid (HC.out rfl)
      go_wp2_with fail
      go_ret
      exact ⟨g, rfl, sb, bb, L, how, sl, bl, HS.out, Hcl.out, hbel⟩
    | true =>
      have hgk := HG.out rfl
      have hLJ := HS.out.len
      go_wp2_with fail
      obtain ⟨wo, hwo⟩ : ∃ wo : World, wo = wr := ⟨_, rfl⟩
      subst hwo
      obtain ⟨gn, hgn⟩ : ∃ x : Nat, x = gk := ⟨_, rfl⟩
      subst hgn
      go_loopg [8, 9] m (fun gj mv iv wr => ∃ (mb : Bool) (k : Nat) (L2 : List Int) (how2 : Int → Nat) (sl2 : List Bool) (bl2 : List Int), mv = .bool mb ∧ iv = .int .i64 k ∧ k ≤ m ∧ gj + k = m ∧ Hid (WSt wr w.heap.size g sb bb Jn es fl (sn : Int) L2 how2 sl2 bl2) ∧ Hid (mb = false → ClosedTo es fl L2 k) ∧ Hid ((mb = true → L.length + 1 ≤ L2.length) ∧ L.length ≤ L2.length) ∧ Below w.heap.size w wr)
      case atStart => exact ⟨false, 0, L, how, sl, bl, rfl, rfl, by omega, by omega, HS, Lib.hid (fun _ j d f hj => by omega), Lib.hid ⟨fun h => (by cases h), Nat.le_refl _⟩, hbel⟩
      case round =>
        obtain ⟨mb, k, L2, how2, sl2, bl2, rfl, rfl, hk, hgj, HS2, HC2, HL2, hbel2⟩ := hrel
        have xb1 := cell_on x1 hbel2 hbw
        by_cases hlt : k < m
        rotate_left
        · have hkm : k = m := by omega
          subst hkm
          go_wp2_with fail
          go_roundg (gn - 1)
          case measure => omega
          case rel => exact ⟨mb, L2, how2, sl2, bl2, rfl, HS2, Lib.hid (fun e => by have := HC2.out e; rw [Hn.out]; exact this), Lib.hid (fun e => by have := HL2.out.1 e; omega), hbel2⟩
        obtain ⟨e, he⟩ := h.get hlt
        obtain ⟨f, hf⟩ := hF.get hlt
        obtain ⟨b', off, rfl, hb', H⟩ := h.at_ (by omega)
        obtain ⟨bf, offf, rfl, hbf, HFl⟩ := hF.at_ (by omega)
        obtain ⟨⟨a1, a2⟩, ⟨b1, b2⟩, hab, c1, c2⟩ := dOk_iff.1 (HALL.out k e he)
        obtain ⟨ea', eb', ec⟩ := e
        dsimp only at a1 a2 b1 b2 hab c1 c2
        obtain ⟨ea, rfl⟩ : ∃ x : Nat, ea' = (x : Int) := ⟨ea'.toNat, by omega⟩
        obtain ⟨eb, rfl⟩ : ∃ x : Nat, eb' = (x : Int) := ⟨eb'.toNat, by omega⟩
        have haJ : ea < Jn := by omega
        have hbJ : eb < Jn := by omega
        obtain ⟨d0, d1, d2⟩ := (H.below hbel2 hb').q3 he
        have f0 := (HFl.below hbel2 hbf).i1 hf
        dsimp only at d0 d1 d2
        have hsz := hbel2.size
        obtain ⟨pa, hpa⟩ : ∃ p, decide ((ea : Int) ∈ L2) = p := ⟨_, rfl⟩
        obtain ⟨pb, hpb⟩ : ∃ p, decide ((eb : Int) ∈ L2) = p := ⟨_, rfl⟩
        have s0 := own_b0 HS2.out.so (HS2.out.seen ea haJ)
        have s1 := own_b0 HS2.out.so (HS2.out.seen eb hbJ)
        rw [hpa] at s0
        rw [hpb] at s1
        have g0 := HS2.out.g0
        obtain ⟨gb1, gb2, gb3, gb4, gb5, gb6⟩ := HS2.out.gb
        have f0q := cell_ra f0 (by omega)
        have s0q := cell_ra s0 gb4
        have s1q := cell_ra s1 gb4
        have g0q := cell_ra g0 gb2
        have ia0 : (0 : Int) ≤ (ea : Int) := by omega
        have ia1 : (ea : Int) < (Jn : Int) := by omega
        have ib0 : (0 : Int) ≤ (eb : Int) := by omega
        have ib1 : (eb : Int) < (Jn : Int) := by omega
        have He := Lib.hid he
        have Hf := Lib.hid hf
        have Hpa := Lib.hid hpa
        have Hpb := Lib.hid hpb
        clear he hf hpa hpb s0 s1
        obtain ⟨q0, q1, q2⟩ : (∀ d os, (grow (redrawn (wr.alloc (.cells #[.int .i64 (ea : Int), .int .i64 (eb : Int), .int .i64 ec] 118)) d) os).cell? ⟨wr.heap.size, 0, none⟩ = some (.int .i64 (ea : Int))) ∧ (∀ d os, (grow (redrawn (wr.alloc (.cells #[.int .i64 (ea : Int), .int .i64 (eb : Int), .int .i64 ec] 118)) d) os).cell? ⟨wr.heap.size, 1, none⟩ = some (.int .i64 (eb : Int))) ∧ (∀ d os, (grow (redrawn (wr.alloc (.cells #[.int .i64 (ea : Int), .int .i64 (eb : Int), .int .i64 ec] 118)) d) os).cell? ⟨wr.heap.size, 2, none⟩ = some (.int .i64 ec)) :=
          ⟨fun d os => (box3c wr _ _ _ _ d os).1, fun d os => (box3c wr _ _ _ _ d os).2.1, fun d os => (box3c wr _ _ _ _ d os).2.2⟩
        go_wp2_with fail
        go_cut [73] (fun s wx => ∃ p : Bool, s = .bool p ∧ Hid (p = (decide (f < ec) && pa && !pb)) ∧ Pre w wx g sb bb Jn wr.heap.size sl2 bl2 (ea : Int) (eb : Int) ec ∧ Below wr.heap.size wr wx)
        case first =>
          cases pa <;> cases pb <;> by_cases hfc : f < ec
          all_goals
            refine wp_region_quiet_below (by kernel_rfl) (by kernel_rfl) ?_
            repeat (go_big_quiet_step (fail))
            refine wpQuiet_nil ?_
            intro wq hwq
            have hbq := below_of_class hwq
            clear hwq f0q s0q s1q g0q q0 q1 q2
            go_wp2_with fail
            go_meet
            exact ⟨_, rfl, Lib.hid (by simp [hfc]), Pre.of HS2.out hbq hbel2, below_then (below_al (Below.refl _ wr) (.cells #[.int .i64 (ea : Int), .int .i64 (eb : Int), .int .i64 ec] 118)) hbq⟩
        case rest =>
        obtain ⟨p, rfl, Hp, HP, hb4⟩ := hcut
        obtain ⟨w4, hw4⟩ : ∃ x : World, x = wc := ⟨_, rfl⟩
        subst hw4
        clear f0q s0q s1q g0q q0 q1 q2 f0 d0 d1 d2 g0
        go_upto_if 73 with fail
        go_cut [8] (fun mv wx => ∃ (mb3 : Bool) (L3 : List Int) (how3 : Int → Nat) (sl3 : List Bool) (bl3 : List Int), mv = .bool mb3 ∧ Hid (WSt wx w.heap.size g sb bb Jn es fl (sn : Int) L3 how3 sl3 bl3) ∧ Pre w wx g sb bb Jn wr.heap.size sl3 bl3 (ea : Int) (eb : Int) ec ∧
          Hid ((mb3 = false → mb = false ∧ L3 = L2 ∧ (f < ec → (ea : Int) ∈ L2 → (eb : Int) ∈ L2)) ∧ (mb3 = true → mb = true ∨ L2.length + 1 ≤ L3.length) ∧ L2.length ≤ L3.length) ∧ wr.heap.size ≤ wx.heap.size)
        case first =>
          cases p with
          | true =>
            obtain ⟨hfc, hpa', hpb'⟩ : f < ec ∧ pa = true ∧ pb = false := by have := Hp.out; simp at this; obtain ⟨⟨h1, h2⟩, h3⟩ := this; exact ⟨h1, h2, h3⟩
            have hain : (ea : Int) ∈ L2 := of_decide_eq_true (Hpa.out.trans hpa')
            have hbout : (eb : Int) ∉ L2 := of_decide_eq_false (Hpb.out.trans hpb')
            have k0 := HP.g0
            have k1 := HP.d1
            have k2 := own_b0 HP.so (HS2.out.seen eb hbJ)
            have k3 := own_free HP.so eb
            go_wp2_with fail
            go_cut [] (fun wx => Pre w wx g sb bb Jn wr.heap.size (sl2.set eb true) bl2 (ea : Int) (eb : Int) ec ∧ w4.heap.size ≤ wx.heap.size)
            case first =>
              go_region
              go_wp2_with fail
              go_meet
              exact ⟨(HP.setS (by rw [HS2.out.sll]; exact hbJ)).drew, by show _ ≤ (World.setCell _ _ _).heap.size; rw [size_setC]; exact Nat.le_refl _⟩
            case rest =>
            obtain ⟨HP5, hs5⟩ := hcut
            obtain ⟨w5, hw5⟩ : ∃ x : World, x = wc := ⟨_, rfl⟩
            subst hw5
            clear k0 k1 k2 k3
            have k0 := HP5.g1
            have k1 := HP5.d1
            obtain ⟨ov, hov⟩ : ∃ ov, bl2[eb]? = some ov := ⟨_, List.getElem?_eq_getElem (by rw [HS2.out.bll]; exact hbJ)⟩
            have k2 := own_i0 HP5.bo hov
            have k3 := own_free HP5.bo eb
            have Hov := Lib.hid hov
            clear hov
            go_upto_region 12 with fail
            go_cut [] (fun wx => Pre w wx g sb bb Jn wr.heap.size (sl2.set eb true) (bl2.set eb (k : Int)) (ea : Int) (eb : Int) ec ∧ w4.heap.size ≤ wx.heap.size)
            case first =>
              go_region
              go_wp2_with fail
              go_meet
              exact ⟨(HP5.setB (by rw [HS2.out.bll]; exact hbJ) _).drew, by show _ ≤ (World.setCell _ _ _).heap.size; rw [size_setC]; exact hs5⟩
            case rest =>
            obtain ⟨HP6, hs6⟩ := hcut
            obtain ⟨w6, hw6⟩ : ∃ x : World, x = wc := ⟨_, rfl⟩
            subst hw6
            clear k0 k1 k2 k3
            go_wp2_with fail
            go_meet
            refine ⟨true, _, _, _, _, rfl, Lib.hid (HS2.out.more (u := (ea : Int)) He.out Hf.out hain hbout hbJ (.inl ⟨rfl, rfl, hfc⟩) (x := (k : Int)) (by simp) HP6.so HP6.bo HP6.g0 HP6.g1 (Nat.le_trans hb4.size hs6)), HP6, Lib.hid ⟨fun e => (by cases e), fun _ => .inr (by simp), by simp⟩, Nat.le_trans hb4.size hs6⟩
          | false =>
            have hno : f < ec → (ea : Int) ∈ L2 → (eb : Int) ∈ L2 := fun h1 h2 => by
              have e1 : pa = true := by rw [← Hpa.out]; exact decide_eq_true h2
              have e2 := Hp.out
              rw [e1, decide_eq_true h1] at e2
              have e3 : pb = true := by
                rcases Bool.eq_false_or_eq_true pb with h | h
                · exact h
                · rw [h] at e2; exact absurd e2 (by decide)
              exact of_decide_eq_true (Hpb.out.trans e3)
            have Hno := Lib.hid hno
            clear hno
            go_wp2_with fail
            go_meet
            exact ⟨mb, _, _, _, _, rfl, Lib.hid (HP.wst HS2.out hb4.size), HP, Lib.hid ⟨fun e => ⟨e, rfl, Hno.out⟩, fun e => .inl e, Nat.le_refl _⟩, hb4.size⟩
        case rest =>
        obtain ⟨mb3, L3, how3, sl3, bl3, rfl, HS3, HP3, HL3, hs3⟩ := hcut
        obtain ⟨w7, hw7⟩ : ∃ x : World, x = wc := ⟨_, rfl⟩
        subst hw7
        clear HP hb4 Hp Hpa Hpb
        obtain ⟨pa, hpa⟩ : ∃ p, decide ((ea : Int) ∈ L3) = p := ⟨_, rfl⟩
        obtain ⟨pb, hpb⟩ : ∃ p, decide ((eb : Int) ∈ L3) = p := ⟨_, rfl⟩
        have s0 := own_b0 HP3.so (HS3.out.seen ea haJ)
        have s1 := own_b0 HP3.so (HS3.out.seen eb hbJ)
        rw [hpa] at s0
        rw [hpb] at s1
        have hbel3 := HP3.bel
        have f0 := (HFl.below hbel3 hbf).i1 Hf.out
        have hsz3 := hbel3.size
        obtain ⟨gc1, gc2, gc3, gc4, gc5, gc6⟩ := HS3.out.gb
        have f0q := fun d os => cell_regrown f0 d os
        have s0q := fun d os => cell_regrown s0 d os
        have s1q := fun d os => cell_regrown s1 d os
        have g0q := fun d os => cell_regrown HP3.g0 d os
        have q0 := fun d os => cell_regrown HP3.d0 d os
        have q1 := fun d os => cell_regrown HP3.d1 d os
        have Hpa := Lib.hid hpa
        have Hpb := Lib.hid hpb
        clear hpa hpb s0 s1 f0
        go_upto_region 14 with fail
        go_cut [114] (fun s wx => ∃ p : Bool, s = .bool p ∧ Hid (p = (decide (0 < f) && pb && !pa)) ∧ Pre w wx g sb bb Jn wr.heap.size sl3 bl3 (ea : Int) (eb : Int) ec ∧ Below w7.heap.size w7 wx)
        case first =>
          cases pa <;> cases pb <;> by_cases hfc : 0 < f
          all_goals
            refine wp_region_quiet_below (by kernel_rfl) (by kernel_rfl) ?_
            repeat (go_big_quiet_step (fail))
            refine wpQuiet_nil ?_
            intro wq hwq
            have hbq := below_of_class hwq
            clear hwq f0q s0q s1q g0q q0 q1
            go_wp2_with fail
            go_meet
            exact ⟨_, rfl, Lib.hid (by simp [hfc]), HP3.on hbq, hbq⟩
        case rest =>
        obtain ⟨p, rfl, Hp, HP, hb4⟩ := hcut
        obtain ⟨w8, hw8⟩ : ∃ x : World, x = wc := ⟨_, rfl⟩
        subst hw8
        clear f0q s0q s1q g0q q0 q1
        go_upto_if 114 with fail
        cases p with
        | true =>
          obtain ⟨hfc, hpa', hpb'⟩ : 0 < f ∧ pb = true ∧ pa = false := by have := Hp.out; simp at this; obtain ⟨⟨h1, h2⟩, h3⟩ := this; exact ⟨h1, h2, h3⟩
          have hain : (eb : Int) ∈ L3 := of_decide_eq_true (Hpb.out.trans hpa')
          have hbout : (ea : Int) ∉ L3 := of_decide_eq_false (Hpa.out.trans hpb')
          have k0 := HP.g0
          have k1 := HP.d0
          have k2 := own_b0 HP.so (HS3.out.seen ea haJ)
          have k3 := own_free HP.so ea
          go_upto_region 15 with fail
          go_cut [] (fun wx => Pre w wx g sb bb Jn wr.heap.size (sl3.set ea true) bl3 (ea : Int) (eb : Int) ec ∧ w8.heap.size ≤ wx.heap.size)
          case first =>
            go_region
            go_wp2_with fail
            go_meet
            exact ⟨(HP.setS (by rw [HS3.out.sll]; exact haJ)).drew, by show _ ≤ (World.setCell _ _ _).heap.size; rw [size_setC]; exact Nat.le_refl _⟩
          case rest =>
          obtain ⟨HP5, hs5⟩ := hcut
          obtain ⟨w5, hw5⟩ : ∃ x : World, x = wc := ⟨_, rfl⟩
          subst hw5
          clear k0 k1 k2 k3
          have k0 := HP5.g1
          have k1 := HP5.d0
          obtain ⟨ov, hov⟩ : ∃ ov, bl3[ea]? = some ov := ⟨_, List.getElem?_eq_getElem (by rw [HS3.out.bll]; exact haJ)⟩
          have k2 := own_i0 HP5.bo hov
          have k3 := own_free HP5.bo ea
          have k4 := cell_on x1 HP5.bel hbw
          have hwk : IntKind.i64.wrap ((k : Int) - (m : Int)) = (k : Int) - (m : Int) := by rw [IntKind.wrap_i64]; omega
          have Hov := Lib.hid hov
          clear hov
          go_upto_region 16 with fail
          go_cut [] (fun wx => Pre w wx g sb bb Jn wr.heap.size (sl3.set ea true) (bl3.set ea ((k : Int) - (m : Int))) (ea : Int) (eb : Int) ec ∧ w8.heap.size ≤ wx.heap.size)
          case first =>
            go_region
            go_wp2_with fail
            go_meet
            exact ⟨(HP5.setB (by rw [HS3.out.bll]; exact haJ) _).drew, by show _ ≤ (World.setCell _ _ _).heap.size; rw [size_setC]; exact hs5⟩
          case rest =>
          obtain ⟨HP6, hs6⟩ := hcut
          clear k0 k1 k2 k3 k4
          go_wp2_with fail
          go_roundg (gk - 1)
          case measure => omega
          case rel =>
            have hsz : wr.heap.size ≤ wc.heap.size := Nat.le_trans hs3 (Nat.le_trans hb4.size hs6)
            refine ⟨true, k + 1, _, _, _, _, rfl, by go_num, by omega, by omega, Lib.hid (HS3.out.more (u := (eb : Int)) He.out Hf.out hain hbout haJ (.inr ⟨rfl, rfl, hfc⟩) (x := (k : Int) - (m : Int)) ?_ HP6.so HP6.bo HP6.g0 HP6.g1 (Nat.le_trans hb4.size hs6)), Lib.hid (fun e => by cases e), Lib.hid ⟨fun _ => ?_, ?_⟩, HP6.bel⟩
            · rw [if_neg (fun e : (eb : Int) = (ea : Int) => hab e.symm), Hn.out]
            · have := HL3.out.2.2
              have := HL2.out.2
              simp only [List.length_append, List.length_singleton]
              omega
            · have := HL3.out.2.2
              have := HL2.out.2
              simp only [List.length_append, List.length_singleton]
              omega
        | false =>
          have hno : 0 < f → (eb : Int) ∈ L3 → (ea : Int) ∈ L3 := fun h1 h2 => by
            have e1 : pb = true := by rw [← Hpb.out]; exact decide_eq_true h2
            have e2 := Hp.out
            rw [e1, decide_eq_true h1] at e2
            have e3 : pa = true := by
                rcases Bool.eq_false_or_eq_true pa with h | h
                · exact h
                · rw [h] at e2; exact absurd e2 (by decide)
            exact of_decide_eq_true (Hpa.out.trans e3)
          have Hno := Lib.hid hno
          clear hno
          go_wp2_with fail
          go_roundg (gk - 1)
          case measure => omega
          case rel =>
            refine ⟨mb3, k + 1, L3, how3, sl3, bl3, rfl, by go_num, by omega, by omega, Lib.hid (HP.wst HS3.out hb4.size), Lib.hid (fun e => ?_), Lib.hid ⟨fun e => ?_, ?_⟩, HP.bel⟩
            · obtain ⟨e1, e2, e3⟩ := HL3.out.1 e
              subst e2
              intro j d' f' hj hd' hf'
              by_cases hjk : j < k
              · exact HC2.out e1 j d' f' hjk hd' hf'
              · have hj' : j = k := by omega
                subst hj'
                rw [He.out] at hd'
                rw [Hf.out] at hf'
                injection hd' with hd'
                injection hf' with hf'
                subst hd'
                subst hf'
                exact ⟨e3, Hno.out⟩
            · have h1 := HL3.out.2.2
              rcases HL3.out.2.1 e with h | h
              · have := HL2.out.1 h; omega
              · have := HL2.out.2; omega
            · have h1 := HL3.out.2.2
              have := HL2.out.2
              omega

end Go.Proofs.Ytogjkcakoahpiaa

/- Walks over functions of this seat, by contract. Conditions: those that each theorem states. -/
import Derived.Test.YtogjkcakoahpiaaN10
namespace Go.Proofs.Ytogjkcakoahpiaa
open Go.RowKit Go.Sort

noncomputable def gfV (J : Int) (es : List Q3) (src : Int) : Int := if netCode J es src = 0 then mflow es src else 0
noncomputable def nsL (J : Int) (es : List Q3) (src : Int) : List Int := if netCode J es src = 0 then idxs (fun i => mside es src (i : Int)) J.toNat else []
theorem netCode_zero {J src : Int} {es : List Q3} (h : netCode J es src = 0) : netOk J es = true ∧ inR src 1 (J - 1) = true ∧ ∃ Jn sn : Nat, J = (Jn : Int) ∧ src = (sn : Int) ∧ 1 ≤ sn ∧ sn < Jn ∧ Jn ≤ 10 := by
  unfold netCode at h
  split at h
  · omega
  · rename_i h1
    split at h
    · omega
    · rename_i h2
      have k1 : netOk J es = true := by simpa using h1
      have k2 : inR src 1 (J - 1) = true := by simpa using h2
      obtain ⟨⟨j1, j2⟩, _⟩ := netOk_iff.1 k1
      obtain ⟨s1, s2⟩ := inR_iff.1 k2
      exact ⟨k1, k2, J.toNat, src.toNat, by omega, by omega, by omega, by omega, by omega⟩
theorem mside_idxs {es : List Q3} {src : Int} {Jn : Nat} {L : List Int} {t : Int} (hM : IsMax es src t (fun v => decide (v ∈ L))) : idxs (fun i => decide ((i : Int) ∈ L)) Jn = idxs (fun i => mside es src (i : Int)) Jn := by
  have := (isMax_flow hM).2
  rw [← this]
set_option maxHeartbeats 1000000 in
theorem spec_GreatestFlow (J src : Int) (A : Option Addr) (n c : Nat) (es : List Q3) (w : World) (hmax : n ≤ 1048576) (h : Sl w w.heap.size 3 Q3.cells A n es) :
    Calls Try.prog 10 #[.agg #[.int .i64 J, .slice A n c], .int .i64 src] w fun e w' => e = .returned (.tuple #[.int .i64 (gfV J es src), .int .i64 (netCode J es src)]) ∧ Below w.heap.size w w' := by
  have hb0 := below_al (Below.refl _ w) (.cells #[.int .i64 J, .slice A n c] 30)
  obtain ⟨x0, x1⟩ := box2k (Below.refl (w.alloc (.cells #[.int .i64 J, .slice A n c] 30)).heap.size (w.alloc (.cells #[.int .i64 J, .slice A n c] 30)))
  have hl : w.heap.size < (w.alloc (.cells #[.int .i64 J, .slice A n c] 30)).heap.size := by simp
  by_cases hc : netCode J es src = 0
  · obtain ⟨hok, hin, Jn, sn, rfl, rfl, s1, s2, s3⟩ := netCode_zero hc
    have hv : gfV Jn es sn = mflow es sn := if_pos hc
    have HV := Lib.hid hv
    have HC := Lib.hid hc
    clear hv hc
    go_enter Try.func10, Try.ntmps10
    go_wp2_with fail
    refine (spec_l04Code Jn sn A n c es w.heap.size _ hmax (h.on hb0) hl x0 x1).mono ?_
    rintro e w1 ⟨rfl, hb1⟩
    rw [HC.out]
    have hb01 := below_then hb0 hb1
    go_wp2_with fail
    refine (spec_l04Most Jn sn A n c es w.heap.size _ hok s1 s2 (h.on hb01) (Nat.lt_of_lt_of_le hl hb1.size) (cell_on x0 hb1 hl) (cell_on x1 hb1 hl)).mono ?_
    rintro e w2 ⟨sb, rfl, _, hb2⟩
    go_wp2_with fail
    go_ret2
    exact ⟨by rw [HV.out, HC.out]; rfl, below_then hb01 hb2⟩
  · have hv : gfV J es src = 0 := if_neg hc
    obtain ⟨cc, hcc⟩ : ∃ cc, netCode J es src = cc := ⟨_, rfl⟩
    rw [hv, hcc]
    rw [hcc] at hc
    have hne : (cc != 0) = true := by simpa using hc
    have HCC := Lib.hid hcc
    clear hv hcc hc
    go_enter Try.func10, Try.ntmps10
    go_wp2_with fail
    refine (spec_l04Code J src A n c es w.heap.size _ hmax (h.on hb0) hl x0 x1).mono ?_
    rintro e w1 ⟨rfl, hb1⟩
    rw [HCC.out]
    go_wp2_with fail
    go_ret2
    exact ⟨rfl, below_then hb0 hb1⟩
set_option maxHeartbeats 1000000 in
theorem spec_NarrowSide (J src : Int) (A : Option Addr) (n c : Nat) (es : List Q3) (w : World) (hmax : n ≤ 1048576) (h : Sl w w.heap.size 3 Q3.cells A n es) :
    Calls Try.prog 16 #[.agg #[.int .i64 J, .slice A n c], .int .i64 src] w fun e w' => ∃ v, e = .returned (.tuple #[v, .int .i64 (netCode J es src)]) ∧ Own w' w.heap.size 2 1 icell v (nsL J es src) ∧ Below w.heap.size w w' := by
  have hb0 := below_al (Below.refl _ w) (.cells #[.int .i64 J, .slice A n c] 30)
  obtain ⟨x0, x1⟩ := box2k (Below.refl (w.alloc (.cells #[.int .i64 J, .slice A n c] 30)).heap.size (w.alloc (.cells #[.int .i64 J, .slice A n c] 30)))
  have hl : w.heap.size < (w.alloc (.cells #[.int .i64 J, .slice A n c] 30)).heap.size := by simp
  by_cases hc : netCode J es src = 0
  · obtain ⟨hok, hin, Jn, sn, rfl, rfl, s1, s2, s3⟩ := netCode_zero hc
    have hv : nsL Jn es sn = idxs (fun i => mside es sn (i : Int)) Jn := by rw [nsL, if_pos hc]; simp
    have hsd : idxs (fun i => (sideL es sn Jn).getD i false) Jn = idxs (fun i => mside es sn (i : Int)) Jn := by
      unfold idxs
      congr 1
      apply List.filter_congr
      intro i hi
      rw [List.getD_eq_getElem?_getD, sideL_get (List.mem_range.1 hi)]; rfl
    have HV := Lib.hid (hv.trans hsd.symm)
    have HC := Lib.hid hc
    clear hv hc hsd
    go_enter Try.func16, Try.ntmps16
    go_wp2_with fail
    refine (spec_l04Code Jn sn A n c es w.heap.size _ hmax (h.on hb0) hl x0 x1).mono ?_
    rintro e w1 ⟨rfl, hb1⟩
    rw [HC.out]
    have hb01 := below_then hb0 hb1
    go_wp2_with fail
    refine (spec_l04Most Jn sn A n c es w.heap.size _ hok s1 s2 (h.on hb01) (Nat.lt_of_lt_of_le hl hb1.size) (cell_on x0 hb1 hl) (cell_on x1 hb1 hl)).mono ?_
    rintro e w2 ⟨sb, rfl, ho, hb2⟩
    have hb02 := below_then hb01 hb2
    have HO := Lib.hid ho
    clear ho
    go_wp2_with fail
    refine (spec_l04List _ Jn Jn _ _ (by omega) (own_sl HO.out bcell_len)).mono ?_
    rintro e w3 ⟨v, rfl, ho3, hb3⟩
    have HO3 := Lib.hid ho3
    clear ho3
    obtain ⟨A3, n3, c3, rfl, _, _⟩ := own_shape HO3.out
    go_wp2_with fail
    go_ret2
    exact ⟨_, by rw [HC.out]; rfl, by rw [HV.out]; exact HO3.out.base_le hb02.size, below_then hb02 hb3⟩
  · have hv : nsL J es src = [] := if_neg hc
    obtain ⟨cc, hcc⟩ : ∃ cc, netCode J es src = cc := ⟨_, rfl⟩
    rw [hv, hcc]
    rw [hcc] at hc
    have hne : (cc != 0) = true := by simpa using hc
    have HCC := Lib.hid hcc
    clear hv hcc hc
    go_enter Try.func16, Try.ntmps16
    go_wp2_with fail
    refine (spec_l04Code J src A n c es w.heap.size _ hmax (h.on hb0) hl x0 x1).mono ?_
    rintro e w1 ⟨rfl, hb1⟩
    rw [HCC.out]
    go_wp2_with fail
    go_ret2
    exact ⟨_, rfl, own_nil _ _ _ _ _, below_then hb0 hb1⟩
set_option maxHeartbeats 1000000 in
theorem impl_GreatestFlow (J src : Int) (A : Option Addr) (n c : Nat) (es : List Q3) (w : World) (hmax : n ≤ 1048576) (h : Sl w w.heap.size 3 Q3.cells A n es) :
    Calls Try.prog 12 #[.agg #[.int .i64 J, .slice A n c], .int .i64 src] w fun e w' => e = .returned (.tuple #[.int .i64 (gfV J es src), .int .i64 (netCode J es src)]) ∧ Below w.heap.size w w' := by
  have hb0 := below_al (Below.refl _ w) (.cells #[.int .i64 J, .slice A n c] 30)
  obtain ⟨x0, x1⟩ := box2k (Below.refl (w.alloc (.cells #[.int .i64 J, .slice A n c] 30)).heap.size (w.alloc (.cells #[.int .i64 J, .slice A n c] 30)))
  have hl : w.heap.size < (w.alloc (.cells #[.int .i64 J, .slice A n c] 30)).heap.size := by simp
  by_cases hk : netOk J es = true
  rotate_left
  · have hk' : netOk J es = false := by simpa using hk
    have hcc : netCode J es src = 1 := if_pos hk'
    have hv : gfV J es src = 0 := if_neg (by rw [hcc]; omega)
    rw [hv, hcc]
    clear hv hcc hk
    go_enter Try.func12, Try.ntmps12
    go_wp2_with (go_at_call 48; refine (impl_ValidNet J A n c es _ hmax (h.on hb0)).mono ?_; rintro e w1 ⟨rfl, hb1⟩; rw [hk'])
    go_ret2
    exact ⟨rfl, below_then hb0 hb1⟩
  obtain ⟨⟨j1, j2⟩, _⟩ := netOk_iff.1 hk
  by_cases hs : inR src 1 (J - 1) = true
  rotate_left
  · have hs' : inR src 1 (J - 1) = false := by simpa using hs
    have hcc : netCode J es src = 2 := by rw [netCode, if_neg (by simp [hk]), if_pos hs']
    have hv : gfV J es src = 0 := if_neg (by rw [hcc]; omega)
    rw [hv, hcc]
    clear hv hcc hs
    go_enter Try.func12, Try.ntmps12
    go_wp2_with (first
      | (go_at_call 48; refine (impl_ValidNet J A n c es _ hmax (h.on hb0)).mono ?_; rintro e w1 ⟨rfl, hb1⟩; rw [hk]; have y0 := cell_on x0 hb1 hl; have y1 := cell_on x1 hb1 hl)
      | (go_at_call 49; refine (impl_isInner J src _ j1 j2 _).mono ?_; rintro e w2 ⟨rfl, hb2⟩; rw [hs']))
    go_ret2
    exact ⟨rfl, below_then hb0 (below_then hb1 hb2)⟩
  have hc : netCode J es src = 0 := by rw [netCode, if_neg (by simp [hk]), if_neg (by simp [hs])]
  obtain ⟨hok, hin, Jn, sn, rfl, rfl, s1, s2, s3⟩ := netCode_zero hc
  have hv : gfV Jn es sn = mflow es sn := if_pos hc
  rw [hv, hc]
  clear hv hc
  go_enter Try.func12, Try.ntmps12
  go_wp2_with (first
    | (go_at_call 48; refine (impl_ValidNet Jn A n c es _ hmax (h.on hb0)).mono ?_; rintro e w1 ⟨rfl, hb1⟩; rw [hk]; have y0 := cell_on x0 hb1 hl; have y1 := cell_on x1 hb1 hl; have hl1 := Nat.lt_of_lt_of_le hl hb1.size)
    | (go_at_call 49; refine (impl_isInner Jn sn _ j1 j2 _).mono ?_; rintro e w2 ⟨rfl, hb2⟩; rw [hs]; have z0 := cell_on y0 hb2 hl1; have z1 := cell_on y1 hb2 hl1; have hb02 := below_then hb0 (below_then hb1 hb2))
    | (go_at_call 50; refine (impl_greatest Jn sn A n c es _ hok s1 s2 (h.on hb02)).mono ?_; rintro e w3 ⟨q, rfl, _, hb3⟩))
  go_ret2
  exact ⟨rfl, below_then hb02 hb3⟩
set_option maxHeartbeats 1000000 in
theorem impl_NarrowSide (J src : Int) (A : Option Addr) (n c : Nat) (es : List Q3) (w : World) (hmax : n ≤ 1048576) (h : Sl w w.heap.size 3 Q3.cells A n es) :
    Calls Try.prog 17 #[.agg #[.int .i64 J, .slice A n c], .int .i64 src] w fun e w' => ∃ v, e = .returned (.tuple #[v, .int .i64 (netCode J es src)]) ∧ Own w' w.heap.size 2 1 icell v (nsL J es src) ∧ Below w.heap.size w w' := by
  have hb0 := below_al (Below.refl _ w) (.cells #[.int .i64 J, .slice A n c] 30)
  obtain ⟨x0, x1⟩ := box2k (Below.refl (w.alloc (.cells #[.int .i64 J, .slice A n c] 30)).heap.size (w.alloc (.cells #[.int .i64 J, .slice A n c] 30)))
  have hl : w.heap.size < (w.alloc (.cells #[.int .i64 J, .slice A n c] 30)).heap.size := by simp
  by_cases hk : netOk J es = true
  rotate_left
  · have hk' : netOk J es = false := by simpa using hk
    have hcc : netCode J es src = 1 := if_pos hk'
    have hv : nsL J es src = [] := if_neg (by rw [hcc]; omega)
    rw [hv, hcc]
    clear hv hcc hk
    go_enter Try.func17, Try.ntmps17
    go_wp2_with (go_at_call 48; refine (impl_ValidNet J A n c es _ hmax (h.on hb0)).mono ?_; rintro e w1 ⟨rfl, hb1⟩; rw [hk'])
    go_ret2
    exact ⟨_, rfl, own_new_empty _ _ _ _ _ (below_then hb0 hb1).size, below_al (below_then hb0 hb1) _⟩
  obtain ⟨⟨j1, j2⟩, _⟩ := netOk_iff.1 hk
  by_cases hs : inR src 1 (J - 1) = true
  rotate_left
  · have hs' : inR src 1 (J - 1) = false := by simpa using hs
    have hcc : netCode J es src = 2 := by rw [netCode, if_neg (by simp [hk]), if_pos hs']
    have hv : nsL J es src = [] := if_neg (by rw [hcc]; omega)
    rw [hv, hcc]
    clear hv hcc hs
    go_enter Try.func17, Try.ntmps17
    go_wp2_with (first
      | (go_at_call 48; refine (impl_ValidNet J A n c es _ hmax (h.on hb0)).mono ?_; rintro e w1 ⟨rfl, hb1⟩; rw [hk]; have y0 := cell_on x0 hb1 hl; have y1 := cell_on x1 hb1 hl)
      | (go_at_call 49; refine (impl_isInner J src _ j1 j2 _).mono ?_; rintro e w2 ⟨rfl, hb2⟩; rw [hs']; have hb02 := below_then hb0 (below_then hb1 hb2)))
    go_ret2
    exact ⟨_, rfl, own_new_empty _ _ _ _ _ hb02.size, below_al hb02 _⟩
  have hc : netCode J es src = 0 := by rw [netCode, if_neg (by simp [hk]), if_neg (by simp [hs])]
  obtain ⟨hok, hin, Jn, sn, rfl, rfl, s1, s2, s3⟩ := netCode_zero hc
  have hv : nsL Jn es sn = idxs (fun i => mside es sn (i : Int)) Jn := by rw [nsL, if_pos hc]; simp
  rw [hv, hc]
  clear hv hc
  go_enter Try.func17, Try.ntmps17
  go_wp2_with (first
    | (go_at_call 48; refine (impl_ValidNet Jn A n c es _ hmax (h.on hb0)).mono ?_; rintro e w1 ⟨rfl, hb1⟩; rw [hk]; have y0 := cell_on x0 hb1 hl; have y1 := cell_on x1 hb1 hl; have hl1 := Nat.lt_of_lt_of_le hl hb1.size)
    | (go_at_call 49; refine (impl_isInner Jn sn _ j1 j2 _).mono ?_; rintro e w2 ⟨rfl, hb2⟩; rw [hs]; have z0 := cell_on y0 hb2 hl1; have z1 := cell_on y1 hb2 hl1; have hb02 := below_then hb0 (below_then hb1 hb2); have hl2 := Nat.lt_of_lt_of_le hl1 hb2.size)
    | (go_at_call 50; refine (impl_greatest Jn sn A n c es _ hok s1 s2 (h.on hb02)).mono ?_; rintro e w3 ⟨q, rfl, ⟨fl, hof, hff, hno⟩, hb3⟩; have HOF := Lib.hid hof; have HFF := Lib.hid hff; have HNO := Lib.hid hno; have u0 := cell_on z0 hb3 hl2; have u1 := cell_on z1 hb3 hl2; have hb03 := below_then hb02 hb3; clear hof hff hno)
    | (go_at_call 55; refine (impl_reached Jn sn A _ n c n es fl _ hok s1 s2 (h.on hb03) (own_sl HOF.out icell_len)).mono ?_; rintro e w4 ⟨lv, B, rfl, L, val, how, nn, hlo, _, _, _, hT, _, _, _, hcl, hb4⟩; have HLO := Lib.hid hlo; have HT := Lib.hid hT; have HCl := Lib.hid hcl; clear hlo hT hcl; obtain ⟨A4, n4, c4, rfl, _, _⟩ := own_shape HLO.out))
  go_ret2
  have hM := isMax_of HT.out HFF.out HCl.out (fun hin => HNO.out ((HT.out.all HCl.out 0).1 hin))
  refine ⟨_, rfl, ?_, below_then hb03 hb4⟩
  rw [← mside_idxs hM]
  exact HLO.out.base_le hb03.size

end Go.Proofs.Ytogjkcakoahpiaa

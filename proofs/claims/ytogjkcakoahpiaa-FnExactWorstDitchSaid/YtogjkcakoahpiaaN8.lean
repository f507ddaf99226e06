/- Walks over functions of this seat, by contract. Conditions: those that each theorem states. -/
import Derived.Test.YtogjkcakoahpiaaN7
import Derived.Maps.OwnSet
import Derived.Maps.OwnOps
namespace Go.Proofs.Ytogjkcakoahpiaa
open Go.RowKit Go.Sort

def hasB (xs : List Int) (x : Int) : Bool := xs.any (fun y => y == x)
theorem hasB_yes {xs : List Int} {x : Int} {k : Nat} {y : Int} (h : xs[k]? = some y) (e : (y == x) = true) : hasB xs x = true := by
  rw [hasB, List.any_eq_true]; exact ⟨y, List.mem_of_getElem? h, e⟩
theorem hasB_no {xs : List Int} {x : Int} (h : ∀ (k : Nat) y, xs[k]? = some y → (y == x) = false) : hasB xs x = false := by
  rw [hasB, List.any_eq_false]
  intro y hy
  obtain ⟨k, hk, rfl⟩ := List.mem_iff_getElem.1 hy
  have := h k _ (List.getElem?_eq_getElem hk)
  simp [this]
theorem hasB_iff {xs : List Int} {x : Int} : hasB xs x = true ↔ x ∈ xs := by
  rw [hasB, List.any_eq_true]
  constructor
  · rintro ⟨y, hy, e⟩
    have : y = x := by simpa using e
    exact this ▸ hy
  · intro h; exact ⟨x, h, by simp⟩
set_option maxHeartbeats 400000 in
theorem impl_has (A : Option Addr) (n c : Nat) (xs : List Int) (x : Int) (w : World) (hmax : n ≤ 1048576) (h : Sl w w.heap.size 1 icell A n xs) :
    Calls Try.prog 99 #[.slice A n c, .int .i64 x] w fun e w' => e = .returned (.bool (hasB xs x)) ∧ Below w.heap.size w w' := by
  have Hn := Lib.hid h.len
  go_enter Try.func99, Try.ntmps99
  go_wp2
  go_loopw [9] (fun i wr => ∃ k : Nat, k ≤ n ∧ i = .int .i64 k ∧ Hid (∀ (j : Nat) y, j < k → xs[j]? = some y → (y == x) = false) ∧ Below w.heap.size w wr) (fun i _ => n - (intOf i).toNat)
  case atStart => exact ⟨0, by omega, rfl, Lib.hid (fun j y hj => by omega), Below.refl _ _⟩
  case round =>
    obtain ⟨k, hk, rfl, Hgood, hbel⟩ := hrel
    by_cases hlt : k < n
    · obtain ⟨b, off, rfl, hb, H⟩ := h.at_ (by omega)
      obtain ⟨e, he⟩ := h.get hlt
      have c0 := (H.below hbel hb).i1 he
      have He := Lib.hid he
      clear he
      go_wp2
      · have hq : (e == x) = true := by assumption
        go_ret
        exact ⟨ret_bool (hasB_yes He.out hq).symm, hbel⟩
      · have hq : (e == x) = false := by assumption
        go_roundw
        case rel => exact ⟨k + 1, by omega, by go_num, Lib.hid (fun j y hj hy => by
            rcases Nat.lt_or_ge j k with h1 | h1
            · exact Hgood.out j y h1 hy
            · have : j = k := by omega
              subst this; rw [He.out] at hy; injection hy with hy; subst hy; exact hq), hbel⟩
        case measure => simp [intOf]; omega
    · go_wp2
      go_ret
      exact ⟨ret_bool (hasB_no fun j y hy => Hgood.out j y (by have := (List.getElem?_eq_some_iff.1 hy).1; have := Hn.out; omega) hy).symm, hbel⟩
theorem impl_has_r (A : Option Addr) (n c : Nat) (xs : List Int) (x : Int) (r : Bool) (hr : hasB xs x = r) (w : World) (hmax : n ≤ 1048576) (h : Sl w w.heap.size 1 icell A n xs) :
    Calls Try.prog 99 #[.slice A n c, .int .i64 x] w fun e w' => e = .returned (.bool r) ∧ Below w.heap.size w w' := by
  subst hr; exact impl_has A n c xs x w hmax h
def absI (x : Int) : Int := if x < 0 then -x else x
theorem impl_abs (x : Int) (h1 : -1000000000000 ≤ x) (h2 : x ≤ 1000000000000) (w : World) : Calls Try.prog 120 #[.int .i64 x] w fun e w' => e = .returned (.int .i64 (absI x)) ∧ w = w' := by
  go_enter Try.func120, Try.ntmps120
  go_wp2
  all_goals (go_ret; exact ⟨ret_int (by unfold absI; (repeat' split) <;> omega), rfl⟩)
theorem spec_l02Size (x : Int) (h1 : -1000000000000 ≤ x) (h2 : x ≤ 1000000000000) (w : World) : Calls Try.prog 113 #[.int .i64 x] w fun e w' => e = .returned (.int .i64 (absI x)) ∧ w = w' := by
  go_enter Try.func113, Try.ntmps113
  go_wp2
  all_goals (go_ret; exact ⟨ret_int (by unfold absI; (repeat' split) <;> omega), rfl⟩)
set_option maxHeartbeats 400000 in
set_option maxRecDepth 100000 in
theorem impl_indicesWhere (g : Nat) (caps : Array Value) (n : Nat) (p : Nat → Bool) (w : World) (hmax : n ≤ 1048576) (hcall : ∀ args W, (callFunc g args).run Try.prog W = .ok (.enter g args) W)
    (hso : ∀ (i : Nat) (W : World), i < n → Below w.heap.size w W → Calls Try.prog g (#[.int .i64 i] ++ caps) W fun e w' => e = .returned (.bool (p i)) ∧ Below W.heap.size W w') :
    Calls Try.prog 97 #[.int .i64 n, .func (.func g) #[] caps] w fun e w' => ∃ v, e = .returned v ∧ Own w' w.heap.size 2 1 icell v (idxs p n) ∧ Below w.heap.size w w' := by
  obtain ⟨i0, hi, hz0, hz1, hz2⟩ := info_parts info_i64
  have HSO := Lib.hid hso
  clear hso
  go_enter Try.func97, Try.ntmps97
  go_wp2
  go_loopw [5, 6] (fun v i wr => ∃ k : Nat, k ≤ n ∧ i = .int .i64 k ∧ Own wr w.heap.size 2 1 icell v (idxs p k) ∧ Below w.heap.size w wr) (fun _ i _ => n - (intOf i).toNat)
  case atStart => exact ⟨0, by omega, rfl, own_new_empty _ _ _ _ _ (Nat.le_refl _), below_al (Below.refl _ _) _⟩
  case round =>
    obtain ⟨k, hk, rfl, hown, hbel⟩ := hrel
    have Hown := Lib.hid hown
    have hll := idxs_len p k
    clear hown
    by_cases hlt : k < n
    · go_wp2_with (first
        | (at_builtin; refine wpList_push rfl _ _ 34 rfl w.heap.size 2 i0 (.int .i64 0) 1 8 Try.underlying34 hi hz0 hz1 hz2 rfl (by omega) icell_len (fun e u hu => by simp [icell] at hu; subst hu; rfl) _ _ (k : Int) rfl (Hown.out.below hb1 (Nat.le_refl _)) _ rfl _ rfl (by first | rfl | simp) (by omega) (by omega) (by have := hbel.size; have := hb1.size; omega) ?_; intro v2 w2 ho2 hg2; have hbel2 := own_grown (below_then hbel hb1) (Hown.out.below hb1 (Nat.le_refl _)) (Nat.le_refl _) (Nat.le_trans hbel.size hb1.size) hg2; have Ho2 := Lib.hid ho2; clear ho2)
        | (refine (HSO.out k _ hlt hbel).mono ?_; rintro e w1 ⟨rfl, hb1⟩))
      · have hp : p k = true := by assumption
        go_roundw
        case rel => exact ⟨k + 1, by omega, by go_num, by rw [idxs_yes hp]; exact Ho2.out, hbel2⟩
        case measure => simp [intOf]; omega
      · have hp : p k = false := by assumption
        go_roundw
        case rel => exact ⟨k + 1, by omega, by go_num, by rw [idxs_no hp]; exact Hown.out.below hb1 (Nat.le_refl _), below_then hbel hb1⟩
        case measure => simp [intOf]; omega
    · go_wp2
      go_ret
      have hkn : k = n := by omega
      subst hkn
      exact ⟨_, rfl, Hown.out, hbel⟩
open Go.Maps in
theorem lawK : Keyed Try.prog 2 := int_keyed Try.underlying2
theorem zeroI (w : World) : (zeroValue 2).run Try.prog w = .ok (.int .i64 0) w := by kernel_rfl
open Go.Maps in
/-- block B is a map whose keys are L, with val at them -/
def Mp (w : World) (B n : Nat) (L : List Int) (val : Int → Int) : Prop :=
  ∃ D : DataW Unit, w.ownsMap Try.prog 2 (plainElem Try.prog 2) B n D ∧ ∀ v : Int, (Lit.int .i64 v).wf = true →
    Maps.has D (.int .i64 v) = decide (v ∈ L) ∧ (v ∈ L → D.atKey (.int .i64 v) (.lit (.int .i64 0)) = .lit (.int .i64 (val v)))
theorem grownO {w w' : World} {row : Option Nat} {b : Nat} (h : w.grownBy w' row) (hb : b < w.heap.size) (hne : some b ≠ row) : (∀ o, w'.cell? ⟨b, o, none⟩ = w.cell? ⟨b, o, none⟩) ∧ ∀ o, w'.frozen? ⟨b, o, none⟩ = w.frozen? ⟨b, o, none⟩ := by
  have e := h.block b hb hne
  exact ⟨fun o => by unfold World.cell?; simp only [e], fun o => by unfold World.frozen?; simp only [e]⟩
structure RSt (C : Nat) (wr : World) (B bm bl nb : Nat) (lv : Value) (nn : Nat) (L : List Int) (val : Int → Int) : Prop where
  mp : Mp wr B nn L val
  lo : Own wr C 2 1 icell lv L
  cm : wr.cell? ⟨bm, 0, none⟩ = some (.map (some B))
  cl : wr.cell? ⟨bl, 0, none⟩ = some lv
  fl : wr.frozen? ⟨bl, 0, none⟩ = false
  ne : B ≠ bm ∧ B ≠ bl ∧ bm ≠ bl ∧ nb ≠ B ∧ nb ≠ bm ∧ nb ≠ bl
  nl : lv.ownBlock ≠ some B ∧ lv.ownBlock ≠ some bm ∧ lv.ownBlock ≠ some bl ∧ lv.ownBlock ≠ some nb
  ge : C ≤ B ∧ C ≤ bm ∧ C ≤ bl ∧ B < wr.heap.size ∧ bm < wr.heap.size ∧ bl < wr.heap.size ∧ nb < wr.heap.size
theorem RSt.on {C : Nat} {wr wx : World} {B bm bl nb : Nat} {lv : Value} {nn : Nat} {L : List Int} {val : Int → Int} (h : RSt C wr B bm bl nb lv nn L val) (hb : Below wr.heap.size wr wx) : RSt C wx B bm bl nb lv nn L val := by
  obtain ⟨g1, g2, g3, g4, g5, g6, g7⟩ := h.ge
  obtain ⟨D, h1, h2⟩ := h.mp
  have hg : wr.grownBy wx none := ⟨hb.os, hb.tape, hb.output, hb.size, fun i hi _ => hb.block i hi⟩
  have hs := hb.size
  exact ⟨⟨D, h1.kept hg (by simp), h2⟩, h.lo.below hb (Nat.le_refl _), cell_on h.cm hb g5, cell_on h.cl hb g6, free_on h.fl hb g6, h.ne, h.nl, ⟨g1, g2, g3, by omega, by omega, by omega, by omega⟩⟩
def addL (L : List Int) (j : Int) : List Int := if j ∈ L then L else L ++ [j]
def addV (L : List Int) (val : Int → Int) (j k : Int) : Int → Int := if j ∈ L then val else fun x => if x = j then k else val x
theorem addL_in {L : List Int} {j : Int} (h : j ∈ L) : addL L j = L := if_pos h
theorem addL_out {L : List Int} {j : Int} (h : j ∉ L) : addL L j = L ++ [j] := if_neg h
theorem addV_in {L : List Int} {val : Int → Int} {j k : Int} (h : j ∈ L) : addV L val j k = val := if_pos h
theorem addV_out {L : List Int} {val : Int → Int} {j k : Int} (h : j ∉ L) : addV L val j k = fun x => if x = j then k else val x := if_neg h
theorem wf64 {n : Int} (h0 : -100 ≤ n) (h1 : n ≤ 1000) : (Lit.int .i64 n).wf = true := by
  simp [Lit.wf, IntKind.min, IntKind.max, IntKind.signed, IntKind.bits]; omega
set_option maxHeartbeats 4000000 in
set_option maxRecDepth 100000 in
open Go.Maps in
theorem impl_add (C B bm bl nb : Nat) (lv : Value) (nn : Nat) (L : List Int) (val : Int → Int) (j k : Int) (w : World) (hR : RSt C w B bm bl nb lv nn L val) (j0 : 0 ≤ j) (j1 : j ≤ 10) (k0 : 0 ≤ k) (k1 : k ≤ 20) (hL : L.length ≤ 100) (hn : nn ≤ 100) :
    Calls Try.prog 96 #[.int .i64 j, .int .i64 k, .pointer (some ⟨bm, 0, none⟩), .pointer (some ⟨bl, 0, none⟩)] w fun e w' =>
      e = .returned (.tuple #[]) ∧ ∃ lv' nn', nn' + L.length ≤ nn + (addL L j).length ∧ RSt C w' B bm bl nb lv' nn' (addL L j) (addV L val j k) ∧ Below C w w' ∧ ∀ b, b < w.heap.size → b ≠ B → b ≠ bl → lv.ownBlock ≠ some b → ∀ o, w'.cell? ⟨b, o, none⟩ = w.cell? ⟨b, o, none⟩ := by
  obtain ⟨⟨D, hown, hD⟩, hlo, hcm, hcl, hfl, ⟨n1, n2, n3, n4, n5, n6⟩, ⟨l1, l2, l3, l4⟩, ⟨g1, g2, g3, g4, g5, g6, g7⟩⟩ := hR
  have hkey : keyOf Try.prog 2 (.int .i64 j) = some (.int .i64 j) := keyOf_int_mk Try.underlying2 (wf64 (by omega) (by omega))
  have HD := Lib.hid hD
  have HB := Lib.hid hown
  have HLo := Lib.hid hlo
  have HK := Lib.hid hkey
  by_cases hin : j ∈ L
  · have hh : Maps.has D (.int .i64 j) = true := by rw [(hD j (wf64 (by omega) (by omega))).1]; exact decide_eq_true hin
    have Hin := Lib.hid hin
    clear hD hin hlo hkey hown
    go_enter Try.func96, Try.ntmps96
    go_wp2_with (at_lookup; refine wpList_lookup_own_ok_int _ rfl _ _ 81 rfl 2 2 .i64 lawK Try.underlying81 Try.underlying2 (zeroI _) B nn D rfl HB.out _ _ rfl HK.out ?_; intro cc hat hwc; rw [hh])
    go_end0
    exact ⟨rfl, lv, nn, by rw [addL_in Hin.out]; omega, ⟨⟨D, HB.out, by rw [addL_in Hin.out, addV_in Hin.out]; exact HD.out⟩, by rw [addL_in Hin.out]; exact HLo.out, hcm, hcl, hfl, ⟨n1, n2, n3, n4, n5, n6⟩, ⟨l1, l2, l3, l4⟩, ⟨g1, g2, g3, g4, g5, g6, g7⟩⟩, Below.refl _ _, fun _ _ _ _ _ _ => rfl⟩
  · have hh : Maps.has D (.int .i64 j) = false := by rw [(hD j (wf64 (by omega) (by omega))).1]; exact decide_eq_false hin
    have Hin := Lib.hid hin
    clear hD hin hlo hkey hown
    obtain ⟨i0, hi, hz0, hz1, hz2⟩ := info_parts info_int64
    go_enter Try.func96, Try.ntmps96
    go_wp2_with (first
      | (at_lookup; refine wpList_lookup_own_ok_int _ rfl _ _ 81 rfl 2 2 .i64 lawK Try.underlying81 Try.underlying2 (zeroI _) B nn D rfl HB.out _ _ rfl HK.out ?_; intro cc hat hwc; rw [hh])
      | (at_mapUpdate; refine wpList_mapUpdate_own _ rfl _ _ _ 81 rfl 2 2 lawK Try.underlying81 _ B nn _ rfl HB.out (by unfold maxLen; omega) _ _ _ rfl rfl HK.out _ [] (plainElem_int Try.underlying2 (wf64 (by omega) (by omega))) ?_; intro w1 hown1 hgrow1; have HB1 := Lib.hid hown1; have hs1 := hgrow1.size; have d0 := ((grownO hgrow1 g6 (by simp; omega)).1 0).trans hcl; have HO1 := Lib.hid (own_other HLo.out (.inr l1) hgrow1); clear hown1)
      | (at_builtin; refine wpList_push_at rfl _ _ 34 rfl C 2 i0 (.int .i64 0) 1 8 Try.underlying34 hi hz0 hz1 hz2 rfl (by omega) icell_len (fun e u hu => by simp [icell] at hu; subst hu; rfl) _ _ j rfl HO1.out _ rfl _ rfl (by first | rfl | simp) (by omega) (by omega) (by omega) ?_; intro v3 w3 ho3 hg3 hat3; obtain ⟨A3, m3, c3, rfl, _, _⟩ := own_shape ho3; have HO3 := Lib.hid ho3; have e0 := ((grownO hg3 (b := bl) (by omega) (fun e => l3 e.symm)).1 0).trans d0; have e1 := ((grownO hg3 (b := bl) (by omega) (fun e => l3 e.symm)).2 0).trans (((grownO hgrow1 g6 (by simp; omega)).2 0).trans hfl); clear ho3))
    go_end0
    obtain ⟨v3, hv3⟩ : ∃ v3, Value.slice A3 m3 c3 = v3 := ⟨_, rfl⟩
    rw [hv3] at HO3 hat3 ⊢
    have hs3 := hg3.size
    have hb1 : Below C w w1 := Below.grown (Below.refl C w) hgrow1 (by omega) (fun x hx => by injection hx with hx; omega)
    have hb3 : Below C w w3 := own_grown hb1 HO1.out (Nat.le_refl _) (by omega) hg3
    have hst : w3.grownBy (w3.setCell ⟨bl, 0, none⟩ v3) (some bl) := only_st (World.grownBy.refl w3 _) _ _
    have apart : ∀ x, x < w.heap.size → lv.ownBlock ≠ some x → v3.ownBlock ≠ some x := fun x hx hne e => by
      rcases hat3 with h | h
      · exact hne (h.symm.trans e)
      · rw [h] at e; injection e with e; omega
    refine ⟨rfl, v3, nn + 1, by rw [addL_out Hin.out]; simp; omega, ⟨⟨_, (HB1.out.kept hg3 (fun e => l1 e.symm)).kept hst (by simp; omega), fun x hx => ?_⟩, ?_, ?_, ?_, ?_, ⟨n1, n2, n3, n4, n5, n6⟩, ⟨apart B g4 l1, apart bm g5 l2, apart bl g6 l3, apart nb g7 l4⟩, ?_⟩, ?_, ?_⟩
    · rw [addL_out Hin.out, addV_out Hin.out]
      have hM : Maps.IsMap D := by obtain ⟨es, clock, _, _, _, hDD⟩ := HB.out; exact ⟨_, hDD⟩
      by_cases hxj : x = j
      · subst hxj
        rw [Maps.has_put_same hM (by trivial), Maps.atKey_put_same hM (by trivial)]
        simp
      · have hne : (Lit.int .i64 x) ≠ (Lit.int .i64 j) := fun e => by injection e with _ e; exact hxj e
        rw [Maps.has_put_other hne, Maps.atKey_put_other hne, (HD.out x hx).1]
        refine ⟨by simp [hxj], fun hm => ?_⟩
        simp only [if_neg hxj]
        refine (HD.out x hx).2 ?_
        rcases List.mem_append.1 hm with hm | hm
        · exact hm
        · exact absurd (by simpa using hm) hxj
    · rw [addL_out Hin.out]; exact own_other HO3.out (.inr (apart bl g6 l3)) hst
    · exact ocell (((grownO hg3 (b := bm) (by omega) (fun e => l2 e.symm)).1 0).trans (((grownO hgrow1 g5 (by simp; omega)).1 0).trans hcm)) n3
    · exact World.cell?_setCell_same _ _ _ e0
    · rw [World.frozen?_setCell]; exact e1
    · simp only [size_setC]; omega
    · exact hb3.setCell (by exact g3) _
    · intro x hx x1 x2 x3 o
      have e2 : (w3.setCell ⟨bl, 0, none⟩ v3).cell? ⟨x, o, none⟩ = w3.cell? ⟨x, o, none⟩ := World.cell?_setCell_other _ _ _ _ (fun e => by injection e with e _ _; exact x2 e.symm)
      rw [e2, (grownO hg3 (b := x) (by omega) (fun e => x3 e.symm)).1 o, (grownO hgrow1 hx (by simp; omega)).1 o]
theorem impl_reached2 (bl : Nat) (lv : Value) (L : List Int) (j : Int) (w : World) (C : Nat) (hlo : Own w C 2 1 icell lv L) (hcl : w.cell? ⟨bl, 0, none⟩ = some lv) (hL : L.length ≤ 1000) :
    Calls Try.prog 98 #[.int .i64 j, .pointer (some ⟨bl, 0, none⟩)] w fun e w' => e = .returned (.bool (hasB L j)) ∧ Below w.heap.size w w' := by
  obtain ⟨A, n, c, rfl, hl, hc⟩ := own_shape hlo
  have HS := Lib.hid (own_sl hlo icell_len)
  have Hl := Lib.hid hl
  clear hl hlo
  go_enter Try.func98, Try.ntmps98
  go_wp2_with (go_at_call 99; refine (impl_has A n c L j _ (by have := Hl.out; omega) HS.out).mono ?_; rintro e w' ⟨rfl, hb⟩)
  go_ret
  exact ⟨rfl, hb⟩
theorem wpList_insert_own {H : Type} {P : Program} (w : World) {ops : Array Oper} {rest : List Oper} {o : Oper} {a : Act} {Q : Exit → Act → World → Prop}
    (hg : o.guard = none) (m x v : Operand) (t : TypeId) (hop : o.op = Op.insert t m x v)
    (k e : TypeId) (K : Maps.Keyed P k) (ht : P.underlying t = some (.map k e)) (R : Value → Option (DataW H × List MemPlace)) (b n : Nat) (D : DataW H)
    (hm : a.eval m = .map (some b)) (hown : w.ownsMap P k R b n D) (hn : n < maxLen) (key val : Value) (kl : Lit) (hx : a.eval x = key) (hv : a.eval v = val) (hkey : keyOf P k key = some kl)
    (d : DataW H) (ps : List MemPlace) (hval : R val = some (d, ps))
    (hK : ∀ w', w'.ownsMap P k R b (n + 1) (D.put kl d) → w.grownBy w' (some b) → wpList P ops Q rest (a.put o.dst undef) w') :
    wpList P ops Q (o :: rest) a w := by
  refine wpList_plain hg fun K' hK' => ?_
  obtain ⟨w', hrun, r1, r2⟩ := hown.update K ht hn hkey hval
  unfold Oper.wp
  simp [execOp, hop, hm, hx, hv, hrun, Result.andThen]
  exact hK' _ _ (hK w' r1 r2)
structure RA (w wr : World) (B bm bl nb Jn : Nat) (A : Option Addr) (n c : Nat) (es : List Q3) (fl : List Int) (src : Int) (lv : Value) (nn : Nat) (L : List Int) (val : Int → Int) (how : Int → Nat) : Prop where
  r : RSt w.heap.size wr B bm bl nb lv nn L val
  t : Tree es fl src L how
  link : ∀ v ∈ L, v ≠ src → val v = (how v : Int)
  root : val src = -1
  inn : ∀ v ∈ L, 0 ≤ v ∧ v < (Jn : Int)
  nl : nn ≤ L.length
  b0 : wr.cell? ⟨nb, 0, none⟩ = some (.int .i64 (Jn : Int))
  b1 : wr.cell? ⟨nb, 1, none⟩ = some (.slice A n c)
  bel : Below w.heap.size w wr
section
variable {w wr wx : World} {B bm bl nb Jn : Nat} {A : Option Addr} {n c : Nat} {es : List Q3} {fl : List Int} {src : Int} {lv : Value} {nn : Nat} {L : List Int} {val : Int → Int} {how : Int → Nat}
theorem RA.len (h : RA w wr B bm bl nb Jn A n c es fl src lv nn L val how) : L.length ≤ Jn := pigeon Jn L h.t.nodup h.inn
theorem RA.on (h : RA w wr B bm bl nb Jn A n c es fl src lv nn L val how) (hb : Below wr.heap.size wr wx) : RA w wx B bm bl nb Jn A n c es fl src lv nn L val how :=
  ⟨h.r.on hb, h.t, h.link, h.root, h.inn, h.nl, cell_on h.b0 hb h.r.ge.2.2.2.2.2.2, cell_on h.b1 hb h.r.ge.2.2.2.2.2.2, below_then h.bel hb⟩
theorem RA.add (h : RA w wr B bm bl nb Jn A n c es fl src lv nn L val how) {k : Nat} {d : Q3} {f u v : Int} (hd : es[k]? = some d) (hf : fl[k]? = some f) (hu : u ∈ L) (hv0 : 0 ≤ v) (hvJ : v < (Jn : Int))
    (hc : (d.a = u ∧ d.b = v ∧ f < d.c) ∨ (d.b = u ∧ d.a = v ∧ 0 < f)) {lv' : Value} {nn' : Nat} (hn : nn' + L.length ≤ nn + (addL L v).length) (hr : RSt w.heap.size wx B bm bl nb lv' nn' (addL L v) (addV L val v (k : Int)))
    (hb : Below w.heap.size wr wx) (hk : ∀ b, b < wr.heap.size → b ≠ B → b ≠ bl → lv.ownBlock ≠ some b → ∀ o, wx.cell? ⟨b, o, none⟩ = wr.cell? ⟨b, o, none⟩) :
    (∃ how', RA w wx B bm bl nb Jn A n c es fl src lv' nn' (addL L v) (addV L val v (k : Int)) how') ∧ v ∈ addL L v ∧ (∀ x ∈ L, x ∈ addL L v) ∧ ∀ p, p < L.length → (addL L v)[p]? = L[p]? := by
  have hnb := h.r.ge.2.2.2.2.2.2
  have b0 := (hk nb hnb h.r.ne.2.2.2.1 h.r.ne.2.2.2.2.2 h.r.nl.2.2.2 0).trans h.b0
  have b1 := (hk nb hnb h.r.ne.2.2.2.1 h.r.ne.2.2.2.2.2 h.r.nl.2.2.2 1).trans h.b1
  have hbel := h.bel.trans hb
  by_cases hin : v ∈ L
  · rw [addL_in hin] at hr hn ⊢
    rw [addV_in hin] at hr ⊢
    exact ⟨⟨how, hr, h.t, h.link, h.root, h.inn, by have := h.nl; omega, b0, b1, hbel⟩, hin, fun x hx => hx, fun _ _ => rfl⟩
  · rw [addL_out hin] at hr hn ⊢
    rw [addV_out hin] at hr ⊢
    have hsv : src ≠ v := fun e => hin (e ▸ h.t.src_in)
    refine ⟨⟨_, hr, h.t.more hd hf hu hin hc, fun x hx hxs => ?_, ?_, fun x hx => ?_, ?_, b0, b1, hbel⟩, by simp, fun x hx => by simp [hx], fun p hp => by rw [List.getElem?_append_left hp]⟩
    · by_cases e : x = v
      · subst e; simp
      · simp only [if_neg e]
        refine h.link x ?_ hxs
        rcases List.mem_append.1 hx with hx | hx
        · exact hx
        · exact absurd (by simpa using hx) e
    · simp only [if_neg hsv]; exact h.root
    · rcases List.mem_append.1 hx with hx | hx
      · exact h.inn x hx
      · have : x = v := by simpa using hx
        subst this; exact ⟨hv0, hvJ⟩
    · have := h.nl
      simp only [List.length_append, List.length_singleton] at hn ⊢
      omega
end

end Go.Proofs.Ytogjkcakoahpiaa

/- Walks over functions of this seat, by contract. Conditions: those that each theorem states. -/
import Derived.Test.YtogjkcakoahpiaaDoorD3
import Derived.Deep.RegionHeld3
namespace Go.Proofs.YtogjkcakoahpiaaDoor
open Go.RowKit Go.Sort

theorem ret_str {a b : ByteArray} (h : a = b) : Ending.returned (.string a) = .returned (.string b) := by rw [h]
theorem dr_cell {w : World} {g o : Nat} {v : Value} (x : w.cell? ⟨g, o, none⟩ = some v) : w.drew.cell? ⟨g, o, none⟩ = some v := x
set_option maxHeartbeats 4000000 in
theorem spec_l18Text_k (q : Q4) (w : World) (kk : Nat) (hk : q.b = (kk : Int) + 1) (hq : defectOk q = true) :
    Calls Tryd.prog 17 #[.agg #[.int .i64 q.a, .int .i64 q.b, .int .i64 q.c, .int .i64 q.d]] w fun e w' => e = .returned (.string (defTxt q)) ∧ Below w.heap.size w w' := by
  obtain ⟨a1, b1, c1, d1⟩ := defectOk_iff.1 hq
  have hb0 := below_al (Below.refl _ w) (.cells #[.int .i64 q.a, .int .i64 q.b, .int .i64 q.c, .int .i64 q.d] 23)
  have hkk : kk < 5 := by omega
  obtain ⟨y0, y1, y2, y3⟩ := box4k (Below.refl _ (w.alloc (.cells #[.int .i64 q.a, .int .i64 q.b, .int .i64 q.c, .int .i64 q.d] 23)))
  obtain ⟨nm, hnm⟩ : ∃ nm, kNames[kk]? = some nm := ⟨kNames[kk], List.getElem?_eq_getElem (by simpa [kNames] using hkk)⟩
  have hkn : kName q.b = nm := by
    unfold kName; rw [hk, show ((kk : Int) + 1 - 1).toNat = kk from by omega, List.getD_eq_getElem?_getD, hnm]; rfl
  have sn : Sm 5 nm := by rw [← hkn]; exact sm_kind _
  have q1 := add_eq Tryd.prog (a := (bs (Lib.itoa q.a))) (b := (⟨#[109, 32]⟩ : ByteArray)) (sm_dec (by omega) (by omega) : Sm 21 _) ((sm_lit (⟨#[109, 32]⟩ : ByteArray) (by decide) : Sm 2 _))
  have q2 := add_eq Tryd.prog (a := (bs (Lib.itoa q.a)) ++ (⟨#[109, 32]⟩ : ByteArray)) (b := nm) (sm_app (sm_dec (by omega) (by omega) : Sm 21 _) ((sm_lit (⟨#[109, 32]⟩ : ByteArray) (by decide) : Sm 2 _))) sn
  have q3 := add_eq Tryd.prog (a := (bs (Lib.itoa q.a)) ++ (⟨#[109, 32]⟩ : ByteArray) ++ nm) (b := (⟨#[32, 102, 111, 117, 110, 100, 32]⟩ : ByteArray)) (sm_app (sm_app (sm_dec (by omega) (by omega) : Sm 21 _) ((sm_lit (⟨#[109, 32]⟩ : ByteArray) (by decide) : Sm 2 _))) sn) (sm_lit (⟨#[32, 102, 111, 117, 110, 100, 32]⟩ : ByteArray) (by decide) : Sm 7 _)
  have q4 := add_eq Tryd.prog (a := (bs (Lib.itoa q.a)) ++ (⟨#[109, 32]⟩ : ByteArray) ++ nm ++ (⟨#[32, 102, 111, 117, 110, 100, 32]⟩ : ByteArray)) (b := (bs (Lib.itoa q.c))) (sm_app (sm_app (sm_app (sm_dec (by omega) (by omega) : Sm 21 _) ((sm_lit (⟨#[109, 32]⟩ : ByteArray) (by decide) : Sm 2 _))) sn) (sm_lit (⟨#[32, 102, 111, 117, 110, 100, 32]⟩ : ByteArray) (by decide) : Sm 7 _)) (sm_dec (by omega) (by omega) : Sm 21 _)
  have dd : 0 ≤ q.d ∧ q.d ≤ 100000 := by omega
  have sm0 := sm_app (sm_app (sm_app (sm_app (sm_dec (n := q.a) (by omega) (by omega) : Sm 21 _) ((sm_lit (⟨#[109, 32]⟩ : ByteArray) (by decide) : Sm 2 _))) sn) (sm_lit (⟨#[32, 102, 111, 117, 110, 100, 32]⟩ : ByteArray) (by decide) : Sm 7 _)) (sm_dec (n := q.c) (by omega) (by omega) : Sm 21 _)
  have q5 := add_eq Tryd.prog (a := (⟨#[32, 109, 101, 110, 100, 101, 100, 32]⟩ : ByteArray)) (b := bs (Lib.itoa q.d)) (sm_lit (⟨#[32, 109, 101, 110, 100, 101, 100, 32]⟩ : ByteArray) (by decide) : Sm 8 _) (sm_dec (by omega) (by omega) : Sm 21 _)
  have q6 := add_eq Tryd.prog (a := (bs (Lib.itoa q.a)) ++ (⟨#[109, 32]⟩ : ByteArray) ++ nm ++ (⟨#[32, 102, 111, 117, 110, 100, 32]⟩ : ByteArray) ++ (bs (Lib.itoa q.c))) (b := (⟨#[32, 109, 101, 110, 100, 101, 100, 32]⟩ : ByteArray) ++ bs (Lib.itoa q.d)) sm0 (sm_app (sm_lit (⟨#[32, 109, 101, 110, 100, 101, 100, 32]⟩ : ByteArray) (by decide) : Sm 8 _) (sm_dec (by omega) (by omega) : Sm 21 _))
  have hw1 : IntKind.i64.wrap ((kk : Int) + 1 - 1) = kk := by rw [IntKind.wrap_i64]; omega
  have hw2 : IntKind.i64.wrap (kk : Int) = kk := by rw [IntKind.wrap_i64]; omega
  have i0 : (0 : Int) ≤ (kk : Int) := by omega
  have i1 : (kk : Int) < 5 := by omega
  have HQ := Lib.hid hq
  have HN := Lib.hid hnm
  have HK := Lib.hid hkn
  clear hq hnm hkn
  obtain ⟨qa, qb, qc, qd⟩ := q
  dsimp only at *
  subst hk
  go_enter Tryd.func17, Tryd.ntmps17
  go_wp2_with fail
  refine wp_region_noPanic ?_
  refine wp_region_held_drew (S := fun w' => w'.cell? ⟨w.heap.size, 0, none⟩ = some (.int .i64 qa) ∧ w'.cell? ⟨w.heap.size, 1, none⟩ = some (.int .i64 ((kk : Int) + 1)) ∧ w'.cell? ⟨w.heap.size, 2, none⟩ = some (.int .i64 qc) ∧ w'.cell? ⟨w.heap.size, 3, none⟩ = some (.int .i64 qd)) (by kernel_rfl) ?_ (fun hHeld => ?_)
  · exact ⟨y0, y1, y2, y3⟩
  refine wpAnyH_take (i := 0) (oi := { dst := some 4, op := Op.fieldAddr 23 (Operand.tmp 1) 0, type := 0, pos := "l18_inspections.go:272", after := #[], guard := none }) (v := ?_) rfl (by kernel_rfl) (by kernel_rfl) (by kernel_rfl) (fun _ _ _ h => h) (Or.inl ⟨by rfl, ?_⟩) (by assumption) ?_
  rotate_left
  · (intro w' hSw; (try dsimp only at hSw); go_simp <;> with_reducible rfl)
  try simp only [Act.put, List.setIfInBounds_toArray, List.set_cons_zero, List.set_cons_succ]
  refine wpAnyH_take (i := 1) (oi := { dst := some 5, op := Op.load 2 (Operand.tmp 4), type := 2, pos := "l18_inspections.go:272", after := #[{ on := 0, ground := Ground.data }], guard := none }) (v := ?_) rfl (by kernel_rfl) (by kernel_rfl) (by kernel_rfl) (fun _ _ _ h => h) (Or.inl ⟨by rfl, ?_⟩) (by assumption) ?_
  rotate_left
  · (intro w' hSw; (try dsimp only at hSw); go_simp <;> with_reducible rfl)
  try simp only [Act.put, List.setIfInBounds_toArray, List.set_cons_zero, List.set_cons_succ]
  refine wpAnyH_take (i := 5) (oi := { dst := some 9, op := Op.fieldAddr 23 (Operand.tmp 1) 1, type := 0, pos := "l18_inspections.go:272", after := #[], guard := none }) (v := ?_) rfl (by kernel_rfl) (by kernel_rfl) (by kernel_rfl) (fun _ _ _ h => h) (Or.inl ⟨by rfl, ?_⟩) (by assumption) ?_
  rotate_left
  · (intro w' hSw; (try dsimp only at hSw); go_simp <;> with_reducible rfl)
  try simp only [Act.put, List.setIfInBounds_toArray, List.set_cons_zero, List.set_cons_succ]
  refine wpAnyH_take (i := 6) (oi := { dst := some 10, op := Op.load 2 (Operand.tmp 9), type := 2, pos := "l18_inspections.go:272", after := #[{ on := 5, ground := Ground.data }], guard := none }) (v := ?_) rfl (by kernel_rfl) (by kernel_rfl) (by kernel_rfl) (fun _ _ _ h => h) (Or.inl ⟨by rfl, ?_⟩) (by assumption) ?_
  rotate_left
  · (intro w' hSw; (try dsimp only at hSw); go_simp <;> with_reducible rfl)
  try simp only [Act.put, List.setIfInBounds_toArray, List.set_cons_zero, List.set_cons_succ]
  refine wpAnyH_take (i := 7) (oi := { dst := some 11, op := Op.binOp BinOp.sub 2 (Operand.tmp 10) (Operand.const (Value.int IntKind.i64 1)) 2, type := 2, pos := "l18_inspections.go:272", after := #[{ on := 6, ground := Ground.data }], guard := none }) (v := ?_) rfl (by kernel_rfl) (by kernel_rfl) (by kernel_rfl) (fun _ _ _ h => h) (Or.inl ⟨by rfl, ?_⟩) (by assumption) ?_
  rotate_left
  · (intro w' hSw; (try dsimp only at hSw); go_simp <;> with_reducible rfl)
  try simp only [Act.put, List.setIfInBounds_toArray, List.set_cons_zero, List.set_cons_succ]
  refine wpAnyH_take (i := 12) (oi := { dst := some 16, op := Op.fieldAddr 23 (Operand.tmp 1) 2, type := 0, pos := "l18_inspections.go:272", after := #[], guard := none }) (v := ?_) rfl (by kernel_rfl) (by kernel_rfl) (by kernel_rfl) (fun _ _ _ h => h) (Or.inl ⟨by rfl, ?_⟩) (by assumption) ?_
  rotate_left
  · (intro w' hSw; (try dsimp only at hSw); go_simp <;> with_reducible rfl)
  try simp only [Act.put, List.setIfInBounds_toArray, List.set_cons_zero, List.set_cons_succ]
  refine wpAnyH_take (i := 13) (oi := { dst := some 17, op := Op.load 2 (Operand.tmp 16), type := 2, pos := "l18_inspections.go:272", after := #[{ on := 12, ground := Ground.data }], guard := none }) (v := ?_) rfl (by kernel_rfl) (by kernel_rfl) (by kernel_rfl) (fun _ _ _ h => h) (Or.inl ⟨by rfl, ?_⟩) (by assumption) ?_
  rotate_left
  · (intro w' hSw; (try dsimp only at hSw); go_simp <;> with_reducible rfl)
  try simp only [Act.put, List.setIfInBounds_toArray, List.set_cons_zero, List.set_cons_succ]
  refine wpAnyH_ready (rs := [2]) (by kernel_rfl) (by simp) ?_
  refine AllReadyH.cons (o := { dst := some 6, op := Op.call { callee := Callee.value (Operand.func 21), args := #[Operand.tmp 5], argTypes := #[2] }, type := 9, pos := "l18_inspections.go:272", after := #[{ on := 1, ground := Ground.data }], guard := none }) rfl (fun K hK => ?_) ?_
  rotate_left
  · exact AllReadyH.nil
  go_simp
  refine (spec_l01Dec _ (by omega) (by omega) _).mono ?_; rintro e w1 ⟨rfl, hb1⟩
  have z0 := cell_on (dr_cell y0) hb1 (by simp); have z1 := cell_on (dr_cell y1) hb1 (by simp); have z2 := cell_on (dr_cell y2) hb1 (by simp); have z3 := cell_on (dr_cell y3) hb1 (by simp)
  have hs1 := hb1.size
  simp at hs1
  go_wp2_with fail
  refine hK.out _ _ ?_ (fun hHeld1 => ?_)
  · exact ⟨z0, z1, z2, z3⟩
  clear hK K
  try simp only [Act.put, List.setIfInBounds_toArray, List.set_cons_zero, List.set_cons_succ]
  refine wpAnyH_take (i := 3) (oi := { dst := some 7, op := Op.binOp BinOp.add 9 (Operand.tmp 6) (Operand.const (Value.string { data := #[109, 32] })) 9, type := 9, pos := "l18_inspections.go:272", after := #[{ on := 2, ground := Ground.data }], guard := none }) (v := ?_) rfl (by kernel_rfl) (by kernel_rfl) (by kernel_rfl) (fun _ _ _ h => h) (Or.inl ⟨by rfl, ?_⟩) (by assumption) ?_
  rotate_left
  · (intro w' hSw; (try dsimp only at hSw); go_simp <;> with_reducible rfl)
  try simp only [Act.put, List.setIfInBounds_toArray, List.set_cons_zero, List.set_cons_succ]
  refine wpAnyH_ready (rs := [4]) (by kernel_rfl) (by simp) ?_
  refine AllReadyH.cons (o := { dst := some 8, op := Op.call { callee := Callee.value (Operand.func 13), args := #[], argTypes := #[] }, type := 32, pos := "l18_inspections.go:272", after := #[{ on := 2, ground := Ground.chain }], guard := none }) rfl (fun K hK => ?_) ?_
  rotate_left
  · exact AllReadyH.nil
  go_simp
  refine (spec_l18Names _).mono ?_; rintro e w2 ⟨gn, rfl, hcn, hgn, hb2⟩; have hcl := hcn kk _ HN.out
  have x0 := cell_on z0 hb2 (by omega); have x1 := cell_on z1 hb2 (by omega); have x2 := cell_on z2 hb2 (by omega); have x3 := cell_on z3 hb2 (by omega); have hs2 := hb2.size; clear hcn
  go_wp2_with fail
  refine hK.out _ _ ?_ (fun hHeld2 => ?_)
  · exact ⟨x0, x1, x2, x3⟩
  clear hK K
  try simp only [Act.put, List.setIfInBounds_toArray, List.set_cons_zero, List.set_cons_succ]
  refine wpAnyH_take (i := 8) (oi := { dst := some 12, op := Op.indexAddr 32 (Operand.tmp 8) (Operand.tmp 11), type := 0, pos := "l18_inspections.go:272", after := #[{ on := 4, ground := Ground.data }, { on := 7, ground := Ground.data }], guard := none }) (v := ?_) rfl (by kernel_rfl) (by kernel_rfl) (by kernel_rfl) (fun _ _ _ h => h) (Or.inl ⟨by rfl, ?_⟩) (by assumption) ?_
  rotate_left
  · (intro w' hSw; (try dsimp only at hSw); go_simp <;> with_reducible rfl)
  try simp only [Act.put, List.setIfInBounds_toArray, List.set_cons_zero, List.set_cons_succ]
  refine wpAnyH_ready (rs := [9, 14]) (by kernel_rfl) (by simp) ?_
  refine AllReadyH.cons (o := { dst := some 13, op := Op.load 9 (Operand.tmp 12), type := 9, pos := "l18_inspections.go:272", after := #[{ on := 8, ground := Ground.data }], guard := none }) rfl (fun K hK => ?_) ?_
  · go_simp
    refine hK.out _ _ ?_ (fun hHeld3 => ?_)
    · exact ⟨x0, x1, x2, x3⟩
    clear hK K
    try simp only [Act.put, List.setIfInBounds_toArray, List.set_cons_zero, List.set_cons_succ]
    refine wpAnyH_take (i := 10) (oi := { dst := some 14, op := Op.binOp BinOp.add 9 (Operand.tmp 7) (Operand.tmp 13) 9, type := 9, pos := "l18_inspections.go:272", after := #[{ on := 3, ground := Ground.data }, { on := 9, ground := Ground.data }], guard := none }) (v := ?_) rfl (by kernel_rfl) (by kernel_rfl) (by kernel_rfl) (fun _ _ _ h => h) (Or.inl ⟨by rfl, ?_⟩) (by assumption) ?_
    rotate_left
    · (intro w' hSw; (try dsimp only at hSw); go_simp <;> with_reducible rfl)
    try simp only [Act.put, List.setIfInBounds_toArray, List.set_cons_zero, List.set_cons_succ]
    refine wpAnyH_take (i := 11) (oi := { dst := some 15, op := Op.binOp BinOp.add 9 (Operand.tmp 14) (Operand.const (Value.string { data := #[32, 102, 111, 117, 110, 100, 32] })) 9, type := 9, pos := "l18_inspections.go:272", after := #[{ on := 10, ground := Ground.data }], guard := none }) (v := ?_) rfl (by kernel_rfl) (by kernel_rfl) (by kernel_rfl) (fun _ _ _ h => h) (Or.inl ⟨by rfl, ?_⟩) (by assumption) ?_
    rotate_left
    · (intro w' hSw; (try dsimp only at hSw); go_simp <;> with_reducible rfl)
    try simp only [Act.put, List.setIfInBounds_toArray, List.set_cons_zero, List.set_cons_succ]
    refine wpAnyH_ready (rs := [14]) (by kernel_rfl) (by simp) ?_
    refine AllReadyH.cons (o := { dst := some 18, op := Op.call { callee := Callee.value (Operand.func 21), args := #[Operand.tmp 17], argTypes := #[2] }, type := 9, pos := "l18_inspections.go:272", after := #[{ on := 13, ground := Ground.data }, { on := 4, ground := Ground.chain }], guard := none }) rfl (fun K hK => ?_) ?_
    rotate_left
    · exact AllReadyH.nil
    go_simp
    refine (spec_l01Dec _ (by omega) (by omega) _).mono ?_; rintro e w3 ⟨rfl, hb3⟩
    have v0 := cell_on x0 hb3 (by omega); have v1 := cell_on x1 hb3 (by omega); have v2 := cell_on x2 hb3 (by omega); have v3 := cell_on x3 hb3 (by omega); have hcl3 := cell_on hcl hb3 hgn
    go_wp2_with fail
    refine hK.out _ _ ?_ (fun hHeld4 => ?_)
    · exact ⟨v0, v1, v2, v3⟩
    clear hK K
    try simp only [Act.put, List.setIfInBounds_toArray, List.set_cons_zero, List.set_cons_succ]
    refine wpAnyH_take (i := 15) (oi := { dst := some 19, op := Op.binOp BinOp.add 9 (Operand.tmp 15) (Operand.tmp 18) 9, type := 9, pos := "l18_inspections.go:272", after := #[{ on := 11, ground := Ground.data }, { on := 14, ground := Ground.data }], guard := none }) (v := ?_) rfl (by kernel_rfl) (by kernel_rfl) (by kernel_rfl) (fun _ _ _ h => h) (Or.inl ⟨by rfl, ?_⟩) (by assumption) ?_
    rotate_left
    · (intro w' hSw; (try dsimp only at hSw); go_simp <;> with_reducible rfl)
    try simp only [Act.put, List.setIfInBounds_toArray, List.set_cons_zero, List.set_cons_succ]
    refine wpAnyH_take (i := 16) (oi := { dst := some 3, op := Op.assign (Operand.tmp 19), type := 9, pos := "l18_inspections.go:272", after := #[{ on := 15, ground := Ground.data }, { on := 14, ground := Ground.chain }, { on := 0, ground := Ground.phase }, { on := 1, ground := Ground.phase }, { on := 2, ground := Ground.phase }, { on := 3, ground := Ground.phase }, { on := 4, ground := Ground.phase }, { on := 5, ground := Ground.phase }, { on := 6, ground := Ground.phase }, { on := 7, ground := Ground.phase }, { on := 8, ground := Ground.phase }, { on := 9, ground := Ground.phase }, { on := 10, ground := Ground.phase }, { on := 11, ground := Ground.phase }, { on := 12, ground := Ground.phase }, { on := 13, ground := Ground.phase }, { on := 14, ground := Ground.phase }, { on := 15, ground := Ground.phase }], guard := none }) (v := ?_) rfl (by kernel_rfl) (by kernel_rfl) (by kernel_rfl) (fun _ _ _ h => h) (Or.inl ⟨by rfl, ?_⟩) (by assumption) ?_
    rotate_left
    · (intro w' hSw; (try dsimp only at hSw); go_simp <;> with_reducible rfl)
    try simp only [Act.put, List.setIfInBounds_toArray, List.set_cons_zero, List.set_cons_succ]
    refine wpAnyH_done (by kernel_rfl) ?_ _
    refine NoPanic.normal ?_
    have hbA := below_then hb0 (below_then (below_dr (Below.refl _ _)) (below_then hb1 (below_then hb2 hb3)))
    clear hb1 hb2 hb3 q1 q2 q3 q4
    go_wp2_with (go_at_call 21; refine (spec_l01Dec _ (by omega) (by omega) _).mono ?_; rintro e w4 ⟨rfl, hb4⟩)
    all_goals
      go_ret
      refine ⟨ret_str ?_, by first | exact hbA | exact below_then hbA hb4⟩
      simp_all [defTxt, defTxt1, HK.out]
  refine AllReadyH.cons (o := { dst := some 18, op := Op.call { callee := Callee.value (Operand.func 21), args := #[Operand.tmp 17], argTypes := #[2] }, type := 9, pos := "l18_inspections.go:272", after := #[{ on := 13, ground := Ground.data }, { on := 4, ground := Ground.chain }], guard := none }) rfl (fun K hK => ?_) ?_
  · go_simp
    refine (spec_l01Dec _ (by omega) (by omega) _).mono ?_; rintro e w3 ⟨rfl, hb3⟩
    have v0 := cell_on x0 hb3 (by omega); have v1 := cell_on x1 hb3 (by omega); have v2 := cell_on x2 hb3 (by omega); have v3 := cell_on x3 hb3 (by omega); have hcl3 := cell_on hcl hb3 hgn
    go_wp2_with fail
    refine hK.out _ _ ?_ (fun hHeld5 => ?_)
    · exact ⟨v0, v1, v2, v3⟩
    clear hK K
    try simp only [Act.put, List.setIfInBounds_toArray, List.set_cons_zero, List.set_cons_succ]
    refine wpAnyH_ready (rs := [9]) (by kernel_rfl) (by simp) ?_
    refine AllReadyH.cons (o := { dst := some 13, op := Op.load 9 (Operand.tmp 12), type := 9, pos := "l18_inspections.go:272", after := #[{ on := 8, ground := Ground.data }], guard := none }) rfl (fun K hK => ?_) ?_
    rotate_left
    · exact AllReadyH.nil
    clear hcl
    go_simp
    refine hK.out _ _ ?_ (fun hHeld6 => ?_)
    · exact ⟨v0, v1, v2, v3⟩
    clear hK K
    try simp only [Act.put, List.setIfInBounds_toArray, List.set_cons_zero, List.set_cons_succ]
    refine wpAnyH_take (i := 10) (oi := { dst := some 14, op := Op.binOp BinOp.add 9 (Operand.tmp 7) (Operand.tmp 13) 9, type := 9, pos := "l18_inspections.go:272", after := #[{ on := 3, ground := Ground.data }, { on := 9, ground := Ground.data }], guard := none }) (v := ?_) rfl (by kernel_rfl) (by kernel_rfl) (by kernel_rfl) (fun _ _ _ h => h) (Or.inl ⟨by rfl, ?_⟩) (by assumption) ?_
    rotate_left
    · (intro w' hSw; (try dsimp only at hSw); go_simp <;> with_reducible rfl)
    try simp only [Act.put, List.setIfInBounds_toArray, List.set_cons_zero, List.set_cons_succ]
    refine wpAnyH_take (i := 11) (oi := { dst := some 15, op := Op.binOp BinOp.add 9 (Operand.tmp 14) (Operand.const (Value.string { data := #[32, 102, 111, 117, 110, 100, 32] })) 9, type := 9, pos := "l18_inspections.go:272", after := #[{ on := 10, ground := Ground.data }], guard := none }) (v := ?_) rfl (by kernel_rfl) (by kernel_rfl) (by kernel_rfl) (fun _ _ _ h => h) (Or.inl ⟨by rfl, ?_⟩) (by assumption) ?_
    rotate_left
    · (intro w' hSw; (try dsimp only at hSw); go_simp <;> with_reducible rfl)
    try simp only [Act.put, List.setIfInBounds_toArray, List.set_cons_zero, List.set_cons_succ]
    refine wpAnyH_take (i := 15) (oi := { dst := some 19, op := Op.binOp BinOp.add 9 (Operand.tmp 15) (Operand.tmp 18) 9, type := 9, pos := "l18_inspections.go:272", after := #[{ on := 11, ground := Ground.data }, { on := 14, ground := Ground.data }], guard := none }) (v := ?_) rfl (by kernel_rfl) (by kernel_rfl) (by kernel_rfl) (fun _ _ _ h => h) (Or.inl ⟨by rfl, ?_⟩) (by assumption) ?_
    rotate_left
    · (intro w' hSw; (try dsimp only at hSw); go_simp <;> with_reducible rfl)
    try simp only [Act.put, List.setIfInBounds_toArray, List.set_cons_zero, List.set_cons_succ]
    refine wpAnyH_take (i := 16) (oi := { dst := some 3, op := Op.assign (Operand.tmp 19), type := 9, pos := "l18_inspections.go:272", after := #[{ on := 15, ground := Ground.data }, { on := 14, ground := Ground.chain }, { on := 0, ground := Ground.phase }, { on := 1, ground := Ground.phase }, { on := 2, ground := Ground.phase }, { on := 3, ground := Ground.phase }, { on := 4, ground := Ground.phase }, { on := 5, ground := Ground.phase }, { on := 6, ground := Ground.phase }, { on := 7, ground := Ground.phase }, { on := 8, ground := Ground.phase }, { on := 9, ground := Ground.phase }, { on := 10, ground := Ground.phase }, { on := 11, ground := Ground.phase }, { on := 12, ground := Ground.phase }, { on := 13, ground := Ground.phase }, { on := 14, ground := Ground.phase }, { on := 15, ground := Ground.phase }], guard := none }) (v := ?_) rfl (by kernel_rfl) (by kernel_rfl) (by kernel_rfl) (fun _ _ _ h => h) (Or.inl ⟨by rfl, ?_⟩) (by assumption) ?_
    rotate_left
    · (intro w' hSw; (try dsimp only at hSw); go_simp <;> with_reducible rfl)
    try simp only [Act.put, List.setIfInBounds_toArray, List.set_cons_zero, List.set_cons_succ]
    refine wpAnyH_done (by kernel_rfl) ?_ _
    refine NoPanic.normal ?_
    have hbA := below_then hb0 (below_then (below_dr (Below.refl _ _)) (below_then hb1 (below_then hb2 hb3)))
    clear hb1 hb2 hb3 q1 q2 q3 q4
    go_wp2_with (go_at_call 21; refine (spec_l01Dec _ (by omega) (by omega) _).mono ?_; rintro e w4 ⟨rfl, hb4⟩)
    all_goals
      go_ret
      refine ⟨ret_str ?_, by first | exact hbA | exact below_then hbA hb4⟩
      simp_all [defTxt, defTxt1, HK.out]
  exact AllReadyH.nil
theorem spec_l18Text (q : Q4) (w : World) (hq : defectOk q = true) :
    Calls Tryd.prog 17 #[.agg #[.int .i64 q.a, .int .i64 q.b, .int .i64 q.c, .int .i64 q.d]] w fun e w' => e = .returned (.string (defTxt q)) ∧ Below w.heap.size w w' := by
  obtain ⟨a1, b1, c1, d1⟩ := defectOk_iff.1 hq
  exact spec_l18Text_k q w (q.b - 1).toNat (by omega) hq
set_option maxHeartbeats 400000 in
theorem spec_DefectText (q : Q4) (w : World) : Calls Tryd.prog 8 #[.agg #[.int .i64 q.a, .int .i64 q.b, .int .i64 q.c, .int .i64 q.d]] w fun e w' => e = .returned (.string (defOut q)) ∧ Below w.heap.size w w' := by
  have hb0 := below_al (Below.refl _ w) (.cells #[.int .i64 q.a, .int .i64 q.b, .int .i64 q.c, .int .i64 q.d] 23)
  rcases Bool.eq_false_or_eq_true (defectOk q) with k | k
  · rw [defOut, if_pos k]
    go_enter Tryd.func8, Tryd.ntmps8
    go_wp2_with (first
      | (go_at_call 14; refine (spec_l18One q _).mono ?_; rintro e w1 ⟨rfl, hb1⟩; rw [k]; obtain ⟨z0, z1, z2, z3⟩ := box4k hb1)
      | (go_at_call 17; refine (spec_l18Text q _ k).mono ?_; rintro e w2 ⟨rfl, hb2⟩))
    go_ret
    exact ⟨rfl, below_then hb0 (below_then hb1 hb2)⟩
  · rw [defOut, if_neg (by simp [k])]
    go_enter Tryd.func8, Tryd.ntmps8
    go_wp2_with (go_at_call 14; refine (spec_l18One q _).mono ?_; rintro e w1 ⟨rfl, hb1⟩; rw [k])
    go_ret
    exact ⟨rfl, below_then hb0 hb1⟩
theorem impl_kindName (k : Int) (h1 : 1 ≤ k) (h2 : k ≤ 5) (w : World) : Calls Tryd.prog 19 #[.int .i64 k] w fun e w' => e = .returned (.string (kName k)) ∧ Below w.heap.size w w' := by
  have h5 : k = 1 ∨ k = 2 ∨ k = 3 ∨ k = 4 ∨ k = 5 := by omega
  clear h1 h2
  have i1 : ∀ w, (Instr.index 47 (.agg #[.string { data := #[] }, .string { data := #[104, 111, 108, 101] }, .string { data := #[99, 114, 97, 99, 107] }, .string { data := #[115, 101, 101, 112] }, .string { data := #[116, 114, 101, 101] }, .string { data := #[115, 108, 105, 112] }]) (.int .i64 1)).run Tryd.prog w = .ok (.string { data := #[104, 111, 108, 101] }) w := fun _ => by kernel_rfl
  have i2 : ∀ w, (Instr.index 47 (.agg #[.string { data := #[] }, .string { data := #[104, 111, 108, 101] }, .string { data := #[99, 114, 97, 99, 107] }, .string { data := #[115, 101, 101, 112] }, .string { data := #[116, 114, 101, 101] }, .string { data := #[115, 108, 105, 112] }]) (.int .i64 2)).run Tryd.prog w = .ok (.string { data := #[99, 114, 97, 99, 107] }) w := fun _ => by kernel_rfl
  have i3 : ∀ w, (Instr.index 47 (.agg #[.string { data := #[] }, .string { data := #[104, 111, 108, 101] }, .string { data := #[99, 114, 97, 99, 107] }, .string { data := #[115, 101, 101, 112] }, .string { data := #[116, 114, 101, 101] }, .string { data := #[115, 108, 105, 112] }]) (.int .i64 3)).run Tryd.prog w = .ok (.string { data := #[115, 101, 101, 112] }) w := fun _ => by kernel_rfl
  have i4 : ∀ w, (Instr.index 47 (.agg #[.string { data := #[] }, .string { data := #[104, 111, 108, 101] }, .string { data := #[99, 114, 97, 99, 107] }, .string { data := #[115, 101, 101, 112] }, .string { data := #[116, 114, 101, 101] }, .string { data := #[115, 108, 105, 112] }]) (.int .i64 4)).run Tryd.prog w = .ok (.string { data := #[116, 114, 101, 101] }) w := fun _ => by kernel_rfl
  have i5 : ∀ w, (Instr.index 47 (.agg #[.string { data := #[] }, .string { data := #[104, 111, 108, 101] }, .string { data := #[99, 114, 97, 99, 107] }, .string { data := #[115, 101, 101, 112] }, .string { data := #[116, 114, 101, 101] }, .string { data := #[115, 108, 105, 112] }]) (.int .i64 5)).run Tryd.prog w = .ok (.string { data := #[115, 108, 105, 112] }) w := fun _ => by kernel_rfl
  rcases h5 with rfl | rfl | rfl | rfl | rfl
  all_goals
    go_enter Tryd.func19, Tryd.ntmps19
    go_wp2
    go_ret
    exact ⟨rfl, Below.refl _ _⟩
set_option maxHeartbeats 1000000 in
theorem impl_DefectText (q : Q4) (w : World) (htab : Lib.TabIs Tryd.prog w "internal/strconv.uint64pow10" .u64 Lib.pow10Tab) : Calls Tryd.prog 10 #[.agg #[.int .i64 q.a, .int .i64 q.b, .int .i64 q.c, .int .i64 q.d]] w fun e w' => e = .returned (.string (defOut q)) ∧ Below w.heap.size w w' := by
  have hb0 := below_al (Below.refl _ w) (.cells #[.int .i64 q.a, .int .i64 q.b, .int .i64 q.c, .int .i64 q.d] 23)
  rcases Bool.eq_false_or_eq_true (defectOk q) with k | k
  · rw [defOut, if_pos k]
    obtain ⟨a1, b1, c1, d1⟩ := defectOk_iff.1 k
    have dd : 0 ≤ q.d ∧ q.d ≤ 100000 := by omega
    have sn := sm_kind q.b
    have sm0 := sm_app (sm_app (sm_app (sm_app (sm_dec (n := q.a) (by omega) (by omega) : Sm 21 _) ((sm_lit (⟨#[109, 32]⟩ : ByteArray) (by decide) : Sm 2 _))) sn) (sm_lit (⟨#[32, 102, 111, 117, 110, 100, 32]⟩ : ByteArray) (by decide) : Sm 7 _)) (sm_dec (n := q.c) (by omega) (by omega) : Sm 21 _)
    have q1 := add_eq Tryd.prog (a := (bs (Lib.itoa q.a))) (b := (⟨#[109, 32]⟩ : ByteArray)) (sm_dec (by omega) (by omega) : Sm 21 _) ((sm_lit (⟨#[109, 32]⟩ : ByteArray) (by decide) : Sm 2 _))
    have q2 := add_eq Tryd.prog (a := (bs (Lib.itoa q.a)) ++ (⟨#[109, 32]⟩ : ByteArray)) (b := kName q.b) (sm_app (sm_dec (by omega) (by omega) : Sm 21 _) ((sm_lit (⟨#[109, 32]⟩ : ByteArray) (by decide) : Sm 2 _))) sn
    have q3 := add_eq Tryd.prog (a := (bs (Lib.itoa q.a)) ++ (⟨#[109, 32]⟩ : ByteArray) ++ kName q.b) (b := (⟨#[32, 102, 111, 117, 110, 100, 32]⟩ : ByteArray)) (sm_app (sm_app (sm_dec (by omega) (by omega) : Sm 21 _) ((sm_lit (⟨#[109, 32]⟩ : ByteArray) (by decide) : Sm 2 _))) sn) (sm_lit (⟨#[32, 102, 111, 117, 110, 100, 32]⟩ : ByteArray) (by decide) : Sm 7 _)
    have q4 := add_eq Tryd.prog (a := (bs (Lib.itoa q.a)) ++ (⟨#[109, 32]⟩ : ByteArray) ++ kName q.b ++ (⟨#[32, 102, 111, 117, 110, 100, 32]⟩ : ByteArray)) (b := (bs (Lib.itoa q.c))) (sm_app (sm_app (sm_app (sm_dec (by omega) (by omega) : Sm 21 _) ((sm_lit (⟨#[109, 32]⟩ : ByteArray) (by decide) : Sm 2 _))) sn) (sm_lit (⟨#[32, 102, 111, 117, 110, 100, 32]⟩ : ByteArray) (by decide) : Sm 7 _)) (sm_dec (by omega) (by omega) : Sm 21 _)
    have q5 := add_eq Tryd.prog (a := (⟨#[32, 109, 101, 110, 100, 101, 100, 32]⟩ : ByteArray)) (b := bs (Lib.itoa q.d)) (sm_lit (⟨#[32, 109, 101, 110, 100, 101, 100, 32]⟩ : ByteArray) (by decide) : Sm 8 _) (sm_dec (by omega) (by omega) : Sm 21 _)
    have q6 := add_eq Tryd.prog (a := (bs (Lib.itoa q.a)) ++ (⟨#[109, 32]⟩ : ByteArray) ++ kName q.b ++ (⟨#[32, 102, 111, 117, 110, 100, 32]⟩ : ByteArray) ++ (bs (Lib.itoa q.c))) (b := (⟨#[32, 109, 101, 110, 100, 101, 100, 32]⟩ : ByteArray) ++ bs (Lib.itoa q.d)) sm0 (sm_app (sm_lit (⟨#[32, 109, 101, 110, 100, 101, 100, 32]⟩ : ByteArray) (by decide) : Sm 8 _) (sm_dec (by omega) (by omega) : Sm 21 _))
    go_enter Tryd.func10, Tryd.ntmps10
    go_wp2_with (go_at_call 16; refine (impl_isDefect q _).mono ?_; rintro e w1 ⟨rfl, hb1⟩; rw [k]; obtain ⟨y0, y1, y2, y3⟩ := box4k hb1)
    have x0 := fun d os => cell_regrown y0 d os
    have x1 := fun d os => cell_regrown y1 d os
    have x2 := fun d os => cell_regrown y2 d os
    have x3 := fun d os => cell_regrown y3 d os
    have ht1 := tab_on htab (below_then hb0 hb1)
    have hg1 : w.heap.size < w1.heap.size := by have := hb1.size; simp at this; omega
    refine wp_region_quiet_below (by kernel_rfl) (by kernel_rfl) ?_
    repeat (go_big_quiet_step (first
      | exact Calls.regrown_of (impl_Decimal _ (by omega) (by omega) _ (tab_on ht1 (below_regrown _ _ _)))
      | exact Calls.regrown_of (impl_kindName _ (by omega) (by omega) _)))
    refine wpQuiet_nil ?_
    intro wq hwq
    have hbq := below_of_class hwq
    have z3 := cell_on y3 hbq hg1
    have htq := tab_on ht1 hbq
    clear hwq y0 y1 y2 y3 x0 x1 x2 x3 q1 q2 q3 q4
    go_wp2_with (go_at_call 18; refine (impl_Decimal _ (by omega) (by omega) _ htq).mono ?_; rintro e w4 ⟨rfl, hb4⟩)
    all_goals
      go_ret
      refine ⟨ret_str ?_, by first | exact below_then hb0 (below_then hb1 hbq) | exact below_then hb0 (below_then hb1 (below_then hbq hb4))⟩
      simp_all [defTxt, defTxt1]
  · rw [defOut, if_neg (by simp [k])]
    go_enter Tryd.func10, Tryd.ntmps10
    go_wp2_with (go_at_call 16; refine (impl_isDefect q _).mono ?_; rintro e w1 ⟨rfl, hb1⟩; rw [k])
    go_ret
    exact ⟨rfl, below_then hb0 hb1⟩

end Go.Proofs.YtogjkcakoahpiaaDoor

/- Walks over functions of this seat, by contract. Conditions: those that each theorem states. -/
import Derived.Test.YtgbblcbpmpokdaaGreatDoorV4
import Derived.Lib.SplitLaws
namespace Go.Proofs.YtgbblcbpmpokdaaGreatDoor
open Go.RowKit Go.Sort

theorem split_step {c x : UInt8} {xs : List UInt8} (h : x ≠ c) (k : Nat) : Lib.splitK [c] 0 k (x :: xs) = match Lib.splitK [c] 0 k xs with | [] => [[x]] | t :: ts => (x :: t) :: ts := by
  cases k with
  | zero => rfl
  | succ k =>
    have hp : ([c] : List UInt8).isPrefixOf (x :: xs) = false := by simp [List.isPrefixOf, Ne.symm h]
    have hix : Lib.index (x :: xs) [c] = if Lib.index xs [c] == -1 then -1 else Lib.index xs [c] + 1 := by rw [Lib.index, hp]; simp
    unfold Lib.splitK
    by_cases hm : Lib.index xs [c] = -1
    · rw [if_pos (by rw [hix, if_pos (beq_iff_eq.2 hm)]; rfl), if_pos (beq_iff_eq.2 hm)]
    · have hge := Lib.index_ge xs [c]
      obtain ⟨j, hj⟩ : ∃ j : Nat, Lib.index xs [c] = j := ⟨(Lib.index xs [c]).toNat, by omega⟩
      have hix' : Lib.index (x :: xs) [c] = ((j + 1 : Nat) : Int) := by rw [hix, if_neg (fun e => hm (beq_iff_eq.1 e)), hj]; omega
      rw [if_neg (fun e => by have := beq_iff_eq.1 e; omega), if_neg (fun e => hm (beq_iff_eq.1 e)), hix', hj]
      simp
theorem splitK_spl (c : UInt8) : ∀ l : List UInt8, Lib.splitK [c] 0 (Lib.count l [c]) l = spl c l
  | [] => by rw [Lib.count_one]; rfl
  | x :: xs => by
    have ih := splitK_spl c xs
    by_cases h : x = c
    · subst h
      have hix : Lib.index (x :: xs) [x] = ((0 : Nat) : Int) := by rw [Lib.index]; simp [List.isPrefixOf]
      rw [Lib.count_cons_eq, Nat.add_comm, Lib.splitK, if_neg (fun e => by have := beq_iff_eq.1 e; omega), hix]
      rw [spl, if_pos rfl, ← ih]
      simp
    · rw [Lib.count_cons_ne x c xs h, split_step h, ih]
      conv => rhs; rw [spl, if_neg h]
      cases spl c xs <;> rfl
theorem splitB_spl (c : UInt8) (l : List UInt8) : Lib.splitB ⟨#[c]⟩ 0 (Lib.countB (bs l) ⟨#[c]⟩) (bs l) = (spl c l).map bs := by
  have h := Lib.splitB_data ⟨#[c]⟩ 0 (Lib.countB (bs l) ⟨#[c]⟩) (bs l)
  rw [show Lib.countB (bs l) ⟨#[c]⟩ = Lib.count l [c] from rfl] at h ⊢
  rw [show Lib.splitK (⟨#[c]⟩ : ByteArray).data.toList 0 (Lib.count l [c]) (bs l).data.toList = spl c l from splitK_spl c l] at h
  rw [← h, List.map_map]
  have : (bs ∘ fun x : ByteArray => x.data.toList) = id := by funext x; exact bs_of x
  rw [this, List.map_id]
theorem spl_count (c : UInt8) : ∀ l : List UInt8, (spl c l).length ≤ l.length + 1
  | [] => Nat.le_refl _
  | x :: xs => by
    have ih := spl_count c xs
    rw [spl]
    split
    · rw [List.length_cons, List.length_cons]; omega
    · cases hs : spl c xs with
      | nil => simp
      | cons t ts => rw [hs] at ih; rw [List.length_cons] at ih ⊢; rw [List.length_cons]; omega
theorem scl_flat (xs : List ByteArray) : xs.flatMap scl = xs.map Value.string := by
  induction xs with
  | nil => rfl
  | cons x r ih => simp [scl, ih]
def lvs : List ByteArray → Option (List Int)
  | [] => some []
  | b :: r => match rl b.data.toList with
    | none => none
    | some n => (lvs r).map (n :: ·)
theorem lvs_app : ∀ (a b : List ByteArray), lvs (a ++ b) = (lvs a).bind fun u => (lvs b).map (u ++ ·)
  | [], b => by cases h : lvs b <;> simp [lvs, h]
  | x :: a, b => by
    rw [List.cons_append, lvs, lvs]
    cases rl x.data.toList with
    | none => rfl
    | some n => simp only [lvs_app a b]; cases lvs a <;> simp; cases lvs b <;> simp
theorem lvs_step {xs : List ByteArray} {k : Nat} {out : List Int} {x : ByteArray} {n : Int} (h : lvs (xs.take k) = some out) (hx : xs[k]? = some x) (hr : rl x.data.toList = some n) : lvs (xs.take (k + 1)) = some (out ++ [n]) := by
  rw [List.take_add_one, lvs_app, h, hx]
  simp [lvs, hr]
theorem lvs_stop {xs : List ByteArray} {k : Nat} {x : ByteArray} (hx : xs[k]? = some x) (hr : rl x.data.toList = none) : lvs xs = none := by
  have hk := (List.getElem?_eq_some_iff.1 hx).1
  have he : xs = xs.take k ++ (x :: xs.drop (k + 1)) := by
    rw [← (List.getElem?_eq_some_iff.1 hx).2, ← List.drop_eq_getElem_cons hk, List.take_append_drop]
  rw [he, lvs_app]
  have : lvs (x :: xs.drop (k + 1)) = none := by rw [lvs, hr]
  rw [this]; cases lvs (xs.take k) <;> rfl
/-- what ReadAlarms gives for words -/
def raW (xs : List ByteArray) : Option (List Int) := match lvs xs with | none => none | some es => if alarmsOk es = true then some es else none
theorem raW_none {xs : List ByteArray} (h : lvs xs = none) : raW xs = none := by rw [raW, h]
theorem raW_bad {xs : List ByteArray} {es : List Int} (h : lvs xs = some es) (h2 : alarmsOk es = false) : raW xs = none := by rw [raW, h]; exact if_neg (by rw [h2]; simp)
theorem raW_good {xs : List ByteArray} {es : List Int} (h : lvs xs = some es) (h2 : alarmsOk es = true) : raW xs = some es := by rw [raW, h]; exact if_pos h2
theorem raW_len (xs : List ByteArray) : ((raW xs).getD []).length ≤ 5 := by
  unfold raW; split
  · simp
  · split
    · rename_i h; rw [alarmsOk, Bool.and_eq_true] at h; have := inR_iff.1 h.1; simp only [Option.getD_some]; omega
    · simp
/-- the words of a text -/
theorem words_of {l : List UInt8} (hl : l.length ≤ 1048576) : ((spl 32 l).map bs).length ≤ 1048577 ∧ ∀ x ∈ (spl 32 l).map bs, x.data.toList.length ≤ 1048576 := by
  refine ⟨by rw [List.length_map]; have := spl_count 32 l; omega, fun x hx => ?_⟩
  obtain ⟨y, hy, rfl⟩ := List.mem_map.1 hx
  have := spl_long hy
  rw [bs_list]; omega
theorem impl_ValidAlarms_big (A : Option Addr) (n c : Nat) (es : List Int) (w : World) (hmax : n ≤ 2000000) (h : Sl w w.heap.size 1 icell A n es) :
    Calls Tryz.prog 14 #[.slice A n c] w fun e w' => e = .returned (.bool (alarmsOk es)) ∧ Below w.heap.size w w' := by
  rcases Bool.eq_false_or_eq_true (inR (n : Int) 1 5) with g | g
  · exact impl_ValidAlarms A n c es w (by have := inR_iff.1 g; omega) h
  · have Hn := Lib.hid h.len
    have Ha : Hid (alarmsOk es = false) := Lib.hid (by rw [alarmsOk, Hn.out, g, Bool.false_and])
    go_enter Tryz.func14, Tryz.ntmps14
    go_wp2_with (first
      | (go_at_call 30; refine (impl_size_int64 _ _ _ _ (by omega)).mono ?_; rintro e w' ⟨rfl, rfl⟩)
      | (go_at_call 29; refine (impl_in _ _ _ _).mono ?_; rintro e w' ⟨rfl, rfl⟩; rw [g]))
    all_goals (go_ret; exact ⟨ret_bool (by rw [Ha.out]), Below.refl _ _⟩)
theorem spec_l16Ok_big (A : Option Addr) (n c : Nat) (es : List Int) (w : World) (hmax : n ≤ 2000000) (h : Sl w w.heap.size 1 icell A n es) :
    Calls Tryz.prog 11 #[.slice A n c] w fun e w' => e = .returned (.bool (alarmsOk es)) ∧ Below w.heap.size w w' := by
  rcases Bool.eq_false_or_eq_true (inR (n : Int) 1 5) with g | g
  · exact spec_l16Ok A n c es w (by have := inR_iff.1 g; omega) h
  · have Hn := Lib.hid h.len
    have Ha : Hid (alarmsOk es = false) := Lib.hid (by rw [alarmsOk, Hn.out, g, Bool.false_and])
    go_enter Tryz.func11, Tryz.ntmps11
    go_wp2_with (go_at_call 17; refine (spec_l00In _ _ _ _).mono ?_; rintro e w' ⟨rfl, rfl⟩; rw [g])
    all_goals (go_ret; exact ⟨ret_bool (by rw [Ha.out]), Below.refl _ _⟩)
theorem info_i64r : (Tryz.prog.info? 2).map (fun i => (i.zero, i.size, i.bytes)) = some (some (.int .i64 0), 1, 8) := by kernel_rfl
set_option maxHeartbeats 1000000 in
set_option maxRecDepth 100000 in
theorem spec_ReadAlarms (l : List UInt8) (w : World) (hl : l.length ≤ 1048576) :
    Calls Tryz.prog 4 #[.string (bs l)] w fun e w' => ∃ v, e = .returned (.tuple #[v, .bool (raW ((spl 32 l).map bs)).isSome]) ∧ Own w' w.heap.size 2 1 icell v ((raW ((spl 32 l).map bs)).getD []) ∧ Below w.heap.size w w' := by
  obtain ⟨i0, hi, hz0, hz1, hz2⟩ := info_parts info_i64r
  obtain ⟨hxl, hxw⟩ := words_of hl
  have C1 := Lib.hid (fun W => spec_l01Split l 32 32 (by decide) W hl)
  obtain ⟨xs, hxs⟩ : ∃ xs, (spl 32 l).map bs = xs := ⟨_, rfl⟩
  rw [hxs] at hxl hxw C1 ⊢
  have HW := Lib.hid hxw
  obtain ⟨N, hN⟩ : ∃ N, xs.length = N := ⟨_, rfl⟩
  rw [hN] at hxl
  have HN := Lib.hid hN
  clear hxs hxw
  go_enter Tryz.func4, Tryz.ntmps4
  go_wp2_with fail
  refine (C1.out _).mono ?_
  rintro e w1 ⟨v, rfl, ho, hb1⟩
  obtain ⟨A, n, c, rfl, hn, _⟩ := own_shape ho
  obtain rfl : N = n := by omega
  have HX := Lib.hid (own_sl ho scl_len)
  clear ho hn hN
  go_wp2_with fail
  go_loopw [5, 6] (fun v i wr => ∃ (k : Nat) (out : List Int), k ≤ N ∧ i = .int .i64 k ∧ Hid (lvs (xs.take k) = some out) ∧ Hid (out.length = k) ∧ Hid (Own wr w1.heap.size 2 1 icell v out) ∧ Below w1.heap.size w1 wr) (fun _ i _ => N - (intOf i).toNat)
  case atStart => exact ⟨0, [], by omega, rfl, Lib.hid rfl, Lib.hid rfl, Lib.hid (own_new_empty _ _ _ _ _ (Nat.le_refl _)), below_al (Below.refl _ _) _⟩
  case round =>
    obtain ⟨k, out, hk, rfl, HS, HL, HO, hbw⟩ := hrel
    have hbb : Below w.heap.size w wr := below_then hb1 hbw
    by_cases hlt : k < N
    · obtain ⟨b, off, rfl, hB, hc⟩ := (HX.out.below hbw).at_ (by omega)
      obtain ⟨x, hx⟩ := HX.out.get hlt
      have c0 := hc.sc hx
      have hxl2 : x.data.toList.length ≤ 1048576 := HW.out x (List.mem_of_getElem? hx)
      have HR := Lib.hid (fun W => spec_ReadLevel x.data.toList W hxl2)
      rw [bs_of] at HR
      have Hx := Lib.hid hx
      clear hx hc
      cases hr : rl x.data.toList with
      | none =>
        have HQ0 : Hid (raW xs = none) := Lib.hid (raW_none (lvs_stop Hx.out hr))
        rw [hr] at HR
        clear hr
        go_wp2_with (go_at_call 10; refine (HR.out _).mono ?_; rintro e w2 ⟨rfl, hb2⟩; dsimp only [Option.isSome])
        go_ret2
        exact ⟨_, by rw [HQ0.out]; rfl, by rw [HQ0.out]; exact own_nil _ _ _ _ _, below_then hbb hb2⟩
      | some n =>
        have HS' := Lib.hid (lvs_step HS.out Hx.out hr)
        rw [hr] at HR
        clear hr
        go_wp2_with (first
          | (go_at_call 10; refine (HR.out _).mono ?_; rintro e w2 ⟨rfl, hb2⟩; dsimp only [Option.isSome, Option.getD]; have HO2 := Lib.hid (Own.below HO.out hb2 (Nat.le_refl _)); have hbw2 := below_then hbw hb2)
          | (at_builtin; refine wpList_push rfl _ _ 22 rfl w1.heap.size 2 i0 (.int .i64 0) 1 8 Tryz.underlying22 hi hz0 hz1 hz2 rfl (by omega) icell_len (fun e u hu => by simp [icell] at hu; subst hu; rfl) _ _ n rfl HO2.out _ rfl _ rfl (by first | rfl | simp) (by rw [HL.out]; omega) (by omega) hbw2.size ?_; intro v3 w3 ho3 hg3; have hbel3 := own_grown hbw2 HO2.out (Nat.le_refl _) hbw2.size hg3; have HO3 := Lib.hid ho3; clear ho3 hg3))
        go_roundw
        case rel => exact ⟨k + 1, out ++ [n], by omega, by go_num, HS', Lib.hid (by rw [List.length_append, List.length_singleton, HL.out]), HO3, hbel3⟩
        case measure => simp [intOf]; omega
    · have hkl : k = N := by omega
      subst hkl
      have hS := HS.out
      rw [← HN.out, List.take_length] at hS
      obtain ⟨A2, n2, c2, rfl, hn2, _⟩ := own_shape HO.out
      have hn3 : n2 ≤ 2000000 := by have := HL.out; omega
      have hv := fun (W : World) (h : Sl W W.heap.size 1 icell A2 n2 out) => spec_l16Ok_big A2 n2 c2 out W hn3 h
      rcases Bool.eq_false_or_eq_true (alarmsOk out) with g | g
      · have HQ : Hid (raW xs = some out) := Lib.hid (raW_good hS g)
        rw [g] at hv
        have Hv := Lib.hid hv
        clear hS g hv hn2
        go_wp2_with fail
        refine (Hv.out _ (own_sl HO.out icell_len)).mono ?_
        rintro e w4 ⟨rfl, hb4⟩
        go_wp2_with fail
        go_ret2
        exact ⟨_, by rw [HQ.out]; rfl, by rw [HQ.out]; exact Own.base_le (Own.below HO.out hb4 (Nat.le_refl _)) hb1.size, below_then hbb hb4⟩
      · have HQ : Hid (raW xs = none) := Lib.hid (raW_bad hS g)
        rw [g] at hv
        have Hv := Lib.hid hv
        clear hS g hv hn2
        go_wp2_with fail
        refine (Hv.out _ (own_sl HO.out icell_len)).mono ?_
        rintro e w4 ⟨rfl, hb4⟩
        go_wp2_with fail
        go_ret2
        exact ⟨_, by rw [HQ.out]; rfl, by rw [HQ.out]; exact own_nil _ _ _ _ _, below_then hbb hb4⟩

end Go.Proofs.YtgbblcbpmpokdaaGreatDoor

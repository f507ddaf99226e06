/- Walks over functions of this seat, by contract. Conditions: those that each theorem states. -/
import Derived.Test.YtogjkcakoahpiaaDoorR3
namespace Go.Proofs.YtogjkcakoahpiaaDoor
open Go.RowKit Go.Sort

theorem scl_flat (xs : List ByteArray) : xs.flatMap scl = xs.map Value.string := by
  induction xs with
  | nil => rfl
  | cons x r ih => simp [scl, ih]
def nums : List ByteArray → Option (List Int)
  | [] => some []
  | b :: r => match rdF b.data.toList with
    | none => none
    | some n => (nums r).map (n :: ·)
theorem nums_app : ∀ (a b : List ByteArray), nums (a ++ b) = (nums a).bind fun u => (nums b).map (u ++ ·)
  | [], b => by cases h : nums b <;> simp [nums, h]
  | x :: a, b => by
    rw [List.cons_append, nums, nums]
    cases rdF x.data.toList with
    | none => rfl
    | some n => simp only [nums_app a b]; cases nums a <;> simp; cases nums b <;> simp
theorem nums_step {xs : List ByteArray} {k : Nat} {out : List Int} {x : ByteArray} {n : Int} (h : nums (xs.take k) = some out) (hx : xs[k]? = some x) (hr : rdF x.data.toList = some n) : nums (xs.take (k + 1)) = some (out ++ [n]) := by
  rw [List.take_add_one, nums_app, h, hx]
  simp [nums, hr]
theorem nums_stop {xs : List ByteArray} {k : Nat} {x : ByteArray} (hx : xs[k]? = some x) (hr : rdF x.data.toList = none) : nums xs = none := by
  have hk := (List.getElem?_eq_some_iff.1 hx).1
  have he : xs = xs.take k ++ (x :: xs.drop (k + 1)) := by
    rw [← (List.getElem?_eq_some_iff.1 hx).2, ← List.drop_eq_getElem_cons hk, List.take_append_drop]
  rw [he, nums_app]
  have : nums (x :: xs.drop (k + 1)) = none := by rw [nums, hr]
  rw [this]; cases nums (xs.take k) <;> rfl
/-- what separates number words -/
def dgP (x : Nat) : Bool := !(x == 45) && (decide (x < 48) || decide (57 < x))
theorem spansP_len (p : Nat → Bool) (s : ByteArray) : ∀ (f pos : Nat) (st : Option Nat) (acc : List (Nat × Nat)), (Lib.spansFromP p s f pos st acc).1.length ≤ acc.length + f
  | 0, pos, st, acc => by unfold Lib.spansFromP; simp
  | f + 1, pos, st, acc => by
    unfold Lib.spansFromP
    split
    · split <;> cases st <;> simp only
      · have := spansP_len p s f (pos + (Utf8.decode s pos).2) none acc; omega
      · rename_i a
        have := spansP_len p s f (pos + (Utf8.decode s pos).2) none (acc ++ [(a, pos)])
        rw [List.length_append, List.length_singleton] at this; omega
      · have := spansP_len p s f (pos + (Utf8.decode s pos).2) (some pos) acc; omega
      · rename_i a
        have := spansP_len p s f (pos + (Utf8.decode s pos).2) (some a) acc; omega
    · simp
theorem goFieldsP_len (p : Nat → Bool) (s : ByteArray) : (Lib.goFieldsP p s).length ≤ s.size + 1 := by
  unfold Lib.goFieldsP Lib.spansOfP
  rw [List.length_map]
  have := spansP_len p s s.size 0 none []
  unfold Lib.closeSpans
  split <;> simp_all <;> omega
theorem goFieldsP_word (p : Nat → Bool) (s : ByteArray) {x : ByteArray} (h : x ∈ Lib.goFieldsP p s) : x.size ≤ s.size := by
  unfold Lib.goFieldsP at h
  obtain ⟨y, _, rfl⟩ := List.mem_map.1 h
  rw [ByteArray.size_extract]; omega
/-- what numbersIn gives -/
def numsOf (l : List UInt8) : List Int := (nums (Lib.goFieldsP dgP (bs l))).getD []
theorem impl_numbersIn_1 (x : Nat) (w : World) : Calls Tryd.prog 24 #[.int .i32 (x : Int)] w fun e w' => e = .returned (.bool (dgP x)) ∧ ∃ q, w' = w.drewN q := by
  by_cases h1 : x = 45
  · subst h1
    go_enter Tryd.func24, Tryd.ntmps24
    go_wp2_with fail
    go_ret
    exact ⟨rfl, 0, rfl⟩
  have Hd : Hid (dgP x = (decide (x < 48) || decide (57 < x))) := Lib.hid (by unfold dgP; simp [h1])
  have hne : ((x : Int) != 45) = true := by rw [bne_iff_ne]; omega
  by_cases h2 : x < 48
  · have h2' : (x : Int) < 48 := by omega
    rw [decide_eq_true h2] at Hd
    go_enter Tryd.func24, Tryd.ntmps24
    go_wp2_with fail
    go_ret
    exact ⟨by rw [Hd.out]; simp, 0, rfl⟩
  · have h2' : ¬ (x : Int) < 48 := by omega
    rw [decide_eq_false h2, Bool.false_or] at Hd
    by_cases h3 : 57 < x
    · have h3' : (57 : Int) < (x : Int) := by omega
      go_enter Tryd.func24, Tryd.ntmps24
      go_wp2_with fail
      go_ret
      exact ⟨by rw [Hd.out, decide_eq_true h3]; simp, 0, rfl⟩
    · have h3' : ¬ (57 : Int) < (x : Int) := by omega
      go_enter Tryd.func24, Tryd.ntmps24
      go_wp2_with fail
      go_ret
      exact ⟨by rw [Hd.out, decide_eq_false h3]; rfl, 0, rfl⟩
theorem info_i64r : (Tryd.prog.info? 2).map (fun i => (i.zero, i.size, i.bytes)) = some (some (.int .i64 0), 1, 8) := by kernel_rfl
set_option maxHeartbeats 1000000 in
set_option maxRecDepth 100000 in
theorem impl_numbersIn (l : List UInt8) (w : World) (hl : l.length ≤ 1048576) (htab : Lib.TabIs Tryd.prog w "internal/strconv.uint64pow10" .u64 Lib.pow10Tab)
    (tp1 : TypeId) (p1 : Value) (hv1 : w.var? Tryd.prog "strconv.ErrRange" = some #[.iface tp1 p1]) (tp2 : TypeId) (p2 : Value) (hv2 : w.var? Tryd.prog "strconv.ErrSyntax" = some #[.iface tp2 p2]) :
    Calls Tryd.prog 15 #[.string (bs l)] w fun e w' => ∃ v, e = .returned v ∧ Own w' w.heap.size 2 1 icell v (numsOf l) ∧ Below w.heap.size w w' := by
  obtain ⟨i0, hi, hz0, hz1, hz2⟩ := info_parts info_i64r
  have hsz : (bs l).size ≤ 4294967296 := by rw [bs_size]; omega
  obtain ⟨xs, hxs⟩ : ∃ xs, xs = Lib.goFieldsP dgP (bs l) := ⟨_, rfl⟩
  have hxl : xs.length ≤ 1048577 := by have := goFieldsP_len dgP (bs l); rw [← hxs, bs_size] at this; omega
  have hxw : ∀ x ∈ xs, x.size ≤ 1048576 := fun x hx => by
    have := goFieldsP_word dgP (bs l) (hxs ▸ hx); rw [bs_size] at this; omega
  have HF := Lib.hid (fun W => Tryd.strings_FieldsFunc_runes 24 #[] (fun args w => rfl) dgP (bs l) W hsz (fun W' x _ _ => impl_numbersIn_1 x W'))
  have HQ : Hid (numsOf l = (nums xs).getD []) := Lib.hid (by unfold numsOf; rw [hxs])
  rw [← hxs] at HF
  have HW := Lib.hid hxw
  obtain ⟨N, hN⟩ : ∃ N, xs.length = N := ⟨_, rfl⟩
  rw [hN] at HF hxl
  have HN := Lib.hid hN
  clear hxs hxw hN
  go_enter Tryd.func15, Tryd.ntmps15
  go_wp2_with (go_at_call 23; refine (HF.out _).mono ?_; rintro e w1 ⟨A, rfl, hA, ho1, hb1⟩)
  have HX := Lib.hid (show Own w1 _ 9 1 scl (.slice (some ⟨A, 0, none⟩) N N) xs by unfold Own; rw [HN.out, scl_flat]; exact ho1)
  have HA : Hid (A ≠ w.heap.size) := Lib.hid (by simp at hA; omega)
  clear ho1
  go_loopw [3, 12] (fun v i wr => ∃ (k : Nat) (out : List Int), k ≤ N ∧ i = .int .i64 k ∧ Hid (nums (xs.take k) = some out) ∧ Hid (out.length = k) ∧ Hid (Own wr w.heap.size 2 1 icell v out) ∧ Below w.heap.size w wr ∧ Hid (Own wr (w.alloc (.cells #[] 2)).heap.size 9 1 scl (.slice (some ⟨A, 0, none⟩) N N) xs) ∧ Hid ((Value.slice (some ⟨A, 0, none⟩) N N).ownBlock = none ∨ (Value.slice (some ⟨A, 0, none⟩) N N).ownBlock ≠ v.ownBlock)) (fun _ i _ => N - (intOf i).toNat)
  case atStart => exact ⟨0, [], by omega, rfl, Lib.hid rfl, Lib.hid rfl, Lib.hid (by first | exact Own.below (own_new_empty _ _ _ _ _ (Nat.le_refl _)) hb1 (Nat.le_refl _)), below_one hb1, HX, Lib.hid (.inr fun h => HA.out (by injection h))⟩
  case round =>
    obtain ⟨k, out, hk, rfl, HS, HL, HO, hbw, HX, HA⟩ := hrel
    by_cases hlt : k < N
    · obtain ⟨b, off, hA', hB, hc⟩ := (own_sl HX.out scl_len).at_ (by omega)
      injection hA' with hA'
      injection hA' with hA1 hA2
      subst hA1; subst hA2
      obtain ⟨x, hx⟩ := (own_sl HX.out scl_len).get hlt
      have c0 := hc.sc hx
      rw [Nat.zero_add] at c0
      have hxl : x.data.toList.length ≤ 1048576 := by have := HW.out x (List.mem_of_getElem? hx); rw [← bs_of x, bs_size] at this; exact this
      have HR := Lib.hid (impl_ReadDecimal x.data.toList wr hxl (tab_on htab hbw) tp1 p1 (var_on hv1 hbw) tp2 p2 (var_on hv2 hbw))
      rw [bs_of] at HR
      have Hx := Lib.hid hx
      clear hx hc
      cases hr : rdF x.data.toList with
      | none =>
        have HQ0 : Hid (numsOf l = []) := Lib.hid (by rw [HQ.out, nums_stop Hx.out hr]; rfl)
        rw [hr] at HR
        clear hr
        go_wp2_with (go_at_call 25; refine (HR.out).mono ?_; rintro e w2 ⟨rfl, hb2⟩; dsimp only [Option.isSome])
        go_ret
        exact ⟨_, rfl, by rw [HQ0.out]; exact own_new_empty _ _ _ _ _ (by have := hbw.size; have := hb2.size; omega), below_al (below_then hbw hb2) _⟩
      | some n =>
        have HS' := Lib.hid (nums_step HS.out Hx.out hr)
        rw [hr] at HR
        clear hr
        go_wp2_with (first
          | (go_at_call 25; refine (HR.out).mono ?_; rintro e w2 ⟨rfl, hb2⟩; dsimp only [Option.isSome, Option.getD]; have HO2 := Lib.hid (Own.below HO.out hb2 (Nat.le_refl _)); have HX2 := Lib.hid (Own.below HX.out hb2 (Nat.le_refl _)); have hbw2 := below_then hbw hb2)
          | (at_builtin; refine wpList_push_at rfl _ _ 38 rfl w.heap.size 2 i0 (.int .i64 0) 1 8 Tryd.underlying38 hi hz0 hz1 hz2 rfl (by omega) icell_len (fun e u hu => by simp [icell] at hu; subst hu; rfl) _ _ n rfl HO2.out _ rfl _ rfl (by first | rfl | simp) (by rw [HL.out]; omega) (by omega) hbw2.size ?_; intro v3 w3 ho3 hg3 hat3; have HX3 := Lib.hid (own_other HX2.out HA.out hg3); have HA3 := Lib.hid (apart_next HX2.out HA.out (Nat.le_succ _) hat3); have hbel3 := own_grown hbw2 HO2.out (Nat.le_refl _) hbw2.size hg3; have HO3 := Lib.hid ho3; clear ho3 hg3 hat3))
        go_roundw
        case rel => exact ⟨k + 1, out ++ [n], by omega, by go_num, HS', Lib.hid (by rw [List.length_append, List.length_singleton, HL.out]), HO3, hbel3, HX3, HA3⟩
        case measure => simp [intOf]; omega
    · have hkl : k = N := by omega
      subst hkl
      have HQ1 : Hid (numsOf l = out) := Lib.hid (by have := HS.out; rw [HQ.out, ← HN.out, List.take_length] at *; rw [this]; rfl)
      go_wp2_with fail
      go_ret
      exact ⟨_, rfl, by rw [HQ1.out]; exact HO.out, hbw⟩

end Go.Proofs.YtogjkcakoahpiaaDoor

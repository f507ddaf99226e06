/- Walks over functions of this seat, by contract. Conditions: those that each theorem states. -/
import Derived.Test.YtgbblcbpmpokdaaGreatDoorV5
namespace Go.Proofs.YtgbblcbpmpokdaaGreatDoor
open Go.RowKit Go.Sort

theorem cell_lt {w : World} {b o : Nat} {v : Value} (h : w.cell? ⟨b, o, none⟩ = some v) : b < w.heap.size := by
  rcases Nat.lt_or_ge b w.heap.size with h' | h'
  · exact h'
  · simp [World.cell?, Array.getElem?_eq_none h'] at h
theorem split_at (l : List UInt8) (m : Int) (w : World) (hl : l.length ≤ 1048576) (hm : w.cell? ⟨0, 0, none⟩ = some (.int .i64 m)) (xs : List ByteArray) (hx : (spl 32 l).map bs = xs) (N : Nat) (hN : xs.length = N) :
    Calls Tryz.prog 12 #[.string (bs l), .string ⟨#[32]⟩] w fun e w' => e = .returned (.slice (some ⟨w.heap.size, 0, none⟩) N N) ∧ w' = w.alloc (.cells (xs.map Value.string).toArray 9) := by
  have h := Any.strings_Split { Tryz.laysM146 with } Tryz.laysM146.i9 (bs l) ⟨#[32]⟩ m w (by rw [bs_size]; omega) hm (Nat.le_refl _)
  have hall := Lib.splitB_all ⟨#[32]⟩ (Nat.le_refl _) 0 _ (bs l) rfl
  rw [splitB_spl] at h hall
  rw [hx] at h hall
  rw [← hall, hN] at h
  exact h
theorem own_words {w : World} {base E N : Nat} {xs : List ByteArray} (hb : base ≤ w.heap.size) (hN : xs.length = N) (hx : N ≤ 1048577) : Own (w.alloc (.cells (xs.map Value.string).toArray E)) base E 1 scl (.slice (some ⟨w.heap.size, 0, none⟩) N N) xs := by
  subst hN
  refine ⟨by rw [scl_flat]; simp, .inr ⟨w.heap.size, xs.length, _, rfl, hb, heap_alloc_new w _, Nat.le_refl _, by unfold maxLen; omega, by simp, by rw [scl_flat]; simp [List.take_of_length_le]⟩⟩
set_option maxHeartbeats 1000000 in
set_option maxRecDepth 100000 in
theorem impl_ReadAlarms (l : List UInt8) (w : World) (hl : l.length ≤ 1048576) (m : Int) (hm : w.cell? ⟨0, 0, none⟩ = some (.int .i64 m)) (htab : Lib.TabIs Tryz.prog w "internal/strconv.uint64pow10" .u64 Lib.pow10Tab)
    (tp1 : TypeId) (p1 : Value) (hv1 : w.var? Tryz.prog "strconv.ErrRange" = some #[.iface tp1 p1]) (tp2 : TypeId) (p2 : Value) (hv2 : w.var? Tryz.prog "strconv.ErrSyntax" = some #[.iface tp2 p2]) :
    Calls Tryz.prog 5 #[.string (bs l)] w fun e w' => ∃ v, e = .returned (.tuple #[v, .bool (raW ((spl 32 l).map bs)).isSome]) ∧ Own w' w.heap.size 2 1 icell v ((raW ((spl 32 l).map bs)).getD []) ∧ Below w.heap.size w w' := by
  obtain ⟨i0, hi, hz0, hz1, hz2⟩ := info_parts info_i64r
  obtain ⟨hxl, hxw⟩ := words_of hl
  obtain ⟨xs, hxs⟩ : ∃ xs, (spl 32 l).map bs = xs := ⟨_, rfl⟩
  rw [hxs] at hxl hxw ⊢
  have HW := Lib.hid hxw
  obtain ⟨N, hN⟩ : ∃ N, xs.length = N := ⟨_, rfl⟩
  rw [hN] at hxl
  have HF := Lib.hid (fun W h => split_at l m W hl h xs hxs N hN)
  have HN := Lib.hid hN
  have hm0 := cell_lt hm
  have HM := Lib.hid (cell_on hm (below_al (Below.refl _ w) (.cells #[] 2)) hm0)
  clear hxs hxw hN hm
  go_enter Tryz.func5, Tryz.ntmps5
  go_wp2_with fail
  refine (HF.out _ HM.out).mono ?_
  rintro e w1 ⟨rfl, hw1⟩
  have hb1 : Below (w.alloc (.cells #[] 2)).heap.size (w.alloc (.cells #[] 2)) w1 := by rw [hw1]; exact below_al (Below.refl _ _) _
  have HX : Hid (Own w1 (w.alloc (.cells #[] 2)).heap.size 9 1 scl (.slice (some ⟨(w.alloc (.cells #[] 2)).heap.size, 0, none⟩) N N) xs) := Lib.hid (by rw [hw1]; exact own_words (Nat.le_refl _) HN.out hxl)
  obtain ⟨A, hA⟩ : ∃ A, (w.alloc (.cells #[] 2)).heap.size = A := ⟨_, rfl⟩
  have HA : Hid (A ≠ w.heap.size) := Lib.hid (by simp at hA; omega)
  rw [hA] at HX
  rw [hA]
  clear hw1
  go_wp2_with fail
  go_loopw [4, 13] (fun v i wr => ∃ (k : Nat) (out : List Int), k ≤ N ∧ i = .int .i64 k ∧ Hid (lvs (xs.take k) = some out) ∧ Hid (out.length = k) ∧ Hid (Own wr w.heap.size 2 1 icell v out) ∧ Below w.heap.size w wr ∧ Hid (Own wr A 9 1 scl (.slice (some ⟨A, 0, none⟩) N N) xs) ∧ Hid ((Value.slice (some ⟨A, 0, none⟩) N N).ownBlock = none ∨ (Value.slice (some ⟨A, 0, none⟩) N N).ownBlock ≠ v.ownBlock)) (fun _ i _ => N - (intOf i).toNat)
  case atStart => exact ⟨0, [], by omega, rfl, Lib.hid rfl, Lib.hid rfl, Lib.hid (by first | exact Own.below (own_new_empty _ _ _ _ _ (Nat.le_refl _)) hb1 (Nat.le_refl _)), below_one hb1, HX, Lib.hid (.inr fun h => HA.out (by injection h))⟩
  case round =>
    obtain ⟨k, out, hk, rfl, HS, HL, HO, hbw, HX, HA⟩ := hrel
    by_cases hlt : k < N
    · obtain ⟨b, off, hA', hB, hc⟩ := (own_sl HX.out scl_len).at_ (by omega)
      injection hA' with hA'
      injection hA' with hA1 hA2
      subst hA1; subst hA2
      obtain ⟨x, hx⟩ := (own_sl HX.out scl_len).get hlt
      have c0 := hc.sc hx
      rw [Nat.zero_add] at c0
      have hxl : x.data.toList.length ≤ 1048576 := HW.out x (List.mem_of_getElem? hx)
      have HR := Lib.hid (impl_ReadLevel x.data.toList wr hxl (tab_on htab hbw) tp1 p1 (var_on hv1 hbw) tp2 p2 (var_on hv2 hbw))
      rw [bs_of] at HR
      have Hx := Lib.hid hx
      clear hx hc
      cases hr : rl x.data.toList with
      | none =>
        have HQ0 : Hid (raW xs = none) := Lib.hid (raW_none (lvs_stop Hx.out hr))
        rw [hr] at HR
        clear hr
        go_wp2_with (go_at_call 13; refine (HR.out).mono ?_; rintro e w2 ⟨rfl, hb2⟩; dsimp only [Option.isSome])
        go_ret2
        exact ⟨_, by rw [HQ0.out]; rfl, by rw [HQ0.out]; exact own_new_empty _ _ _ _ _ (by have := hbw.size; have := hb2.size; omega), below_al (below_then hbw hb2) _⟩
      | some n =>
        have HS' := Lib.hid (lvs_step HS.out Hx.out hr)
        rw [hr] at HR
        clear hr
        go_wp2_with (first
          | (go_at_call 13; refine (HR.out).mono ?_; rintro e w2 ⟨rfl, hb2⟩; dsimp only [Option.isSome, Option.getD]; have HO2 := Lib.hid (Own.below HO.out hb2 (Nat.le_refl _)); have HX2 := Lib.hid (Own.below HX.out hb2 (Nat.le_refl _)); have hbw2 := below_then hbw hb2)
          | (at_builtin; refine wpList_push_at rfl _ _ 22 rfl w.heap.size 2 i0 (.int .i64 0) 1 8 Tryz.underlying22 hi hz0 hz1 hz2 rfl (by omega) icell_len (fun e u hu => by simp [icell] at hu; subst hu; rfl) _ _ n rfl HO2.out _ rfl _ rfl (by first | rfl | simp) (by rw [HL.out]; omega) (by omega) hbw2.size ?_; intro v3 w3 ho3 hg3 hat3; have HX3 := Lib.hid (own_other HX2.out HA.out hg3); have HA3 := Lib.hid (apart_next HX2.out HA.out (Nat.le_succ _) hat3); have hbel3 := own_grown hbw2 HO2.out (Nat.le_refl _) hbw2.size hg3; have HO3 := Lib.hid ho3; clear ho3 hg3 hat3))
        go_roundw
        case rel => exact ⟨k + 1, out ++ [n], by omega, by go_num, HS', Lib.hid (by rw [List.length_append, List.length_singleton, HL.out]), HO3, hbel3, HX3, HA3⟩
        case measure => simp [intOf]; omega
    · have hkl : k = N := by omega
      subst hkl
      have hS := HS.out
      rw [← HN.out, List.take_length] at hS
      obtain ⟨A2, n2, c2, rfl, hn2, _⟩ := own_shape HO.out
      have hn3 : n2 ≤ 2000000 := by have := HL.out; omega
      have hv := fun (W : World) (h : Sl W W.heap.size 1 icell A2 n2 out) => impl_ValidAlarms_big A2 n2 c2 out W hn3 h
      rcases Bool.eq_false_or_eq_true (alarmsOk out) with g | g
      · have HQ : Hid (raW xs = some out) := Lib.hid (raW_good hS g)
        rw [g] at hv
        have Hv := Lib.hid hv
        clear hS g hv hn2
        go_wp2_with fail
        refine (Hv.out _ (own_sl HO.out icell_len)).mono ?_
        rintro e w4 ⟨rfl, hb4⟩
        go_wp2_with fail
        go_ret2
        exact ⟨_, by rw [HQ.out]; rfl, by rw [HQ.out]; exact Own.below HO.out hb4 (Nat.le_refl _), below_then hbw hb4⟩
      · have HQ : Hid (raW xs = none) := Lib.hid (raW_bad hS g)
        rw [g] at hv
        have Hv := Lib.hid hv
        clear hS g hv hn2
        go_wp2_with fail
        refine (Hv.out _ (own_sl HO.out icell_len)).mono ?_
        rintro e w4 ⟨rfl, hb4⟩
        go_wp2_with fail
        go_ret2
        exact ⟨_, by rw [HQ.out]; rfl, by rw [HQ.out]; exact own_new_empty _ _ _ _ _ (by have := hbw.size; have := hb4.size; omega), below_al (below_then hbw hb4) _⟩

end Go.Proofs.YtgbblcbpmpokdaaGreatDoor

/- Walks over functions of this seat, by contract. Conditions: those that each theorem states. -/
import Derived.Test.YtgbblcbpmpokdaaC6
import Derived.Test.YtgbblcbpmpokdaaPut
import Derived.Test.YtgbblcbpmpokdaaStp
namespace Go.Proofs.Ytgbblcbpmpokdaa
open Go.RowKit Go.Sort

theorem sl_lift {α : Type} {w : World} {B sz n : Nat} {f : α → List Value} {A : Option Addr} {es : List α} (h : Sl w B sz f A n es) : Hid (Sl w B sz f A n es) := Lib.hid h
set_option maxHeartbeats 1000000 in
set_option maxRecDepth 100000 in
theorem spec_l16Put (base : Nat) (A : Option Addr) (n c : Nat) (L : List ByteArray) (s : ByteArray) (w : World) (hmax : n ≤ 1048576) (hbase : base ≤ w.heap.size) (ho : Own w base 9 1 scell (.slice A n c) L) :
    Calls Try.prog 53 #[.slice A n c, .string s] w fun e w' => ∃ v, e = .returned v ∧ Own w' base 9 1 scell v (putN L s) ∧ Below w.heap.size w w' := by
  obtain ⟨i0, hi, hz0, hz1, hz2⟩ := info_parts info_str
  have HO := Lib.hid ho
  have HS := Lib.hid (own_sl ho scell_len)
  have Hn := Lib.hid HS.out.len
  have hnc : n ≤ c := by obtain ⟨_, _, _, e, _, h2⟩ := own_shape ho; injection e with _ e2 e3; omega
  clear ho
  go_enter Try.func53, Try.ntmps53
  go_wp2
  go_loopw [5] (fun i wr => ∃ k : Nat, k ≤ n ∧ i = .int .i64 k ∧ w = wr ∧ Hid (∀ (j : Nat) z, j < k → L[j]? = some z → sLt z s = true)) (fun i _ => n - (intOf i).toNat)
  case atStart => exact ⟨0, by omega, rfl, rfl, Lib.hid (fun j l hj => by omega)⟩
  case round =>
    obtain ⟨k, hk, rfl, rfl, Hg⟩ := hrel
    by_cases hlt : k < n
    · obtain ⟨b, off, rfl, hb, H⟩ := HS.out.at_ (by omega)
      obtain ⟨y, hy⟩ := HS.out.get hlt
      have c0 := H.s1 hy
      have Hy := Lib.hid hy
      clear hy
      cases h1 : sLt y s with
      | true =>
        have h1' : Op.bytesLess y.toList s.toList = true := h1
        go_wp2_with fail
        go_roundw
        case rel => exact ⟨k + 1, by omega, by go_num, by first | exact trivial | exact rfl, Lib.hid (fun j z hj hz => by
          rcases Nat.lt_or_ge j k with h2 | h2
          · exact Hg.out j z h2 hz
          · have : j = k := by omega
            subst this; rw [Hy.out] at hz; injection hz with hz; subst hz; exact h1)⟩
        case measure => simp [intOf]; omega
      | false =>
        have h1' : Op.bytesLess y.toList s.toList = false := h1
        cases h2 : sEqv y s with
        | true =>
          have h2' : (y.toList == s.toList) = true := h2
          go_wp2_with fail
          go_ret
          exact ⟨_, rfl, by rw [putN_same Hg.out Hy.out h1 h2]; exact HO.out, Below.refl _ _⟩
        | false =>
          have h2' : (y.toList == s.toList) = false := h2
          have HP := Lib.hid (putN_at Hg.out Hy.out h1 h2)
          have hkc : (k : Int) ≤ (c : Int) := by omega
          have hkn : (k : Int) ≤ (n : Int) := by omega
          have hck : ¬ c = k := by omega
          have hback : ∀ W, Below w.heap.size w W → Sl W w.heap.size 1 scell (some ⟨b, off + k, none⟩) (n - k) (L.drop k) := fun W hW => by
            have := (HS.out.below hW).back k c hk hnc
            rw [if_neg hck] at this
            first | exact this | simpa [add_flat] using this
          have hback0 := hback
          go_wp2_with (first
            | (at_builtin; refine wpList_app rfl _ _ 45 rfl w.heap.size 9 i0 _ 1 16 Try.underlying45 hi hz0 hz1 hz2 rfl (by omega) scell_len scell_one _ ([] : List ByteArray) (L.take k) rfl (own_new_empty _ _ _ _ _ (Nat.le_refl _)) w.heap.size _ k _ rfl ((HS.out.front k hk).below (below_al (Below.refl _ _) _)) (by simp) (by omega) (by omega) (by simp) ?_; intro v3 w3 ho3 hg3; rw [List.nil_append] at ho3; have hb3 := own_grown (below_al (Below.refl _ w) (.cells #[] 9)) (own_new_empty w w.heap.size 9 1 scell (Nat.le_refl _)) (Nat.le_refl _) (by simp) hg3; obtain ⟨A3, n3, c3, rfl, _, _⟩ := own_shape ho3)
            | (at_builtin; refine wpList_push rfl _ _ 45 rfl w.heap.size 9 i0 _ 1 16 Try.underlying45 hi hz0 hz1 hz2 rfl (by omega) scell_len scell_one _ (L.take k) s rfl ho3 _ rfl _ rfl (by first | rfl | simp) (by rw [List.length_take]; omega) (by omega) hb3.size ?_; intro v4 w4 ho4 hg4; have hb4 := own_grown hb3 ho3 (Nat.le_refl _) hb3.size hg4; obtain ⟨A4, n4, c4, rfl, _, _⟩ := own_shape ho4)
            | (at_builtin; refine wpList_app rfl _ _ 45 rfl w.heap.size 9 i0 _ 1 16 Try.underlying45 hi hz0 hz1 hz2 rfl (by omega) scell_len scell_one _ (L.take k ++ [s]) (L.drop k) rfl ho4 w.heap.size _ _ _ rfl (by first | exact hback _ hb4 | exact hback0 _ hb4) (by rw [List.length_append, List.length_take]; simp; omega) (by omega) (by omega) hb4.size ?_; intro v5 w5 ho5 hg5; have hb5 := own_grown hb4 ho4 (Nat.le_refl _) hb4.size hg5))
          go_ret
          exact ⟨_, rfl, by rw [HP.out]; exact ho5.base_le hbase, hb5⟩
    · obtain rfl : k = n := by omega
      have HP : Hid (putN L s = L.take k ++ [s] ++ L.drop k) := Lib.hid (by
        rw [List.take_of_length_le (by have := Hn.out; omega), List.drop_of_length_le (by have := Hn.out; omega), List.append_nil]
        exact putN_end fun j z hz => Hg.out j z (by have := (List.getElem?_eq_some_iff.1 hz).1; have := Hn.out; omega) hz)
      have hkc : (k : Int) ≤ (c : Int) := by omega
      by_cases hck : c = k
      · have hback : ∀ W, Below w.heap.size w W → Sl W w.heap.size 1 scell A (k - k) (L.drop k) := fun W hW => by
          have := (HS.out.below hW).back k c hk hnc
          rw [if_pos hck] at this
          first | exact this | simpa [add_flat] using this
        have hback0 : ∀ W, Below w.heap.size w W → Sl W w.heap.size 1 scell A 0 (L.drop k) := fun W hW => by
          have := hback W hW
          rwa [show k - k = 0 from by omega] at this
        go_wp2_with (first
          | (at_builtin; refine wpList_app rfl _ _ 45 rfl w.heap.size 9 i0 _ 1 16 Try.underlying45 hi hz0 hz1 hz2 rfl (by omega) scell_len scell_one _ ([] : List ByteArray) (L.take k) rfl (own_new_empty _ _ _ _ _ (Nat.le_refl _)) w.heap.size _ k _ rfl ((HS.out.front k hk).below (below_al (Below.refl _ _) _)) (by simp) (by omega) (by omega) (by simp) ?_; intro v3 w3 ho3 hg3; rw [List.nil_append] at ho3; have hb3 := own_grown (below_al (Below.refl _ w) (.cells #[] 9)) (own_new_empty w w.heap.size 9 1 scell (Nat.le_refl _)) (Nat.le_refl _) (by simp) hg3; obtain ⟨A3, n3, c3, rfl, _, _⟩ := own_shape ho3)
          | (at_builtin; refine wpList_push rfl _ _ 45 rfl w.heap.size 9 i0 _ 1 16 Try.underlying45 hi hz0 hz1 hz2 rfl (by omega) scell_len scell_one _ (L.take k) s rfl ho3 _ rfl _ rfl (by first | rfl | simp) (by rw [List.length_take]; omega) (by omega) hb3.size ?_; intro v4 w4 ho4 hg4; have hb4 := own_grown hb3 ho3 (Nat.le_refl _) hb3.size hg4; obtain ⟨A4, n4, c4, rfl, _, _⟩ := own_shape ho4)
          | (at_builtin; refine wpList_app rfl _ _ 45 rfl w.heap.size 9 i0 _ 1 16 Try.underlying45 hi hz0 hz1 hz2 rfl (by omega) scell_len scell_one _ (L.take k ++ [s]) (L.drop k) rfl ho4 w.heap.size _ _ _ rfl (by first | exact hback _ hb4 | exact hback0 _ hb4) (by rw [List.length_append, List.length_take]; simp; omega) (by omega) (by omega) hb4.size ?_; intro v5 w5 ho5 hg5; have hb5 := own_grown hb4 ho4 (Nat.le_refl _) hb4.size hg5))
        go_ret
        exact ⟨_, rfl, by rw [HP.out]; exact ho5.base_le hbase, hb5⟩
      · have hback : ∀ W, Below w.heap.size w W → Sl W w.heap.size 1 scell (Option.map (fun (x : Addr) => x.add k) A) (k - k) (L.drop k) := fun W hW => by
          have := (HS.out.below hW).back k c hk hnc
          rw [if_neg hck] at this
          first | exact this | simpa [add_flat] using this
        have hback0 : ∀ W, Below w.heap.size w W → Sl W w.heap.size 1 scell (Option.map (fun (x : Addr) => x.add k) A) 0 (L.drop k) := fun W hW => by
          have := hback W hW
          rwa [show k - k = 0 from by omega] at this
        go_wp2_with (first
          | (at_builtin; refine wpList_app rfl _ _ 45 rfl w.heap.size 9 i0 _ 1 16 Try.underlying45 hi hz0 hz1 hz2 rfl (by omega) scell_len scell_one _ ([] : List ByteArray) (L.take k) rfl (own_new_empty _ _ _ _ _ (Nat.le_refl _)) w.heap.size _ k _ rfl ((HS.out.front k hk).below (below_al (Below.refl _ _) _)) (by simp) (by omega) (by omega) (by simp) ?_; intro v3 w3 ho3 hg3; rw [List.nil_append] at ho3; have hb3 := own_grown (below_al (Below.refl _ w) (.cells #[] 9)) (own_new_empty w w.heap.size 9 1 scell (Nat.le_refl _)) (Nat.le_refl _) (by simp) hg3; obtain ⟨A3, n3, c3, rfl, _, _⟩ := own_shape ho3)
          | (at_builtin; refine wpList_push rfl _ _ 45 rfl w.heap.size 9 i0 _ 1 16 Try.underlying45 hi hz0 hz1 hz2 rfl (by omega) scell_len scell_one _ (L.take k) s rfl ho3 _ rfl _ rfl (by first | rfl | simp) (by rw [List.length_take]; omega) (by omega) hb3.size ?_; intro v4 w4 ho4 hg4; have hb4 := own_grown hb3 ho3 (Nat.le_refl _) hb3.size hg4; obtain ⟨A4, n4, c4, rfl, _, _⟩ := own_shape ho4)
          | (at_builtin; refine wpList_app rfl _ _ 45 rfl w.heap.size 9 i0 _ 1 16 Try.underlying45 hi hz0 hz1 hz2 rfl (by omega) scell_len scell_one _ (L.take k ++ [s]) (L.drop k) rfl ho4 w.heap.size _ _ _ rfl (by first | exact hback _ hb4 | exact hback0 _ hb4) (by rw [List.length_append, List.length_take]; simp; omega) (by omega) (by omega) hb4.size ?_; intro v5 w5 ho5 hg5; have hb5 := own_grown hb4 ho4 (Nat.le_refl _) hb4.size hg5))
        go_ret
        exact ⟨_, rfl, by rw [HP.out]; exact ho5.base_le hbase, hb5⟩

end Go.Proofs.Ytgbblcbpmpokdaa

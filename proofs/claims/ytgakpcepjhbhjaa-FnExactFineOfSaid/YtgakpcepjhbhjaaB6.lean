/- Walks over functions of this seat, by contract. Conditions: those that each theorem states. -/
import Derived.Test.YtgakpcepjhbhjaaB5
namespace Go.Proofs.Ytgakpcepjhbhjaa
open Go.RowKit Go.Sort

def remitX (owner percent : Int) (q : Q4) : Int := if q.a = owner then (q.c - q.d) * percent / 100 else 0
def remitQ (owner percent : Int) (q : Q4) : Q4 := ⟨q.a, q.b, q.c - remitX owner percent q, q.d⟩
def remitCode (es : List Q4) (owner percent : Int) : Int := billCode es owner percent 100
def remitOut (es : List Q4) (owner percent : Int) : List Q4 := if remitCode es owner percent = 0 then es.map (remitQ owner percent) else []
def remitSum (es : List Q4) (owner percent : Int) : Int := if remitCode es owner percent = 0 then sumBy (remitX owner percent) es else 0
theorem remitX_bd {owner percent : Int} {q : Q4} (h : billOk q = true) (h0 : 0 ≤ percent) (h1 : percent ≤ 100) :
    0 ≤ (q.c - q.d) * percent ∧ (q.c - q.d) * percent ≤ 100000000000 ∧ 0 ≤ (q.c - q.d) * percent / 100 ∧ (q.c - q.d) * percent / 100 ≤ q.c - q.d ∧ 0 ≤ remitX owner percent q ∧ remitX owner percent q ≤ 1000000000 := by
  obtain ⟨_, _, ⟨c1, c2⟩, d1, d2⟩ := billOk_iff.1 h
  have e0 : 0 ≤ (q.c - q.d) * percent := Int.mul_nonneg (by omega) h0
  have e1 : (q.c - q.d) * percent ≤ (q.c - q.d) * 100 := Int.mul_le_mul_of_nonneg_left h1 (by omega)
  refine ⟨e0, by omega, by omega, by omega, ?_, ?_⟩ <;> unfold remitX <;> split <;> omega
theorem map_take_succ {α β : Type} {f : α → β} {es : List α} {k : Nat} {e : α} (he : es[k]? = some e) : (es.take (k + 1)).map f = (es.take k).map f ++ [f e] := by
  obtain ⟨hk, hx⟩ := List.getElem?_eq_some_iff.1 he
  rw [List.take_succ_eq_append_getElem hk, List.map_append, hx]
  rfl
set_option maxHeartbeats 1000000 in
theorem spec_RemitBills (A : Option Addr) (n c : Nat) (es : List Q4) (owner percent : Int) (w : World) (hmax : n ≤ 1048576) (h : Sl w w.heap.size 4 Q4.cells A n es) :
    Calls Try.prog 31 #[.slice A n c, .int .i64 owner, .int .i64 percent] w fun e w' => ∃ v, e = .returned (.tuple #[v, .int .i64 (remitSum es owner percent), .int .i64 (remitCode es owner percent)]) ∧ Own w' w.heap.size 26 4 Q4.cells v (remitOut es owner percent) ∧ Below w.heap.size w w' := by
  obtain ⟨i0, hi, hz0, hz1, hz2⟩ := info_parts info_Bill
  by_cases k1 : remitCode es owner percent = 0
  · obtain ⟨g1, _, g3⟩ := billCode_zero.1 k1
    obtain ⟨p0, p1⟩ := inR_iff.1 g3
    have Hn := Lib.hid h.len
    have Hg := Lib.hid g1
    have k1' : billCode es owner percent 100 = 0 := k1
    have Hk := Lib.hid k1
    clear g1 k1 g3
    go_enter Try.func31, Try.ntmps31
    go_wp2_with (go_at_call 48; refine (spec_l20Code _ _ _ es _ _ _ _ hmax h).mono ?_; rintro e w1 ⟨rfl, hb1⟩; rw [k1'])
    clear k1'
    go_loopw [10, 11, 12] (fun v sm i wr => ∃ (k : Nat) (s : Int), k ≤ n ∧ i = .int .i64 k ∧ sm = .int .i64 s ∧ Hid (s = sumBy (remitX owner percent) (es.take k)) ∧ Own wr w.heap.size 26 4 Q4.cells v ((es.take k).map (remitQ owner percent)) ∧ Below w.heap.size w wr) (fun _ _ i _ => n - (intOf i).toNat)
    case atStart => exact ⟨0, 0, by omega, rfl, rfl, Lib.hid rfl, own_new_empty _ _ _ _ _ hb1.size, below_al hb1 _⟩
    case round =>
      obtain ⟨k, s, hk, rfl, rfl, Hs, hown, hbel⟩ := hrel
      have Hown := Lib.hid hown
      clear hown
      by_cases hlt : k < n
      · obtain ⟨b, off, rfl, hb, H⟩ := h.at_ (by omega)
        obtain ⟨e, he⟩ := h.get hlt
        obtain ⟨c0, c1, c2, c3⟩ := (H.below hbel hb).q4 he
        have hall := (bills_all Hg.out).2
        have hok := hall e (List.mem_of_getElem? he)
        obtain ⟨r1, r2, r3, r4, _, _⟩ := remitX_bd (owner := owner) hok p0 p1
        obtain ⟨_, _, ⟨e1, e2⟩, e3, e4⟩ := billOk_iff.1 hok
        obtain ⟨s1, s2⟩ := sumBy_bound (f := remitX owner percent) (es := es) (B := 1000000000) (fun x hx => (remitX_bd (hall x hx) p0 p1).2.2.2.2) k
        have hlen := (bills_all Hg.out).1
        have hlen2 : (es.take k).length ≤ 100 := by rw [List.length_take]; omega
        rw [← Hs.out] at s1 s2
        have s3 : s ≤ 100000000000 := by omega
        have He := Lib.hid he
        clear he hall hlen s2 hok
        go_wp2_with (first
          | (at_builtin; refine wpList_push rfl _ _ 32 rfl w.heap.size 26 i0 _ 4 32 Try.underlying32 hi hz0 hz1 hz2 rfl (by omega) Q4.cells_len q4_one _ _ (⟨e.a, e.b, e.c - (e.c - e.d) * percent / 100, e.d⟩ : Q4) rfl (own_alloc Hown.out _) _ rfl _ rfl (by first | rfl | simp) (by simp; omega) (by omega) (by have := hbel.size; simp; omega) ?_; intro v3 w3 ho3 hg3; have hbel3 := own_grown (below_al hbel _) (own_alloc Hown.out _) (Nat.le_refl _) (by have := hbel.size; simp; omega) hg3; have Ho3 := Lib.hid ho3; clear ho3)
          | (at_builtin; refine wpList_push rfl _ _ 32 rfl w.heap.size 26 i0 _ 4 32 Try.underlying32 hi hz0 hz1 hz2 rfl (by omega) Q4.cells_len q4_one _ _ e rfl (own_alloc Hown.out _) _ rfl _ rfl (by first | rfl | simp) (by simp; omega) (by omega) (by have := hbel.size; simp; omega) ?_; intro v3 w3 ho3 hg3; have hbel3 := own_grown (below_al hbel _) (own_alloc Hown.out _) (Nat.le_refl _) (by have := hbel.size; simp; omega) hg3; have Ho3 := Lib.hid ho3; clear ho3))
        · have ho : (e.a == owner) = true := by assumption
          have ho' : e.a = owner := by simpa using ho
          go_roundw
          case rel => exact ⟨k + 1, _, by omega, by go_num, rfl, Lib.hid (by rw [sumBy_succ He.out, ← Hs.out, remitX, if_pos ho']), by rw [map_take_succ He.out, remitQ, remitX, if_pos ho']; exact Ho3.out, hbel3⟩
          case measure => simp [intOf]; omega
        · have ho : (e.a == owner) = false := by assumption
          have ho' : ¬ e.a = owner := by simpa using ho
          have hq : remitQ owner percent e = e := by simp [remitQ, remitX, ho']
          go_roundw
          case rel => exact ⟨k + 1, _, by omega, by go_num, rfl, Lib.hid (by rw [sumBy_succ He.out, ← Hs.out, remitX, if_neg ho']; omega), by rw [map_take_succ He.out, hq]; exact Ho3.out, hbel3⟩
          case measure => simp [intOf]; omega
      · go_wp2
        go_ret3
        have hkn : k = n := by omega
        subst hkn
        have hl : List.take k es = es := List.take_of_length_le (by rw [Hn.out]; omega)
        have hs' : remitSum es owner percent = s := by rw [remitSum, if_pos Hk.out, Hs.out, hl]
        have hr : remitOut es owner percent = (es.take k).map (remitQ owner percent) := by rw [remitOut, if_pos Hk.out, hl]
        exact ⟨_, by rw [hs', Hk.out]; rfl, by rw [hr]; exact Hown.out, hbel⟩
  · have hr : remitOut es owner percent = [] := by simp [remitOut, k1]
    have hs : remitSum es owner percent = 0 := by simp [remitSum, k1]
    have hne : (billCode es owner percent 100 != 0) = true := by simpa [remitCode] using k1
    rw [hr, hs]
    clear hr hs
    go_enter Try.func31, Try.ntmps31
    go_wp2_with (go_at_call 48; refine (spec_l20Code _ _ _ es _ _ _ _ hmax h).mono ?_; rintro e w1 ⟨rfl, hb1⟩)
    go_ret3
    exact ⟨_, rfl, own_nil _ _ _ _ _, hb1⟩

end Go.Proofs.Ytgakpcepjhbhjaa

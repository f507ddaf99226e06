/- Walks over functions of this seat, by contract. Conditions: those that each theorem states. -/
import Derived.Test.YtgbblcbpmpokdaaC7
namespace Go.Proofs.Ytgbblcbpmpokdaa
open Go.RowKit Go.Sort

def callCode (L : List (List ByteArray)) (st : Int) : Int := if lsOk L then (if inR st 0 L.length then 0 else 2) else 1
def callOut (L : List (List ByteArray)) (st : Int) : List ByteArray := if callCode L st = 0 then (L.take st.toNat).flatten.foldl putN [] else []
theorem call_bad {L : List (List ByteArray)} {st : Int} (h : lsOk L = false) : callCode L st = 1 ∧ callOut L st = [] := by simp [callCode, callOut, h]
theorem call_range {L : List (List ByteArray)} {st : Int} (h : lsOk L = true) (h1 : inR st 0 L.length = false) : callCode L st = 2 ∧ callOut L st = [] := by simp [callCode, callOut, h, h1]
theorem call_ok {L : List (List ByteArray)} {st : Int} (h : lsOk L = true) (h1 : inR st 0 L.length = true) : callCode L st = 0 ∧ callOut L st = (L.take st.toNat).flatten.foldl putN [] := by simp [callCode, callOut, h, h1]
theorem flat_small {L : List (List ByteArray)} (h : ∀ l ∈ L, l.length ≤ 12) : L.flatten.length ≤ L.length * 12 := by
  induction L with
  | nil => simp
  | cons x L ih =>
    have h1 := h x (by simp)
    have h2 := ih (fun l hl => h l (by simp [hl]))
    simp only [List.flatten_cons, List.length_append, List.length_cons]
    omega
theorem lsOk_small {L : List (List ByteArray)} (h : lsOk L = true) : L.length ≤ 5 ∧ ∀ l ∈ L, l.length ≤ 12 := by
  simp only [lsOk, Bool.and_eq_true, decide_eq_true_eq, List.all_eq_true] at h
  refine ⟨h.2, fun l hl => ?_⟩
  have := h.1 l hl
  simp only [lOk, Bool.and_eq_true, decide_eq_true_eq] at this
  exact this.1
/-- the names met by the time that q names of list k are read -/
def upto (L : List (List ByteArray)) (k : Nat) (l : List ByteArray) (q : Nat) : List ByteArray := (L.take k).flatten ++ l.take q
theorem upto_zero (L : List (List ByteArray)) (k : Nat) (l : List ByteArray) : upto L k l 0 = (L.take k).flatten := by simp [upto]
theorem upto_succ {L : List (List ByteArray)} {k : Nat} {l : List ByteArray} {q : Nat} {s : ByteArray} (h : l[q]? = some s) : upto L k l (q + 1) = upto L k l q ++ [s] := by
  unfold upto; rw [take_succ_get h, List.append_assoc]
theorem upto_full {L : List (List ByteArray)} {k : Nat} {l : List ByteArray} (h : L[k]? = some l) : upto L k l l.length = (L.take (k + 1)).flatten := by
  unfold upto; rw [take_succ_get h, List.take_length]; simp
theorem upto_len {L : List (List ByteArray)} {k : Nat} {l : List ByteArray} {q : Nat} (hL : L.length ≤ 5 ∧ ∀ l ∈ L, l.length ≤ 12) (h : l ∈ L) : (upto L k l q).length ≤ 72 := by
  have h1 := flat_small (L := L.take k) (fun l hl => hL.2 l (List.mem_of_mem_take hl))
  have h2 := hL.2 l h
  unfold upto
  simp only [List.length_append, List.length_take] at *
  omega
theorem fold_put_len {F : List ByteArray} {m : Nat} (h : F.length ≤ m) : (F.foldl putN []).length ≤ m := by
  have := fold_len putN putN_len_le F []
  simp at this; omega
theorem fold_add_len {F : List ByteArray} {m : Nat} (h : F.length ≤ m) : (F.foldl addN []).length ≤ m := by
  have := fold_len addN addN_len F []
  simp at this; omega
theorem own_nil_s (w : World) (base : Nat) : Own w base 9 1 scell (.slice none 0 0) [] := own_nil _ _ _ _ _
set_option maxHeartbeats 1000000 in
set_option maxRecDepth 100000 in
theorem spec_CalledAt (A : Option Addr) (n c : Nat) (st : Int) (rs : List R3) (L : List (List ByteArray)) (w : World) (hmax : n ≤ 1048576) (hr : ∀ r ∈ rs, r.n ≤ 1048576) (hz : ∀ l ∈ L, ∀ e ∈ l, e.size ≤ 1048576) (h : SS w w.heap.size A n rs L) :
    Calls Try.prog 23 #[.slice A n c, .int .i64 st] w fun e w' => ∃ v, e = .returned (.tuple #[v, .int .i64 (callCode L st)]) ∧ Own w' w.heap.size 9 1 scell v (callOut L st) ∧ Below w.heap.size w w' := by
  have HR := Lib.hid hr
  have HL := Lib.hid h.lenL
  clear hr
  cases g1 : lsOk L with
  | false =>
    rw [(call_bad g1).1, (call_bad g1).2]
    go_enter Try.func23, Try.ntmps23
    go_wp2_with (go_at_call 52; refine (spec_l16Lists A n c rs L _ hmax HR.out hz h).mono ?_; rintro e w1 ⟨rfl, rfl⟩; rw [g1])
    go_ret2
    exact ⟨_, rfl, own_nil_s _ _, Below.refl _ _⟩
  | true =>
    cases g2 : inR st 0 L.length with
    | false =>
      rw [(call_range g1 g2).1, (call_range g1 g2).2]
      rw [HL.out] at g2
      go_enter Try.func23, Try.ntmps23
      go_wp2_with (first
        | (go_at_call 52; refine (spec_l16Lists A n c rs L _ hmax HR.out hz h).mono ?_; rintro e w1 ⟨rfl, rfl⟩; rw [g1])
        | (go_at_call 38; refine (spec_l00In st 0 n _).mono ?_; rintro e w1 ⟨rfl, rfl⟩; rw [g2]))
      go_ret2
      exact ⟨_, rfl, own_nil_s _ _, Below.refl _ _⟩
    | true =>
      rw [(call_ok g1 g2).1, (call_ok g1 g2).2]
      rw [HL.out] at g2
      obtain ⟨h0, h1⟩ := inR_iff.1 g2
      obtain ⟨m, rfl⟩ : ∃ m : Nat, st = (m : Int) := ⟨st.toNat, by omega⟩
      have hmn : m ≤ n := by omega
      have Hsm := Lib.hid (lsOk_small g1)
      rw [show ((m : Int)).toNat = m from by omega]
      go_enter Try.func23, Try.ntmps23
      go_wp2_with (first
        | (go_at_call 52; refine (spec_l16Lists A n c rs L _ hmax HR.out hz h).mono ?_; rintro e w1 ⟨rfl, rfl⟩; rw [g1])
        | (go_at_call 38; refine (spec_l00In _ 0 n _).mono ?_; rintro e w1 ⟨rfl, rfl⟩; rw [g2]))
      clear g1 g2 h0 h1 hz
      go_loopw [6, 7] (fun v i wr => ∃ k : Nat, k ≤ m ∧ i = .int .i64 k ∧ Hid (Own wr w.heap.size 9 1 scell v ((L.take k).flatten.foldl putN [])) ∧ Hid (Below w.heap.size w wr)) (fun _ i _ => m - (intOf i).toNat)
      case atStart => exact ⟨0, by omega, rfl, Lib.hid (by simpa using own_new_empty w w.heap.size 9 1 scell (Nat.le_refl _)), Lib.hid (below_al (Below.refl _ _) _)⟩
      case round =>
        obtain ⟨k, hk, rfl, HO, HB⟩ := hrel
        by_cases hlt : k < m
        · obtain ⟨x, l, hx, hl, hS⟩ := h.get (show k < n by omega)
          obtain ⟨b, off, rfl, hb, H⟩ := h.top.at_ (by omega)
          have hxn := HR.out x (List.mem_of_getElem? hx)
          have Hl := Lib.hid hl
          have HS := Lib.hid hS
          have Hll := Lib.hid hS.len
          have Hx := Lib.hid hx
          have Hmem := Lib.hid (List.mem_of_getElem? hl)
          clear hx hl hS
          obtain ⟨wo, hwo⟩ : ∃ wo : World, wo = wr := ⟨_, rfl⟩
          subst hwo
          go_wp2_with fail
          go_loopw [6, 8] (fun v i wz => ∃ q : Nat, q ≤ x.n ∧ i = .int .i64 q ∧ Hid (Own wz w.heap.size 9 1 scell v ((upto L k l q).foldl putN [])) ∧ Hid (Below w.heap.size w wz)) (fun _ i _ => x.n - (intOf i).toNat)
          case atStart => exact ⟨0, by omega, rfl, Lib.hid (by rw [upto_zero]; exact HO.out), HB⟩
          case round =>
            obtain ⟨q, hq, rfl, HO2, HB2⟩ := hrel
            have c0 := (H.below HB2.out hb).r1 Hx.out
            by_cases hqt : q < x.n
            · obtain ⟨s, hs⟩ := HS.out.get hqt
              obtain ⟨b2, off2, hA2, hb2, H2⟩ := HS.out.at_ (by omega)
              rw [hA2] at c0
              have d0 := (H2.below HB2.out hb2).s1 hs
              have Hs := Lib.hid hs
              clear hs hA2
              obtain ⟨A2, n2, c2, rfl, hl2, _⟩ := own_shape HO2.out
              have hn2 : n2 ≤ 1048576 := by
                have := fold_put_len (upto_len (k := k) (q := q) Hsm.out Hmem.out)
                omega
              go_wp2_with fail
              refine (spec_l16Put w.heap.size A2 n2 c2 _ s _ hn2 HB2.out.size HO2.out).mono ?_
              rintro e w1 ⟨v1, rfl, ho1, hb1⟩
              go_wp2_with fail
              go_roundw
              case rel => exact ⟨q + 1, by omega, by go_num, Lib.hid (by rw [upto_succ Hs.out, List.foldl_append]; exact ho1), Lib.hid (below_then HB2.out hb1)⟩
              case measure => simp [intOf]; omega
            · have hqe : q = x.n := by omega
              go_wp2_with fail
              go_roundw
              case rel => exact ⟨k + 1, by omega, by go_num, Lib.hid (by
                have := HO2.out
                rw [hqe, ← Hll.out, upto_full Hl.out] at this
                exact this), HB2⟩
              case measure => simp [intOf]; omega
        · have hkm : k = m := by omega
          go_wp2_with fail
          go_ret2
          exact ⟨_, rfl, by rw [← hkm]; exact HO.out, HB.out⟩

end Go.Proofs.Ytgbblcbpmpokdaa

/- Proves: the law CalledAt returns true for every input and leaves its arguments as they were (the given statement). Conditions: none beyond the statement itself. -/
import Derived.Test.YtgbblcbpmpokdaaC9
import Derived.Test.YtgbblcbpmpokdaaRow
import Derived.Deep.RegionHeld3
namespace Go.Proofs.Ytgbblcbpmpokdaa
open Go.RowKit Go.Sort

theorem OS.small {w : World} {base : Nat} {v : Value} {rs : List R3} {L : List (List ByteArray)} (h : OS w base v rs L) (hl : ∀ l ∈ L, l.length ≤ 1048576) : ∀ r ∈ rs, r.n ≤ 1048576 := by
  intro r hr
  obtain ⟨i, hi, rfl⟩ := List.mem_iff_getElem.1 hr
  have hg := List.getElem?_eq_getElem hi
  obtain ⟨l, hl1, ho⟩ := h.rows.get hg
  obtain ⟨_, _, _, e, h2, _⟩ := own_shape ho
  injection e with _ e2 _
  have := hl l (List.mem_of_getElem? hl1)
  omega
theorem OS.ne_lo {w W1 : World} {base b1 : Nat} {v u : Value} {rs : List R3} {L : List (List ByteArray)} {us : List ByteArray} (h : OS w base v rs L) (ho : Own W1 b1 9 1 scell u us) (hs : W1.heap.size ≤ base) : ∀ r ∈ rs, u.ownBlock = none ∨ u.ownBlock ≠ r.v.ownBlock := by
  intro r hr
  obtain ⟨i, hi, rfl⟩ := List.mem_iff_getElem.1 hr
  obtain ⟨l, _, h1⟩ := h.rows.get (List.getElem?_eq_getElem hi)
  exact own_ne_lo ho h1 hs
theorem OS.ne_hi {w W2 : World} {base b2 : Nat} {v u : Value} {rs : List R3} {L : List (List ByteArray)} {us : List ByteArray} (h : OS w base v rs L) (ho : Own W2 b2 9 1 scell u us) (hs : w.heap.size ≤ b2) : ∀ r ∈ rs, u.ownBlock = none ∨ u.ownBlock ≠ r.v.ownBlock := by
  intro r hr
  obtain ⟨i, hi, rfl⟩ := List.mem_iff_getElem.1 hr
  obtain ⟨l, _, h1⟩ := h.rows.get (List.getElem?_eq_getElem hi)
  exact own_ne_hi h1 ho hs
theorem call_len (L : List (List ByteArray)) (st : Int) : (callOut L st).length ≤ 1048576 := by
  cases g1 : lsOk L with
  | false => rw [(call_bad g1).2]; simp
  | true =>
    cases g2 : inR st 0 L.length with
    | false => rw [(call_range g1 g2).2]; simp
    | true =>
      rw [(call_ok g1 g2).2]
      obtain ⟨h1, h2⟩ := lsOk_small g1
      have h3 := flat_small (L := L.take st.toNat) (fun l hl => h2 l (List.mem_of_mem_take hl))
      have h4 : (L.take st.toNat).length ≤ 5 := by rw [List.length_take]; omega
      exact Nat.le_trans (fold_put_len (Nat.le_refl _)) (by omega)
set_option maxHeartbeats 4000000 in
set_option maxRecDepth 100000 in
theorem law_CalledAt (st : Int) (A : Option Addr) (n c : Nat) (rs : List R3) (L : List (List ByteArray)) (w : World) (hn : n ≤ 9223372036854775807) (hr : ∀ r ∈ rs, r.n ≤ 9223372036854775807) (hz : ∀ l ∈ L, ∀ e ∈ l, e.size ≤ 9223372036854775807) (h : SS w w.heap.size A n rs L) :
    Calls Try.prog 5 #[.slice A n c, .int .i64 st] w fun e w' => e = .returned (.bool true) ∧ Below w.heap.size w w' := by
  have HL := Lib.hid h.lenL
  have HC := Lib.hid (call_len L st)
  go_enter Try.func5, Try.ntmps5
  go_wp2_with fail
  refine (laws_szStringSS A n c rs L 1048576 _ (by omega) (by omega) hn hr hz h).mono ?_
  rintro e w1 ⟨r, rfl, hs, rfl⟩
  rcases hs with rfl | ⟨hr0, hr1, hr2⟩
  · go_wp2_with fail
    go_ret
    exact ⟨rfl, Below.refl _ _⟩
  have hmn : n ≤ 1048576 := by have := HL.out; omega
  have HB := Lib.hid (show ∀ l ∈ L, l.length ≤ 1048576 from fun l hl => by have := (hr2 l hl).1; omega)
  have HE := Lib.hid (show ∀ l ∈ L, ∀ e ∈ l, e.size ≤ 1048576 from fun l hl e he => by have := (hr2 l hl).2 e he; omega)
  have hsum : rsum L ≤ 1048576 := by omega
  have HR := Lib.hid (show ∀ r ∈ rs, r.n ≤ 1048576 from fun r hr' => by
    obtain ⟨i, hi, rfl⟩ := List.mem_iff_getElem.1 hr'
    have hg := List.getElem?_eq_getElem hi
    have hli : i < L.length := by rw [← h.len]; exact hi
    have h1 := (h.row i _ _ hg (List.getElem?_eq_getElem hli)).len
    have := HB.out _ (List.getElem_mem hli)
    omega)
  have hr0' : ¬ r < 0 := by omega
  clear hr hz hr2 hr1 hr0
  go_wp2_with fail
  refine (laws_toStringSS A n c rs L _ hmn HR.out h).mono ?_
  rintro e w2 ⟨v, rs2, rfl, hO2, B2⟩
  obtain ⟨A2, n2, c2, rfl, hl2, _⟩ := own_shape hO2.own
  have hn2 : n2 ≤ 1048576 := by have := hO2.rows.len; have := HL.out; omega
  have O2 := Lib.hid hO2
  clear hO2 hl2
  go_wp2_with fail
  refine (spec_CalledAt A2 n2 c2 st rs2 L _ hn2 (O2.out.small HB.out) HE.out O2.out.ss).mono ?_
  rintro e w3 ⟨v, rfl, ho3, b3⟩
  obtain ⟨A3, n3, c3, rfl, hl3, _⟩ := own_shape ho3
  have S3 := Lib.hid ho3
  have hn3 : n3 ≤ 1048576 := by have := HC.out; omega
  clear ho3
  have B3 := below_then B2 b3
  go_wp2_with fail
  refine (laws_toStringSS A n c rs L _ hmn HR.out (h.on B3)).mono ?_
  rintro e w4 ⟨v, rs4, rfl, hO4, b4⟩
  obtain ⟨A4, n4, c4, rfl, hl4, hc4⟩ := own_shape hO4.own
  have hn4 : n4 ≤ 1048576 := by have := hO4.rows.len; have := HL.out; omega
  have O4 := Lib.hid hO4
  clear hO4 hl4
  have B4 := below_then B3 b4
  have S4 := Lib.hid (S3.out.below b4 (Nat.le_refl _))
  go_wp2_with fail
  refine (impl_CalledAt A4 n4 c4 st rs4 L _ hn4 hc4 (O4.out.small HB.out) HE.out O4.out.ss).mono ?_
  rintro e w5 ⟨v, rfl, ho5, b5⟩
  obtain ⟨A5, n5, c5, rfl, hl5, _⟩ := own_shape ho5
  have hn5 : n5 ≤ 1048576 := by have := HC.out; omega
  have G5 := Lib.hid ho5
  clear ho5
  have B5 := below_then B4 b5
  have S5 := Lib.hid (S4.out.below b5 (Nat.le_refl _))
  have O5 := Lib.hid (O4.out.below b5 (Nat.le_refl _))
  have NS := Lib.hid (O4.out.ne_lo S3.out (Nat.le_refl _))
  have NG := Lib.hid (O4.out.ne_hi G5.out (Nat.le_refl _))
  have SG := Lib.hid (own_ne_lo S4.out G5.out (Nat.le_refl _))
  go_wp2_with fail
  refine (laws_eqStringS A5 A3 n5 n3 c5 c3 (callOut L st) _ hn5 (own_sl G5.out scell_len) (own_sl S5.out scell_len)).mono ?_
  rintro e w6 ⟨rfl, b6⟩
  have B6 := below_then B5 b6
  have S6 := Lib.hid (S5.out.below b6 (Nat.le_refl _))
  have G6 := Lib.hid (G5.out.below b6 (Nat.le_refl _))
  have O6 := Lib.hid (O5.out.below b6 (Nat.le_refl _))
  go_wp2_with fail
  refine (laws_toStringSS A n c rs L _ hmn HR.out (h.on B6)).mono ?_
  rintro e w7 ⟨v, rs7, rfl, hO7, b7⟩
  obtain ⟨A7, n7, c7, rfl, hl7, _⟩ := own_shape hO7.own
  have O7 := Lib.hid hO7
  clear hO7 hl7
  have B7 := below_then B6 b7
  have S7 := Lib.hid (S6.out.below b7 (Nat.le_refl _))
  have G7 := Lib.hid (G6.out.below b7 (Nat.le_refl _))
  have O47 := Lib.hid (O6.out.below b7 (Nat.le_refl _))
  go_wp2_with fail
  refine (laws_eqStringSS A4 A7 n4 n7 c4 c7 rs4 rs7 L _ hn4 (O4.out.small HB.out) O47.out.ss O7.out.ss).mono ?_
  rintro e w8 ⟨rfl, b8⟩
  have B8 := below_then B7 b8
  have S8 := Lib.hid (S7.out.below b8 (Nat.le_refl _))
  have G8 := Lib.hid (G7.out.below b8 (Nat.le_refl _))
  have O8 := Lib.hid (O47.out.below b8 (Nat.le_refl _))
  clear O7 O47 O6 O5 S3 S4 S5 S6 S7 G5 G6 G7
  have hb3 : w.heap.size ≤ w3.heap.size := B3.size
  have hb8 : w3.heap.size ≤ w8.heap.size := Nat.le_trans b4.size (Nat.le_trans b5.size (Nat.le_trans b6.size (Nat.le_trans b7.size b8.size)))
  go_wp2_with fail
  refine (laws_markStringSS w3.heap.size A4 n4 c4 rs4 L _ hn4 hsum (O4.out.small HB.out) hb8 O8.out).mono ?_
  rintro e w9 ⟨rfl, K9, b9⟩
  have B9 : Below w.heap.size w w9 := B8.trans (b9.mono hb3)
  have S9 := Lib.hid (K9 _ _ _ S8.out NS.out)
  have G9 := Lib.hid (K9 _ _ _ G8.out NG.out)
  clear O8 K9 S8 G8 b9
  have hs0 : ¬ (1 + (rsum L : Int)) < 0 := by omega
  go_wp2_with fail
  refine (laws_eqStringS A5 A3 n5 n3 c5 c3 (callOut L st) _ hn5 (own_sl G9.out scell_len) (own_sl S9.out scell_len)).mono ?_
  rintro e w10 ⟨rfl, b10⟩
  have B10 := below_then B9 b10
  have S10 := Lib.hid (S9.out.below b10 (Nat.le_refl _))
  have G10 := Lib.hid (G9.out.below b10 (Nat.le_refl _))
  have hb4 : w.heap.size ≤ w4.heap.size := B4.size
  have hb10 : w.heap.size ≤ w10.heap.size := B10.size
  go_wp2_with fail
  refine (laws_markStringS w4.heap.size n5 (.slice A5 n5 c5) _ 1 _ hn5 (by omega) (by omega) (by have h9 := G10.out; unfold Own at h9; rw [hl5] at h9; exact h9)).mono ?_
  rintro e w11 ⟨rfl, p11, g11⟩
  have B11 := own_grown B10 G10.out hb4 hb10 g11
  have S11 := Lib.hid (own_other S10.out SG.out g11)
  have P11 := Lib.hid p11
  clear p11
  have hn0 : ¬ (1 + (n5 : Int)) < 0 := by omega
  go_wp2_with fail
  refine (laws_heldStringS w4.heap.size n5 (.slice A5 n5 c5) 1 _ hn5 (by omega) (by omega) P11.out).mono ?_
  rintro e w12 ⟨rfl, b12⟩
  have B12 := below_then B11 b12
  have S12 := Lib.hid (S11.out.below b12 (Nat.le_refl _))
  have P12 := Lib.hid (owns_below P11.out b12 (Nat.le_refl _))
  go_wp2_with fail
  refine (laws_toStringSS A n c rs L _ hmn HR.out (h.on B12)).mono ?_
  rintro e w13 ⟨v, rs13, rfl, hO13, b13⟩
  obtain ⟨A13, n13, c13, rfl, hl13, hc13⟩ := own_shape hO13.own
  have hn13 : n13 ≤ 1048576 := by have := hO13.rows.len; have := HL.out; omega
  have O13 := Lib.hid hO13
  clear hO13 hl13
  have B13 := below_then B12 b13
  have S13 := Lib.hid (S12.out.below b13 (Nat.le_refl _))
  have P13 := Lib.hid (owns_below P12.out b13 (Nat.le_refl _))
  go_wp2_with fail
  refine (impl_CalledAt A13 n13 c13 st rs13 L _ hn13 hc13 (O13.out.small HB.out) HE.out O13.out.ss).mono ?_
  rintro e w14 ⟨v, rfl, ho14, b14⟩
  obtain ⟨A14, n14, c14, rfl, hl14, _⟩ := own_shape ho14
  have hn14 : n14 ≤ 1048576 := by have := HC.out; omega
  have G14 := Lib.hid ho14
  clear ho14
  have B14 := below_then B13 b14
  have S14 := Lib.hid (S13.out.below b14 (Nat.le_refl _))
  have P14 := Lib.hid (owns_below P13.out b14 (Nat.le_refl _))
  go_wp2_with fail
  refine (laws_eqStringS A14 A3 n14 n3 c14 c3 (callOut L st) _ hn14 (own_sl G14.out scell_len) (own_sl S14.out scell_len)).mono ?_
  rintro e w15 ⟨rfl, b15⟩
  have B15 := below_then B14 b15
  have P15 := Lib.hid (owns_below P14.out b15 (Nat.le_refl _))
  go_wp2_with fail
  refine (laws_heldStringS w4.heap.size n5 (.slice A5 n5 c5) 1 _ hn5 (by omega) (by omega) P15.out).mono ?_
  rintro e w16 ⟨rfl, b16⟩
  go_wp2_with fail
  go_ret
  exact ⟨rfl, below_then B15 b16⟩
open Go.ChangeShapes Go.WideShapes Go.ChangeAt Go.Deep Go.Joins
section
variable {H : Type} {enc : TypeId × Value → H} {P : Program} {W : World}
theorem open_strs {t e : TypeId} {fuel : Nat} {v : Value} {x : DataW H × List MemPlace} (ht : P.underlying t = some (.slice e)) (he : P.underlying e = some .string) (hC : P.cellsOf e = 1)
    (h : DataW.trod enc P W 0 (fun _ => true) true fuel t [v] = some x) :
    ∃ (A : Option Addr) (n c : Nat) (xs : List ByteArray), v = .slice A n c ∧ n ≤ maxLen ∧ Sl W W.heap.size 1 scell A n xs ∧ ∀ s ∈ xs, s.size ≤ maxLen := by
  rcases open_slice1 ht hC h with ⟨hcs, _⟩ | ⟨a, len, cap, m, k, V, D, Pl, hcs, _, hl, hm, hmm, hx, hi⟩
  · injection hcs with hcs _
    subst hcs
    exact ⟨none, 0, 0, [], rfl, Nat.zero_le _, Sl.nil_ _ _ _ _ _, fun s hs => by cases hs⟩
  · injection hcs with hcs _
    subst hcs
    have hml : len ≤ m := by simp at hmm; omega
    have hcell : ∀ i, i < len → ∃ s : ByteArray, W.cell? (a.add i) = some (.string s) ∧ s.size ≤ maxLen := by
      intro i hin
      obtain ⟨hc, htr⟩ := hi i (by omega)
      obtain ⟨s, hs, _, hwf⟩ := DataW.trod_string he htr
      injection hs with hs _
      exact ⟨s, by rw [hc, hs], hwf⟩
    let X : Nat → ByteArray := fun i => if hin : i < len then (hcell i hin).choose else ⟨#[]⟩
    have hX : ∀ i, i < len → W.cell? (a.add i) = some (.string (X i)) ∧ (X i).size ≤ maxLen := by
      intro i hin
      simp only [X, hin, dite_true]
      exact (hcell i hin).choose_spec
    refine ⟨some a, len, cap, (List.range len).map X, rfl, by omega, ⟨by simp, fun hn => ?_⟩, fun s hs => ?_⟩
    · have h0 := (hX 0 hn).1
      have ha0 : a.add 0 = a := by simp [Addr.add]
      rw [ha0] at h0
      have hsp := spot_none h0
      refine ⟨a.block, a.off, by rw [← hsp], World.block_lt_of_cell? W a h0, fun i s hs j u hu => ?_⟩
      rw [List.getElem?_map] at hs
      obtain ⟨i', hi', rfl⟩ := Option.map_eq_some_iff.1 hs
      obtain ⟨hlt', hii⟩ := List.getElem?_eq_some_iff.1 hi'
      simp at hii hlt'
      subst hii
      match j, hu with
      | 0, hu =>
        simp [scell] at hu
        subst hu
        have := (hX i hlt').1
        rw [hsp, add_flat] at this
        simpa using this
      | j + 1, hu => simp [scell] at hu
    · obtain ⟨i, hi', rfl⟩ := List.mem_map.1 hs
      exact (hX i (List.mem_range.1 hi')).2
theorem open_strss {t e f : TypeId} {r : Reach} {b0 : Nat} {v : Value} {d : DataW H} {ps : List MemPlace} (ht : P.underlying t = some (.slice e)) (he : P.underlying e = some (.slice f)) (hf : P.underlying f = some .string) (hC : P.cellsOf e = 1) (hD : P.cellsOf f = 1)
    (hv : Value.okWide P W r b0 t v) (h : DataW.Trod enc P W 0 (fun _ => true) true t v d ps) :
    ∃ (A : Option Addr) (n c : Nat) (rs : List R3) (L : List (List ByteArray)), v = .slice A n c ∧ n ≤ maxLen ∧ SS W W.heap.size A n rs L ∧ (∀ r ∈ rs, r.n ≤ maxLen) ∧ ∀ l ∈ L, ∀ s ∈ l, s.size ≤ maxLen := by
  obtain ⟨A, len, cap, rfl⟩ := okWide_slice ht hv
  obtain ⟨fuel, hfu⟩ := h
  rcases open_slice1 ht hC hfu with ⟨hcs, _⟩ | ⟨a, len', cap', m, k, V, D, Pl, hcs, _, hl, hm, hmm, hx, hi⟩
  · simp [Value.cells] at hcs
    obtain ⟨rfl, rfl, rfl⟩ := hcs
    exact ⟨none, 0, 0, [], [], rfl, Nat.zero_le _, ⟨Sl.nil_ _ _ _ _ _, rfl, by simp⟩, by simp, by simp⟩
  · simp [Value.cells] at hcs
    obtain ⟨rfl, rfl, rfl⟩ := hcs
    have hml : len ≤ m := by simp at hmm; omega
    have hcell : ∀ i, i < len → ∃ y : R3 × List ByteArray, W.cell? (a.add i) = some y.1.v ∧ y.1.n ≤ maxLen ∧ Sl W W.heap.size 1 scell y.1.A y.1.n y.2 ∧ ∀ s ∈ y.2, s.size ≤ maxLen := by
      intro i hin
      obtain ⟨hc, htr⟩ := hi i (by omega)
      obtain ⟨A1, n1, c1, xs, hs, h1, h2, h3⟩ := open_strs he hf hD htr
      exact ⟨(⟨A1, n1, c1⟩, xs), by rw [hc, hs]; rfl, h1, h2, h3⟩
    let X : Nat → R3 × List ByteArray := fun i => if hin : i < len then (hcell i hin).choose else (⟨none, 0, 0⟩, [])
    have hX : ∀ i, i < len → W.cell? (a.add i) = some (X i).1.v ∧ (X i).1.n ≤ maxLen ∧ Sl W W.heap.size 1 scell (X i).1.A (X i).1.n (X i).2 ∧ ∀ s ∈ (X i).2, s.size ≤ maxLen := by
      intro i hin
      simp only [X, hin, dite_true]
      exact (hcell i hin).choose_spec
    have hget : ∀ {β : Type} (g : R3 × List ByteArray → β) (i : Nat) (y : β), ((List.range len).map fun i => g (X i))[i]? = some y → i < len ∧ y = g (X i) := by
      intro β g i y hy
      rw [List.getElem?_map] at hy
      obtain ⟨i', hi', rfl⟩ := Option.map_eq_some_iff.1 hy
      obtain ⟨hlt', hii⟩ := List.getElem?_eq_some_iff.1 hi'
      simp at hii hlt'
      subst hii
      exact ⟨hlt', rfl⟩
    refine ⟨some a, len, cap, (List.range len).map fun i => (X i).1, (List.range len).map fun i => (X i).2, rfl, by omega, ⟨⟨by simp, fun hn => ?_⟩, by simp, fun i r l hr hl' => ?_⟩, fun r hr => ?_, fun l hl' => ?_⟩
    · have h0 := (hX 0 hn).1
      have ha0 : a.add 0 = a := by simp [Addr.add]
      rw [ha0] at h0
      have hsp := spot_none h0
      refine ⟨a.block, a.off, by rw [← hsp], World.block_lt_of_cell? W a h0, fun i s hs j u hu => ?_⟩
      obtain ⟨hlt', rfl⟩ := hget (fun y => y.1) i s hs
      match j, hu with
      | 0, hu =>
        simp [rcell] at hu
        subst hu
        have := (hX i hlt').1
        rw [hsp, add_flat] at this
        simpa [R3.v] using this
      | j + 1, hu => simp [rcell] at hu
    · obtain ⟨hlt', rfl⟩ := hget (fun y => y.1) i r hr
      obtain ⟨_, rfl⟩ := hget (fun y => y.2) i l hl'
      exact (hX i hlt').2.2.1
    · obtain ⟨i, hi', rfl⟩ := List.mem_map.1 hr
      exact (hX i (List.mem_range.1 hi')).2.1
    · obtain ⟨i, hi', rfl⟩ := List.mem_map.1 hl'
      exact (hX i (List.mem_range.1 hi')).2.2.2
end
set_option maxRecDepth 100000
theorem lifted_CalledAt (os : Os) (started : os.Started) (H : Type) (enc : TypeId × Value → H) :
    ReturnsInHanded {} Try.checked os 5 .any (Rows.fnExactCalledAtSpec.pre6 enc Try.prog Try.f5 [] false) (Rows.fnExactCalledAtSpec.post enc Try.prog Try.f5 false true false false) := by
  refine lift_law (C := Try.checked) (by kernel_rfl) (by kernel_rfl) (s := Rows.fnExactCalledAtSpec) (T := 4) Try.underlying4 rfl rfl ?_ (by kernel_rfl) (by kernel_rfl) Try.func5 started
    (ChangeSpec.witness6 (enc := enc) (C := Try.checked) false ⟨#[], #[.slice none 0 0, .int .i64 0], []⟩ 8 (by kernel_rfl) (by kernel_rfl) (by kernel_rfl) (by kernel_rfl)) ?_
  · intro H ds hl
    match ds, hl with
    | [d0, d1], _ => rfl
  · intro W base args ds ps hval hlt hA
    have hval' : ∀ (j : Nat) t v, (#[43, 2] : Array TypeId)[j]? = some t → args[j]? = some v → Value.okWide Try.prog W .any base t v := hval
    have hA' : DataW.TrodAll enc Try.prog W 0 (fun _ => true) true [43, 2] args.toList ds ps := hA
    obtain ⟨v0, v1, d0, d1, p0, p1, rfl, rfl, rfl, z0, z1⟩ := trodAll_two hA'
    obtain ⟨A0, n0, c0, rs0, L0, rfl, hm0, hs0, hr0, hz0⟩ := open_strss Try.underlying43 Try.underlying45 Try.underlying9 (by kernel_rfl) (by kernel_rfl) (hval' 0 43 v0 rfl rfl) z0
    obtain ⟨x1, rfl, rfl, rfl, _⟩ := open_int Try.underlying2 (hval' 1 2 v1 rfl rfl) z1
    unfold maxLen at hm0 hr0 hz0
    exact law_CalledAt x1 A0 n0 c0 rs0 L0 W (by omega) (fun r hr => by have := hr0 r hr; omega) (fun l hl s hs => by have := hz0 l hl s hs; omega) hs0
theorem row_CalledAt : Rows.FnExactCalledAtSaid :=
  OpenClaim.holds_of_wide 5 Try.f5 rfl rfl rfl rfl rfl rfl rfl ⟨rfl, rfl, rfl, rfl, rfl⟩ rfl rfl rfl rfl rfl (by kernel_rfl) Try.func5 (by kernel_rfl)
    (of_decide_eq_true (by kernel_rfl)) (by unfold Func.isWrapper; first | (rw [if_pos (by decide +kernel)]; kernel_rfl) | (rw [if_neg (by decide +kernel)]; exact ⟨rfl, rfl⟩))
    (fun os started H enc _ => lifted_CalledAt os started H enc)

end Go.Proofs.Ytgbblcbpmpokdaa

/- Walks over functions of this seat, by contract. Conditions: those that each theorem states. -/
import Derived.Test.YtgbblcbpmpokdaaC4
namespace Go.Proofs.Ytgbblcbpmpokdaa
open Go.RowKit Go.Sort

structure OR (w : World) (base : Nat) (rs : List R3) (L : List (List ByteArray)) (out : Option Nat) : Prop where
  len : rs.length = L.length
  row : ∀ (i : Nat) (r : R3) (l : List ByteArray), rs[i]? = some r → L[i]? = some l → Own w base 9 1 scell r.v l
  apt : ∀ (i j : Nat) (r s : R3), i ≠ j → rs[i]? = some r → rs[j]? = some s → r.v.ownBlock = none ∨ r.v.ownBlock ≠ s.v.ownBlock
  out : ∀ r ∈ rs, r.v.ownBlock = none ∨ r.v.ownBlock ≠ out
theorem OR.nil (w : World) (base : Nat) (o : Option Nat) : OR w base [] [] o := ⟨rfl, by simp, by simp, by simp⟩
theorem OR.get {w : World} {base : Nat} {rs : List R3} {L : List (List ByteArray)} {o : Option Nat} (h : OR w base rs L o) {i : Nat} {r : R3} (hr : rs[i]? = some r) :
    ∃ l, L[i]? = some l ∧ Own w base 9 1 scell r.v l := by
  have hi : i < L.length := by rw [← h.len]; exact (List.getElem?_eq_some_iff.1 hr).1
  exact ⟨L[i], List.getElem?_eq_getElem hi, h.row i r _ hr (List.getElem?_eq_getElem hi)⟩
theorem OR.below {w w' : World} {base B : Nat} {rs : List R3} {L : List (List ByteArray)} {o : Option Nat} (h : OR w base rs L o) (hb : Below B w w') (hB : w.heap.size ≤ B) : OR w' base rs L o :=
  ⟨h.len, fun i r l h1 h2 => (h.row i r l h1 h2).below hb hB, h.apt, h.out⟩
theorem OR.lt {w : World} {base : Nat} {rs : List R3} {L : List (List ByteArray)} {o : Option Nat} (h : OR w base rs L o) {i : Nat} {r : R3} (hr : rs[i]? = some r) : ∀ k, r.v.ownBlock = some k → base ≤ k ∧ k < w.heap.size := by
  obtain ⟨l, _, ho⟩ := h.get hr
  exact fun k hk => World.ownsRow.lt ho k hk
/-- one row more, made behind all the others -/
theorem OR.push {w w' : World} {base g : Nat} {rs : List R3} {L : List (List ByteArray)} {r : R3} {l : List ByteArray} (h : OR w base rs L (some g)) (hb : Below w.heap.size w w') (hg : g < w.heap.size) (hbase : base ≤ w.heap.size)
    (ho : Own w' w.heap.size 9 1 scell r.v l) : OR w' base (rs ++ [r]) (L ++ [l]) (some g) := by
  have hlt : ∀ k, r.v.ownBlock = some k → w.heap.size ≤ k := fun k hk => (World.ownsRow.lt ho k hk).1
  have hnew : ∀ (s : R3) (i : Nat), rs[i]? = some s → s.v.ownBlock = none ∨ s.v.ownBlock ≠ r.v.ownBlock := fun s i hs => by
    cases hx : s.v.ownBlock with
    | none => exact .inl rfl
    | some k =>
      have := (h.lt hs k hx).2
      exact .inr (fun e => by have := hlt k e.symm; omega)
  have hnew' : ∀ (s : R3) (i : Nat), rs[i]? = some s → r.v.ownBlock = none ∨ r.v.ownBlock ≠ s.v.ownBlock := fun s i hs => by
    cases hx : r.v.ownBlock with
    | none => exact .inl rfl
    | some k =>
      have := hlt k hx
      exact .inr (fun e => by have := (h.lt hs k e.symm).2; omega)
  have hsplit : ∀ {α : Type} (xs : List α) (x : α) (i : Nat) (y : α), (xs ++ [x])[i]? = some y → (i < xs.length ∧ xs[i]? = some y) ∨ (i = xs.length ∧ y = x) := fun xs x i y hy => by
    rcases Nat.lt_or_ge i xs.length with hi | hi
    · rw [List.getElem?_append_left hi] at hy; exact .inl ⟨hi, hy⟩
    · rw [List.getElem?_append_right hi] at hy
      have h0 : i - xs.length < [x].length := (List.getElem?_eq_some_iff.1 hy).1
      have h1 : i = xs.length := by simp at h0; omega
      subst h1
      simp at hy; exact .inr ⟨rfl, hy.symm⟩
  refine ⟨by simp [h.len], ?_, ?_, ?_⟩
  · intro i s m hs hm
    rcases hsplit _ _ _ _ hs with ⟨h1, h2⟩ | ⟨h1, rfl⟩
    · rcases hsplit _ _ _ _ hm with ⟨_, h4⟩ | ⟨h3, _⟩
      · exact (h.row i s m h2 h4).below hb (Nat.le_refl _)
      · rw [h.len] at h1; omega
    · rcases hsplit _ _ _ _ hm with ⟨h3, _⟩ | ⟨_, rfl⟩
      · rw [h.len] at h1; omega
      · exact ho.base_le hbase
  · intro i j s t hij hs ht
    rcases hsplit _ _ _ _ hs with ⟨h1, h2⟩ | ⟨h1, rfl⟩
    · rcases hsplit _ _ _ _ ht with ⟨_, h4⟩ | ⟨_, rfl⟩
      · exact h.apt i j s t hij h2 h4
      · exact hnew s i h2
    · rcases hsplit _ _ _ _ ht with ⟨_, h4⟩ | ⟨h3, rfl⟩
      · exact hnew' t j h4
      · omega
  · intro s hs
    rcases List.mem_append.1 hs with hs | hs
    · exact h.out s hs
    · simp at hs; subst hs
      cases hx : s.v.ownBlock with
      | none => exact .inl rfl
      | some k => exact .inr (fun e => by injection e with e; have := hlt k hx; omega)
theorem OR.st {w : World} {base g : Nat} {rs : List R3} {L : List (List ByteArray)} (h : OR w base rs L (some g)) (o : Nat) (u : Value) : OR (w.setCell ⟨g, o, none⟩ u) base rs L (some g) :=
  ⟨h.len, fun i r l h1 h2 => own_other (h.row i r l h1 h2) (h.out r (List.mem_of_getElem? h1)) (only_st (World.grownBy.refl w _) _ _), h.apt, h.out⟩
structure OS (w : World) (base : Nat) (v : Value) (rs : List R3) (L : List (List ByteArray)) : Prop where
  own : Own w base 45 1 rcell v rs
  rows : OR w base rs L v.ownBlock
theorem OS.below {w w' : World} {base B : Nat} {v : Value} {rs : List R3} {L : List (List ByteArray)} (h : OS w base v rs L) (hb : Below B w w') (hB : w.heap.size ≤ B) : OS w' base v rs L :=
  ⟨h.own.below hb hB, h.rows.below hb hB⟩
theorem OS.ss {w : World} {base : Nat} {A : Option Addr} {n c : Nat} {rs : List R3} {L : List (List ByteArray)} (h : OS w base (.slice A n c) rs L) : SS w w.heap.size A n rs L :=
  ⟨own_sl h.own rcell_len, h.rows.len, fun i r l h1 h2 => own_sl (h.rows.row i r l h1 h2) scell_len⟩
theorem take_succ_get {α : Type} {L : List α} {k : Nat} {l : α} (h : L[k]? = some l) : L.take (k + 1) = L.take k ++ [l] := by
  obtain ⟨hk, hx⟩ := List.getElem?_eq_some_iff.1 h
  rw [List.take_succ_eq_append_getElem hk, hx]
theorem info_strs : (Try.prog.info? 45).map (fun i => (i.zero, i.size, i.bytes)) = some (some (.slice none 0 0), 1, 24) := by kernel_rfl
set_option maxHeartbeats 1000000 in
theorem laws_toStringSS (A : Option Addr) (n c : Nat) (rs : List R3) (L : List (List ByteArray)) (w : World) (hmax : n ≤ 1048576) (hr : ∀ r ∈ rs, r.n ≤ 1048576) (h : SS w w.heap.size A n rs L) :
    Calls Try.prog 24 #[.slice A n c] w fun e w' => ∃ v rs', e = .returned v ∧ OS w' w.heap.size v rs' L ∧ Below w.heap.size w w' := by
  obtain ⟨i0, hi, hz0, hz1, hz2⟩ := info_parts info_strs
  have hmk := make_all Try.underlying43 hi hz0 n (by rw [hz2]; omega) (by omega)
  rw [hz1, Nat.mul_one] at hmk
  clear hi hz0 hz1 hz2
  have Hlen := Lib.hid h.lenL
  have HR := Lib.hid hr
  clear hr
  go_enter Try.func24, Try.ntmps24
  go_wp2
  clear hmk
  go_loopw [4] (fun i wr => ∃ (k : Nat) (qs : List R3), k ≤ n ∧ i = .int .i64 k ∧ qs.length = k ∧ Row wr w.heap.size 45 n (qs.flatMap rcell) ∧ Hid (OR wr w.heap.size qs (L.take k) (some w.heap.size)) ∧ Below w.heap.size w wr ∧ w.heap.size < wr.heap.size) (fun i _ => n - (intOf i).toNat)
  case atStart => exact ⟨0, [], by omega, rfl, rfl, by simpa using Row.new w _ _ _, Lib.hid (by simpa using OR.nil _ _ _), below_al (Below.refl _ _) _, by simp⟩
  case round =>
    obtain ⟨k, qs, hk, rfl, hq, hrow, HO, hbel, hgl⟩ := hrel
    by_cases hlt : k < n
    · obtain ⟨x, l, hx, hl, hS⟩ := h.get hlt
      obtain ⟨b, off, rfl, hb, H⟩ := h.top.at_ (by omega)
      have c0 := (H.below hbel hb).r1 hx
      have hxn := HR.out x (List.mem_of_getElem? hx)
      have HS := Lib.hid (hS.on hbel)
      have Hl := Lib.hid hl
      clear hx hl hS
      go_wp2_with fail
      refine (laws_toStringS x.A x.n x.c l _ hxn HS.out).mono ?_
      rintro e w1 ⟨v, rfl, ho, hb1⟩
      obtain ⟨A1, n1, c1, rfl, _, _⟩ := own_shape ho
      have HO1 := Lib.hid (HO.out.push (r := ⟨A1, n1, c1⟩) hb1 hgl (Nat.le_of_lt hgl) ho)
      have hrow1 := hrow.on hb1
      have hbel1 := below_then hbel hb1
      have hgl1 := Nat.lt_of_lt_of_le hgl hb1.size
      obtain ⟨v0, x0⟩ := hrow1.cell (i := k) (by omega)
      have f0 := hrow1.frozen k
      clear ho
      go_wp2_with fail
      go_roundw
      case rel =>
        refine ⟨k + 1, qs ++ [⟨A1, n1, c1⟩], by omega, by go_num, by simp [hq], ?_, Lib.hid ?_, below_st hbel1 _ (Nat.le_refl _) _, by simpa [World.setCell] using hgl1⟩
        · rw [List.flatMap_append]
          exact hrow1.push1 (by rw [flat_len rcell_len, hq, Nat.mul_one]) _ (by omega)
        · have := HO1.out.st k (.slice A1 n1 c1)
          rw [take_succ_get Hl.out]; exact this
      case measure => simp [intOf]; omega
    · go_wp2
      go_ret
      have hkn : k = n := by omega
      subst hkn
      have hL : L.take k = L := List.take_of_length_le (by rw [Hlen.out]; omega)
      rw [hL] at HO
      have ho : Own wr w.heap.size 45 1 rcell (.slice (some ⟨w.heap.size, 0, none⟩) k k) qs := by
        have := Row.own (f := rcell) (es := qs) (sz := 1) (by simpa [hq] using hrow) rcell_len (Nat.le_refl _) (by rw [hq]; unfold maxLen; omega)
        rwa [hq] at this
      exact ⟨_, qs, rfl, ⟨ho, HO.out⟩, hbel⟩

end Go.Proofs.Ytgbblcbpmpokdaa

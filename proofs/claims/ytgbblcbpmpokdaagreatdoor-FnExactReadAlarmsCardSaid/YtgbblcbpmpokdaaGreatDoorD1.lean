/- Walks over functions of this seat, by contract. Conditions: those that each theorem states. -/
import Derived.Test.YtgbblcbpmpokdaaGreatDoorBase
import Derived.Test.YtgbblcbpmpokdaaGreatDoorStp
import Derived.Lib.ItoaLen
import Derived.Laws.IdiomStrings
namespace Go.Proofs.YtgbblcbpmpokdaaGreatDoor
open Go.RowKit Go.Sort

/-- the parts of a row of bytes between bytes c -/
def spl (c : UInt8) : List UInt8 → List (List UInt8)
  | [] => [[]]
  | x :: xs => if x = c then [] :: spl c xs else match spl c xs with | [] => [[x]] | t :: ts => (x :: t) :: ts
theorem spl_ne (c : UInt8) (l : List UInt8) : spl c l ≠ [] := by
  cases l with
  | nil => simp [spl]
  | cons x xs => unfold spl; split; simp; split <;> simp
theorem spl_none {c : UInt8} : ∀ {l : List UInt8}, (∀ x ∈ l, x ≠ c) → spl c l = [l]
  | [], _ => rfl
  | x :: xs, h => by
    have ih := spl_none (c := c) (l := xs) fun y hy => h y (List.mem_cons.2 (.inr hy))
    unfold spl
    rw [if_neg (h x (List.mem_cons.2 (.inl rfl))), ih]
theorem spl_app {c : UInt8} {b : List UInt8} : ∀ {a : List UInt8}, (∀ x ∈ a, x ≠ c) → spl c (a ++ c :: b) = a :: spl c b
  | [], _ => by simp [spl]
  | x :: xs, h => by
    have ih := spl_app (c := c) (b := b) (a := xs) fun y hy => h y (List.mem_cons.2 (.inr hy))
    rw [List.cons_append]
    have e : spl c (x :: (xs ++ c :: b)) = if x = c then [] :: spl c (xs ++ c :: b) else match spl c (xs ++ c :: b) with | [] => [[x]] | t :: ts => (x :: t) :: ts := rfl
    rw [e, if_neg (h x (List.mem_cons.2 (.inl rfl))), ih]
def jn (c : UInt8) : List (List UInt8) → List UInt8
  | [] => []
  | w :: ws => match ws with | [] => w | _ :: _ => w ++ c :: jn c ws
theorem jn_cons {c : UInt8} {w : List UInt8} {ws : List (List UInt8)} (h : ws ≠ []) : jn c (w :: ws) = w ++ c :: jn c ws := by
  cases ws with
  | nil => exact absurd rfl h
  | cons v vs => rw [jn]
theorem jn_spl (c : UInt8) : ∀ l : List UInt8, jn c (spl c l) = l
  | [] => rfl
  | x :: xs => by
    have ih := jn_spl c xs
    have hne := spl_ne c xs
    unfold spl
    split
    · rename_i hx
      rw [jn_cons hne, ih, hx]; rfl
    · split
      · rename_i h0; exact absurd h0 hne
      · rename_i t ts h0
        rw [h0] at ih
        cases ts with
        | nil => simp only [jn] at ih ⊢; rw [ih]
        | cons u us => rw [jn_cons (by simp)] at ih ⊢; rw [List.cons_append, ih]
theorem spl_mem {c : UInt8} : ∀ {l w : List UInt8}, w ∈ spl c l → ∀ x ∈ w, x ∈ l ∧ x ≠ c
  | [], w, h, x, hx => by simp [spl] at h; subst h; simp at hx
  | y :: ys, w, h, x, hx => by
    have ih := fun {w} (h : w ∈ spl c ys) => spl_mem h
    unfold spl at h
    split at h
    · rcases List.mem_cons.1 h with rfl | h
      · simp at hx
      · obtain ⟨h1, h2⟩ := ih h x hx; exact ⟨List.mem_cons.2 (.inr h1), h2⟩
    · rename_i hyc
      split at h
      · rename_i h0; exact absurd h0 (spl_ne c ys)
      · rename_i t ts h0
        rw [h0] at ih
        rcases List.mem_cons.1 h with rfl | h
        · rcases List.mem_cons.1 hx with rfl | hx
          · exact ⟨List.mem_cons.2 (.inl rfl), hyc⟩
          · obtain ⟨h1, h2⟩ := ih (List.mem_cons.2 (.inl rfl)) x hx; exact ⟨List.mem_cons.2 (.inr h1), h2⟩
        · obtain ⟨h1, h2⟩ := ih (List.mem_cons.2 (.inr h)) x hx; exact ⟨List.mem_cons.2 (.inr h1), h2⟩
/-- the loop's words: what is split off so far, and the rest -/
structure SplAt (c : UInt8) (l : List UInt8) (out : List (List UInt8)) (fr i : Nat) : Prop where
  le : fr ≤ i
  all : spl c l = out ++ spl c (l.drop fr)
  no : ∀ j x, fr ≤ j → j < i → l[j]? = some x → x ≠ c
theorem SplAt.zero (c : UInt8) (l : List UInt8) : SplAt c l [] 0 0 := ⟨Nat.le_refl _, by simp, fun j x _ h => absurd h (by omega)⟩
theorem SplAt.skip {c : UInt8} {l : List UInt8} {out : List (List UInt8)} {fr i : Nat} {x : UInt8} (h : SplAt c l out fr i) (hx : l[i]? = some x) (hc : x ≠ c) : SplAt c l out fr (i + 1) :=
  ⟨by have := h.le; omega, h.all, fun j y h1 h2 hy => by
    rcases Nat.lt_or_ge j i with h3 | h3
    · exact h.no j y h1 h3 hy
    · have : j = i := by omega
      subst this; rw [hx] at hy; injection hy with hy; exact hy ▸ hc⟩
theorem SplAt.free {c : UInt8} {l : List UInt8} {out : List (List UInt8)} {fr i : Nat} (h : SplAt c l out fr i) : ∀ x ∈ (l.drop fr).take (i - fr), x ≠ c := by
  intro x hx
  obtain ⟨j, hj, rfl⟩ := List.mem_iff_getElem.1 hx
  have hj2 : j < i - fr ∧ j < (l.drop fr).length := by rw [List.length_take] at hj; omega
  have hlen : fr + j < l.length := by have := hj2.2; rw [List.length_drop] at this; omega
  refine h.no (fr + j) _ (by omega) (by omega) ?_
  rw [List.getElem_take, List.getElem_drop]
  exact List.getElem?_eq_getElem hlen
theorem SplAt.cut {c : UInt8} {l : List UInt8} {out : List (List UInt8)} {fr i : Nat} (h : SplAt c l out fr i) (hx : l[i]? = some c) : SplAt c l (out ++ [(l.drop fr).take (i - fr)]) (i + 1) (i + 1) := by
  refine ⟨Nat.le_refl _, ?_, fun j y h1 h2 => absurd h1 (by omega)⟩
  obtain ⟨hi, he⟩ := List.getElem?_eq_some_iff.1 hx
  have hle := h.le
  have hsplit : l.drop fr = (l.drop fr).take (i - fr) ++ c :: l.drop (i + 1) := by
    have h1 : (l.drop fr).drop (i - fr) = c :: l.drop (i + 1) := by
      rw [List.drop_drop, show fr + (i - fr) = i by omega, List.drop_eq_getElem_cons hi, he]
    rw [← h1, List.take_append_drop]
  rw [h.all, List.append_assoc]
  congr 1
  rw [hsplit, spl_app (by have := h.free; exact this), ← hsplit]
  rfl
theorem SplAt.end_ {c : UInt8} {l : List UInt8} {out : List (List UInt8)} {fr : Nat} (h : SplAt c l out fr l.length) : spl c l = out ++ [l.drop fr] := by
  rw [h.all]
  congr 1
  refine spl_none ?_
  have := h.free
  rwa [List.take_of_length_le (by rw [List.length_drop]; exact Nat.le_refl _)] at this
def bs (l : List UInt8) : ByteArray := ⟨l.toArray⟩
theorem bs_list (l : List UInt8) : (bs l).data.toList = l := rfl
theorem bs_size (l : List UInt8) : (bs l).size = l.length := by simp [bs, ByteArray.size]
theorem bs_of (s : ByteArray) : bs s.data.toList = s := by cases s; simp [bs]
theorem bs_inj {a b : List UInt8} (h : bs a = bs b) : a = b := by have := congrArg (fun s => s.data.toList) h; simpa [bs] using this
def spS (c : UInt8) (s : ByteArray) : List ByteArray := (spl c s.data.toList).map bs
/-- the digits of a number; none for 0 -/
def dz (u : Nat) : List UInt8 := if u = 0 then [] else Lib.decDigits u
theorem dz_zero : dz 0 = [] := rfl
theorem dz_step {u : Nat} (h : 0 < u) : dz u = dz (u / 10) ++ [UInt8.ofNat (48 + u % 10)] := by
  unfold dz
  rw [if_neg (by omega), Lib.decDigits]
  by_cases h10 : u < 10
  · rw [dif_pos h10, if_pos (by omega)]; simp [Nat.mod_eq_of_lt h10]
  · rw [dif_neg h10, if_neg (by omega)]
theorem dz_pos {u : Nat} (h : 0 < u) : dz u = Lib.decDigits u := if_neg (by omega)
theorem decDigits_zero : Lib.decDigits 0 = [48] := by rw [Lib.decDigits]; rfl
theorem decDigits_ne (u : Nat) : Lib.decDigits u ≠ [] := by
  rw [Lib.decDigits]; split <;> simp
def bcell (x : UInt8) : List Value := [.int .u8 (x.toNat : Int)]
theorem bcell_len (x : UInt8) : (bcell x).length = 1 := rfl
theorem bcell_one (x : UInt8) (u : Value) (hu : u ∈ bcell x) : u.oneCell' = true := by
  simp [bcell] at hu; subst hu; rfl
theorem own_lit1 {w : World} {base E : Nat} {α : Type} {f : α → List Value} {e : α} {x : Value} (hb : base ≤ w.heap.size) (hf : f e = [x]) : Own (w.alloc (.cells #[x] E)) base E 1 f (.slice (some ⟨w.heap.size, 0, none⟩) 1 1) [e] :=
  ⟨by simp [hf], .inr ⟨w.heap.size, 1, #[x], rfl, hb, heap_alloc_new w _, Nat.le_refl _, by unfold maxLen; omega, by simp, by simp [hf]⟩⟩
theorem own_byte {w : World} {base E g n c : Nat} {b : List UInt8} (h : Own w base E 1 bcell (.slice (some ⟨g, 0, none⟩) n c) b) (j : Nat) (hj : j < b.length) : w.cell? ((⟨g, 0, none⟩ : Addr).add j) = some (.int .u8 (b[j].toNat : Int)) := by
  have := own_has h bcell_len j b[j] (List.getElem?_eq_getElem hj) 0 _ rfl
  have hadd : (⟨g, 0, none⟩ : Addr).add j = ⟨g, 0 + j * 1 + 0, none⟩ := by unfold Addr.add; split <;> simp_all
  rw [hadd]; exact this
theorem u8_digit (t : Nat) : ((UInt8.ofNat (48 + t % 10)).toNat : Int) = 48 + ((t % 10 : Nat) : Int) := by
  have : t % 10 < 10 := Nat.mod_lt _ (by omega)
  rw [UInt8.toNat_ofNat']; omega
theorem dz_len {u t : Nat} {b : List UInt8} (hu : u ≤ 9223372036854775808) (h : dz u = dz t ++ b) : b.length ≤ 20 := by
  have h1 : (dz u).length ≤ 20 := by
    unfold dz
    split
    · simp
    · rw [Lib.decDigits_length]; exact Lib.nDigits_le20 u (by omega)
  rw [h, List.length_append] at h1; omega
theorem info_u8 : (Tryz.prog.info? 5).map (fun i => (i.zero, i.size, i.bytes)) = some (some (.int .u8 0), 1, 1) := by kernel_rfl
set_option maxHeartbeats 1000000 in
set_option maxRecDepth 100000 in
theorem spec_l01Dec_pos (u : Nat) (hu : u ≤ 9223372036854775807) (w : World) : Calls Tryz.prog 32 #[.int .i64 (u : Int)] w fun e w' => e = .returned (.string (bs (Lib.decDigits u))) ∧ Below w.heap.size w w' := by
  obtain ⟨i0, hi, hz0, hz1, hz2⟩ := info_parts info_u8
  go_enter Tryz.func32, Tryz.ntmps32
  go_wp2
  go_loopw [3, 4] (fun v k wr => ∃ (t : Nat) (b : List UInt8), k = .int .i64 (t : Int) ∧ t ≤ 9223372036854775807 ∧ b.length ≤ 20 ∧ Hid (dz u = dz t ++ b) ∧ Hid (Own wr w.heap.size 5 1 bcell v b) ∧ Below w.heap.size w wr) (fun _ k _ => (intOf k).toNat)
  case atStart => exact ⟨u, [], rfl, hu, by simp, Lib.hid (by simp), Lib.hid (own_new_empty _ _ _ _ _ (Nat.le_refl _)), below_al (Below.refl _ _) _⟩
  case round =>
    obtain ⟨t, b, rfl, ht, hbl, Hd, HO, hbel⟩ := hrel
    rcases Nat.eq_zero_or_pos t with h0 | h0
    · subst h0
      have Hb : Hid (b = dz u) := Lib.hid (by have := Hd.out; rw [dz_zero, List.nil_append] at this; exact this.symm)
      obtain ⟨A2, n2, c2, rfl, hl2, _⟩ := own_shape HO.out
      rcases Nat.eq_zero_or_pos u with hu0 | hu0
      · subst hu0
        have hn2 : n2 = 0 := by rw [← hl2, Hb.out]; rfl
        subst hn2
        go_wp2
        go_ret
        exact ⟨by rw [decDigits_zero]; rfl, hbel⟩
      · have hb2 : b = Lib.decDigits u := by rw [Hb.out, dz_pos hu0]
        have hpos : 0 < b.length := by rw [hb2]; exact List.length_pos_iff.2 (decDigits_ne u)
        obtain ⟨g, c3, e3, _⟩ := own_block_of HO.out hl2 (by omega)
        injection e3 with e3 _ e5
        subst e3; subst e5
        subst hl2
        have hcv := run_convert_bytes_back (P := Tryz.prog) wr 77 9 5 ⟨g, 0, none⟩ c2 b Tryz.underlying77 Tryz.underlying5 Tryz.underlying9 (own_byte HO.out)
        have hne : ((b.length : Int) == 0) = false := by simp; intro h; rw [h] at hpos; simp at hpos
        have Hb2 := Lib.hid hb2
        clear hb2
        go_wp2
        go_ret
        exact ⟨by rw [← Hb2.out]; rfl, hbel⟩
    · have e1 : ((t : Int).tmod 10) = ((t % 10 : Nat) : Int) := by rw [Int.tmod_eq_emod_of_nonneg (by omega)]; omega
      have e2 : ((t : Int).tdiv 10) = ((t / 10 : Nat) : Int) := by rw [Int.tdiv_eq_ediv_of_nonneg (by omega)]; omega
      have hm : t % 10 < 10 := Nat.mod_lt _ (by omega)
      have hq : t / 10 < t := Nat.div_lt_self h0 (by omega)
      have hne : ((t : Int) != 0) = true := by simp; omega
      obtain ⟨A2, n2, c2, rfl, hl2, _⟩ := own_shape HO.out
      have Hs : Hid (dz u = dz (t / 10) ++ (UInt8.ofNat (48 + t % 10) :: b)) := Lib.hid (by rw [Hd.out, dz_step h0, List.append_assoc]; rfl)
      have Hlen := Lib.hid (dz_len (by omega) Hs.out)
      have hlit := fun (E : Nat) => own_lit1 (w := wr) (base := w.heap.size) (E := E) (f := bcell) (e := UInt8.ofNat (48 + t % 10)) (x := .int .u8 (48 + ((t % 10 : Nat) : Int))) hbel.size (by rw [bcell, u8_digit])
      go_wp2_with (at_builtin; refine wpList_app rfl _ _ 77 rfl w.heap.size 5 i0 (.int .u8 0) 1 1 Tryz.underlying77 hi hz0 hz1 hz2 rfl (by omega) bcell_len bcell_one _ [UInt8.ofNat (48 + t % 10)] b rfl (hlit _) _ _ _ _ rfl (own_sl (own_alloc HO.out _) bcell_len) (by simp) (by omega) (by omega) (below_al hbel _).size ?_; intro v4 w4 ho4 hg4; have hbel4 := own_grown (below_al hbel _) (hlit _) (Nat.le_refl _) (below_al hbel _).size hg4; have HO4 := Lib.hid ho4; clear ho4 hg4)
      go_roundw
      case rel => exact ⟨t / 10, UInt8.ofNat (48 + t % 10) :: b, by go_num, by omega, Hlen.out, Hs, HO4, hbel4⟩
      case measure => simp [intOf]; omega
set_option maxHeartbeats 1000000 in
set_option maxRecDepth 100000 in
theorem spec_l01Dec_neg (u : Nat) (hu0 : 0 < u) (hu : u ≤ 9223372036854775808) (w : World) : Calls Tryz.prog 32 #[.int .i64 (-(u : Int))] w fun e w' => e = .returned (.string (bs (45 :: Lib.decDigits u))) ∧ Below w.heap.size w w' := by
  obtain ⟨i0, hi, hz0, hz1, hz2⟩ := info_parts info_u8
  go_enter Tryz.func32, Tryz.ntmps32
  go_wp2
  go_loopw [3, 4] (fun v k wr => ∃ (t : Nat) (b : List UInt8), k = .int .i64 (-(t : Int)) ∧ t ≤ 9223372036854775808 ∧ b.length ≤ 20 ∧ Hid (dz u = dz t ++ b) ∧ Hid (Own wr w.heap.size 5 1 bcell v b) ∧ Below w.heap.size w wr) (fun _ k _ => (-(intOf k)).toNat)
  case atStart => exact ⟨u, [], rfl, hu, by simp, Lib.hid (by simp), Lib.hid (own_new_empty _ _ _ _ _ (Nat.le_refl _)), below_al (Below.refl _ _) _⟩
  case round =>
    obtain ⟨t, b, rfl, ht, hbl, Hd, HO, hbel⟩ := hrel
    rcases Nat.eq_zero_or_pos t with h0 | h0
    · subst h0
      have Hb : Hid (b = dz u) := Lib.hid (by have := Hd.out; rw [dz_zero, List.nil_append] at this; exact this.symm)
      obtain ⟨A2, n2, c2, rfl, hl2, _⟩ := own_shape HO.out
      have hb2 : b = Lib.decDigits u := by rw [Hb.out, dz_pos hu0]
      have hpos : 0 < b.length := by rw [hb2]; exact List.length_pos_iff.2 (decDigits_ne u)
      obtain ⟨g, c3, e3, _⟩ := own_block_of HO.out hl2 (by omega)
      injection e3 with e3 _ e5
      subst e3; subst e5
      subst hl2
      have hcv := run_convert_bytes_back (P := Tryz.prog) wr 77 9 5 ⟨g, 0, none⟩ c2 b Tryz.underlying77 Tryz.underlying5 Tryz.underlying9 (own_byte HO.out)
      have hne : ((b.length : Int) == 0) = false := by simp; intro h; rw [h] at hpos; simp at hpos
      have hn0 : -(u : Int) < 0 := by omega
      have Hb2 := Lib.hid hb2
      clear hb2
      go_wp2
      go_ret
      exact ⟨by rw [← Hb2.out]; first | rfl | (congr 2; apply ByteArray.ext; simp [bs]), hbel⟩
    · have e1 : ((-(t : Int)).tmod 10) = -((t % 10 : Nat) : Int) := by rw [Int.neg_tmod, Int.tmod_eq_emod_of_nonneg (by omega)]; omega
      have e2 : ((-(t : Int)).tdiv 10) = -((t / 10 : Nat) : Int) := by rw [Int.neg_tdiv, Int.tdiv_eq_ediv_of_nonneg (by omega)]; omega
      have hm : t % 10 < 10 := Nat.mod_lt _ (by omega)
      have hq : t / 10 < t := Nat.div_lt_self h0 (by omega)
      have hne : ((-(t : Int)) != 0) = true := by simp; omega
      obtain ⟨A2, n2, c2, rfl, hl2, _⟩ := own_shape HO.out
      have Hs : Hid (dz u = dz (t / 10) ++ (UInt8.ofNat (48 + t % 10) :: b)) := Lib.hid (by rw [Hd.out, dz_step h0, List.append_assoc]; rfl)
      have Hlen := Lib.hid (dz_len (by omega) Hs.out)
      have hlit := fun (E : Nat) => own_lit1 (w := wr) (base := w.heap.size) (E := E) (f := bcell) (e := UInt8.ofNat (48 + t % 10)) (x := .int .u8 (48 + ((t % 10 : Nat) : Int))) hbel.size (by rw [bcell, u8_digit])
      rcases Nat.eq_zero_or_pos (t % 10) with hz | hz
      · rw [hz] at hlit e1
        go_wp2_with (at_builtin; refine wpList_app rfl _ _ 77 rfl w.heap.size 5 i0 (.int .u8 0) 1 1 Tryz.underlying77 hi hz0 hz1 hz2 rfl (by omega) bcell_len bcell_one _ [UInt8.ofNat (48 + 0)] b rfl (hlit _) _ _ _ _ rfl (own_sl (own_alloc HO.out _) bcell_len) (by simp) (by omega) (by omega) (below_al hbel _).size ?_; intro v4 w4 ho4 hg4; have hbel4 := own_grown (below_al hbel _) (hlit _) (Nat.le_refl _) (below_al hbel _).size hg4; have HO4 := Lib.hid ho4; clear ho4 hg4)
        go_roundw
        case rel => exact ⟨t / 10, UInt8.ofNat (48 + 0) :: b, by go_num, by omega, by have := Hlen.out; rw [hz] at this; exact this, Lib.hid (by have := Hs.out; rw [hz] at this; exact this), HO4, hbel4⟩
        case measure => simp [intOf]; omega
      · have hdn : -((t % 10 : Nat) : Int) < 0 := by omega
        go_wp2_with (at_builtin; refine wpList_app rfl _ _ 77 rfl w.heap.size 5 i0 (.int .u8 0) 1 1 Tryz.underlying77 hi hz0 hz1 hz2 rfl (by omega) bcell_len bcell_one _ [UInt8.ofNat (48 + t % 10)] b rfl (hlit _) _ _ _ _ rfl (own_sl (own_alloc HO.out _) bcell_len) (by simp) (by omega) (by omega) (below_al hbel _).size ?_; intro v4 w4 ho4 hg4; have hbel4 := own_grown (below_al hbel _) (hlit _) (Nat.le_refl _) (below_al hbel _).size hg4; have HO4 := Lib.hid ho4; clear ho4 hg4)
        go_roundw
        case rel => exact ⟨t / 10, UInt8.ofNat (48 + t % 10) :: b, by go_num, by omega, Hlen.out, Hs, HO4, hbel4⟩
        case measure => simp [intOf]; omega

end Go.Proofs.YtgbblcbpmpokdaaGreatDoor

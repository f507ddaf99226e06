/- Walks over functions of this seat, by contract. Conditions: those that each theorem states. -/
import Derived.Test.YtogjkcakoahpiaaN11
namespace Go.Proofs.Ytogjkcakoahpiaa
open Go.RowKit Go.Sort

theorem box2s {w w1 : World} {v0 v1 : Value} {E : Nat} (hb : Below (w.alloc (.cells #[v0, v1] E)).heap.size (w.alloc (.cells #[v0, v1] E)) w1) :
    w1.cell? ⟨w.heap.size, 0, none⟩ = some v0 ∧ w1.cell? ⟨w.heap.size, 1, none⟩ = some v1 ∧ (∀ i, w1.frozen? ⟨w.heap.size, i, none⟩ = false) ∧ w.heap.size < w1.heap.size := by
  obtain ⟨k0, k1⟩ := box2k hb
  refine ⟨k0, k1, fun i => ?_, ?_⟩
  · rw [(below_reads hb).2 w.heap.size i (by simp)]; have he := heap_alloc_new w (.cells #[v0, v1] E); simp only [World.frozen?, he]; simp
  · have := hb.size; simp at this; omega
theorem laws_szNet (J : Int) (A : Option Addr) (n c : Nat) (left : Int) (h0 : 0 ≤ left) (h1 : left ≤ 1048576) (hn : n ≤ 9223372036854775807) (w : World) : Calls Try.prog 9 #[.agg #[.int .i64 J, .slice A n c], .int .i64 left] w fun e w' => e = .returned (.int .i64 (if left < n then -1 else left - n)) ∧ Below w.heap.size w w' := by
  by_cases h : left < n
  · rw [if_pos h]
    go_enter Try.func9, Try.ntmps9
    go_wp2_with (go_at_call 44; refine (laws_szDitchS A n c left h0 h1 hn _).mono ?_; rintro e w1 ⟨rfl, rfl⟩; rw [if_pos h])
    go_ret
    exact ⟨rfl, below_al (Below.refl _ _) _⟩
  · rw [if_neg h]
    obtain ⟨r, hr⟩ : ∃ r, left - (n : Int) = r := ⟨_, rfl⟩
    rw [hr]
    have hr0 : ¬ r < 0 := by omega
    go_enter Try.func9, Try.ntmps9
    go_wp2_with (go_at_call 44; refine (laws_szDitchS A n c left h0 h1 hn _).mono ?_; rintro e w1 ⟨rfl, rfl⟩; rw [if_neg h, hr])
    go_ret
    exact ⟨rfl, below_al (Below.refl _ _) _⟩
theorem own_st_o {W : World} {b E s g : Nat} {α : Type} {f : α → List Value} {v : Value} {l : List α} (h : Own W b E s f v l) (hne : v.ownBlock = none ∨ v.ownBlock ≠ some g) (o : Nat) (u : Value) : Own (W.setCell ⟨g, o, none⟩ u) b E s f v l :=
  own_other h hne (only_st (World.grownBy.refl W _) _ _)
theorem size_alloc' (w : World) (o : Obj) : (w.alloc o).heap.size = w.heap.size + 1 := by simp
set_option maxHeartbeats 1000000 in
theorem laws_toNet (J : Int) (A : Option Addr) (n c : Nat) (es : List Q3) (w : World) (hmax : n ≤ 1048576) (h : Sl w w.heap.size 3 Q3.cells A n es) :
    Calls Try.prog 11 #[.agg #[.int .i64 J, .slice A n c]] w fun e w' => ∃ v, e = .returned (.agg #[.int .i64 J, v]) ∧ Own w' w.heap.size 118 3 Q3.cells v es ∧ Below w.heap.size w w' := by
  go_enter Try.func11, Try.ntmps11
  go_wp2_with fail
  have hbA := below_al (below_al (below_al (Below.refl _ w) (.cells #[.int .i64 J, .slice A n c] 24)) (.cells #[.int .i64 0, .slice none 0 0] 30)) (.cells #[.int .i64 J, .slice none 0 0] 30)
  refine (laws_toDitchS A n c es _ hmax (h.on hbA)).mono ?_
  rintro e w1 ⟨v, rfl, ho, hb⟩
  obtain ⟨A1, n1, c1, rfl, hl1, _⟩ := own_shape ho
  have HO := Lib.hid ho
  have Hl1 := Lib.hid hl1
  clear ho hl1
  obtain ⟨b0, b1, bf, bl⟩ := box2s hb
  obtain ⟨a0, a1, af, al⟩ := box2s (w := w.alloc (.cells #[.int .i64 J, .slice A n c] 24)) (below_one hb)
  simp only [size_alloc'] at b0 b1 bf bl a0 a1 af al
  have hne : ¬ w.heap.size + 1 + 1 = w.heap.size + 1 := by omega
  have hne' : ¬ w.heap.size + 1 = w.heap.size + 1 + 1 := by omega
  go_wp2_with fail
  have ne1 : ∀ g, g < w.heap.size + 1 + 1 + 1 → (Value.slice A1 n1 c1).ownBlock = none ∨ (Value.slice A1 n1 c1).ownBlock ≠ some g := fun g hg => by
    cases hx : (Value.slice A1 n1 c1).ownBlock with
    | none => exact .inl rfl
    | some k =>
      have := (World.ownsRow.lt HO.out k hx).1
      simp at this
      exact .inr (fun e => by injection e with e; omega)
  have hB := below_then hbA hb
  exact bodyPost_ret (v := .agg #[.int .i64 J, .slice A1 n1 c1]) (by simp [results, Try.results11, go_sem, a0, a1]) rfl
    ⟨_, rfl, (own_st_o (own_st_o (own_st_o HO.out (ne1 _ (by omega)) _ _) (ne1 _ (by omega)) _ _) (ne1 _ (by omega)) _ _).base_le (by simp; omega), below_st (below_st (below_st hB ⟨w.heap.size + 1 + 1, 1, none⟩ (by show w.heap.size ≤ w.heap.size + 1 + 1; omega) _) ⟨w.heap.size + 1, 0, none⟩ (by show w.heap.size ≤ w.heap.size + 1; omega) _) ⟨w.heap.size + 1, 1, none⟩ (by show w.heap.size ≤ w.heap.size + 1; omega) _⟩
theorem laws_eqNet (J : Int) (A A' : Option Addr) (n n' c c' : Nat) (es : List Q3) (w : World) (hm : n ≤ 1048576) (hm' : n' ≤ 1048576) (h : Sl w w.heap.size 3 Q3.cells A n es) (h' : Sl w w.heap.size 3 Q3.cells A' n' es) :
    Calls Try.prog 13 #[.agg #[.int .i64 J, .slice A n c], .agg #[.int .i64 J, .slice A' n' c']] w fun e w' => e = .returned (.bool true) ∧ Below w.heap.size w w' := by
  have hb0 := below_al (below_al (Below.refl _ w) (.cells #[.int .i64 J, .slice A n c] 30)) (.cells #[.int .i64 J, .slice A' n' c'] 30)
  go_enter Try.func13, Try.ntmps13
  go_wp2_with (go_at_call 51; refine (laws_eqDitchS_self A A' n n' c c' es _ hm hm' (h.on hb0) (h'.on hb0)).mono ?_; rintro e w1 ⟨rfl, hb1⟩)
  go_ret
  exact ⟨rfl, below_then hb0 hb1⟩
theorem laws_markNet (J : Int) (base n : Nat) (v : Value) (xs : List Value) (k0 : Int) (w : World) (hmax : n ≤ 1048576) (h0 : 0 ≤ k0) (h1 : k0 ≤ 1099511627776) (h : w.ownsRow base 118 3 v n xs) :
    Calls Try.prog 19 #[.agg #[.int .i64 J, v], .int .i64 k0] w fun e w' => e = .returned (.int .i64 (k0 + (n * 3 : Nat))) ∧ (w.alloc (.cells #[.int .i64 J, v] 30)).grownBy w' v.ownBlock := by
  go_enter Try.func19, Try.ntmps19
  go_wp2_with (go_at_call 56; refine (laws_markDitchS base n v xs k0 _ hmax h0 h1 (h.alloc _)).mono ?_; rintro e w1 ⟨rfl, _, hg⟩)
  go_ret
  exact ⟨rfl, hg⟩
theorem nsL_len (J : Int) (es : List Q3) (src : Int) : (nsL J es src).length ≤ 1048576 := by
  unfold nsL
  split
  · rename_i hk
    obtain ⟨_, _, Jn, _, hJ, _, _, _, h10⟩ := netCode_zero hk
    have := idxs_len (fun i => mside es src (i : Int)) J.toNat
    omega
  · simp

end Go.Proofs.Ytogjkcakoahpiaa

/- Walks over functions of this seat, by contract. Conditions: those that each theorem states. -/
import Derived.Test.YthjdodamfinhaaaGp
import Derived.Test.YthjdodamfinhaaaTi
namespace Go.Proofs.Ythjdodamfinhaaa
open Go.RowKit Go.Sort

/-- the next place from which somebody knows on, among the first guards -/
def nxN (es : List G3) (m len : Int) : Nat → Int
  | 0 => len
  | k + 1 => match es[k]? with | some e => if m < e.a then min (nxN es m len k) e.a else nxN es m len k | none => nxN es m len k
theorem nxN_succ {es : List G3} {m len : Int} {k : Nat} {e : G3} (h : es[k]? = some e) : nxN es m len (k + 1) = if m < e.a then min (nxN es m len k) e.a else nxN es m len k := by rw [nxN, h]
theorem nxN_bd (es : List G3) (m len : Int) (hm : m < len) (k : Nat) : m < nxN es m len k ∧ nxN es m len k ≤ len := by
  induction k with
  | zero => exact ⟨hm, Int.le_refl _⟩
  | succ k ih =>
    cases h : es[k]? with
    | none => rw [nxN, h]; exact ih
    | some e => rw [nxN_succ h]; split <;> omega
def covB (es : List G3) (m : Int) : Bool := es.any (fun e => knowsB e m)
/-- covered places are skipped one by one -/
def ugo (es : List G3) (len : Int) : Nat → Int → List (Int × Int) → List (Int × Int)
  | 0, _, out => out
  | f + 1, m, out => if m < len then (if covB es m = true then ugo es len f (m + 1) out else ugo es len (f - (nxN es m len es.length - m - 1).toNat) (nxN es m len es.length) (out ++ [(m, nxN es m len es.length)])) else out
termination_by f => f
theorem ugo_end {es : List G3} {len m : Int} {f : Nat} {out : List (Int × Int)} (h : len ≤ m) : ugo es len f m out = out := by
  cases f with
  | zero => unfold ugo; rfl
  | succ f => unfold ugo; rw [if_neg (by omega)]
/-- where the fuel is just enough, it is what is left -/
theorem ugo_skip {es : List G3} {len : Int} : ∀ (d : Nat) {f : Nat} {m : Int} {out : List (Int × Int)}, (∀ x, m ≤ x → x < m + d → covB es x = true) → len ≤ m + f → ugo es len f m out = ugo es len (f - d) (m + d) out := by
  intro d
  induction d with
  | zero => intro f m out _ _; simp
  | succ d ih =>
    intro f m out hc hf
    by_cases hm : m < len
    · cases f with
      | zero => omega
      | succ f =>
        have h1 : ugo es len (f + 1) m out = ugo es len f (m + 1) out := by
          rw [ugo, if_pos hm, if_pos (hc m (by omega) (by omega))]
        rw [h1, ih (fun x h2 h3 => hc x (by omega) (by omega)) (by omega)]
        congr 1 <;> omega
    · rw [ugo_end (by omega), ugo_end (by omega)]
theorem ugo_part {es : List G3} {len m : Int} {f : Nat} {out : List (Int × Int)} {e : Int} (hm : m < len) (hf : len ≤ m + f) (hc : covB es m = false) (he : nxN es m len es.length = e) :
    ugo es len f m out = ugo es len (f - (e - m).toNat) e (out ++ [(m, e)]) ∧ len ≤ e + ((f - (e - m).toNat : Nat) : Int) := by
  have hb := nxN_bd es m len hm es.length
  rw [he] at hb
  cases f with
  | zero => omega
  | succ f =>
    refine ⟨?_, by omega⟩
    rw [ugo, if_pos hm, if_neg (by simp [hc]), he]
    congr 1; omega
theorem cov_of {es : List G3} {k : Nat} {e : G3} {x : Int} (h : es[k]? = some e) (h1 : e.a ≤ x) (h2 : x < e.b) : covB es x = true := by
  rw [covB, List.any_eq_true]
  exact ⟨e, List.mem_of_getElem? h, by rw [knowsB, inR_iff]; omega⟩
theorem cov_none {es : List G3} {m : Int} (h : ∀ k, k < es.length → knowP es m k = false) : covB es m = false := by
  rw [covB, List.any_eq_false]
  intro e he
  obtain ⟨k, hk, rfl⟩ := List.mem_iff_getElem.1 he
  have := h k hk
  rw [knowP_at (List.getElem?_eq_getElem hk)] at this
  simp [this]
/-- a place in the outer slice: the block of the inner one, and its two numbers -/
def pcell (t : Nat × Int × Int) : List Value := [.slice (some ⟨t.1, 0, none⟩) 2 2]
theorem pcell_len (t : Nat × Int × Int) : (pcell t).length = 1 := rfl
theorem pcell_one (t : Nat × Int × Int) (u : Value) (hu : u ∈ pcell t) : u.oneCell' = true := by
  simp [pcell] at hu; subst hu; rfl
theorem Has.p1 {w : World} {b off k : Nat} {ts : List (Nat × Int × Int)} {t : Nat × Int × Int} (h : Has w b off 1 pcell ts) (ht : ts[k]? = some t) : w.cell? ⟨b, off + k, none⟩ = some (.slice (some ⟨t.1, 0, none⟩) 2 2) := by
  have := h k t ht 0 _ rfl
  simpa using this
/-- the blocks of the inner slices, apart from each other and from the outer one -/
structure Apt (base : Nat) (v : Value) (ts : List (Nat × Int × Int)) : Prop where
  lo : ∀ t ∈ ts, base ≤ t.1
  nd : (ts.map (·.1)).Nodup
  out : ∀ t ∈ ts, v.ownBlock ≠ some t.1
structure OSS (w : World) (base : Nat) (v : Value) (ts : List (Nat × Int × Int)) : Prop where
  own : Own w base 39 1 pcell v ts
  apt : Apt base v ts
  row : ∀ t ∈ ts, Row w t.1 2 2 [.int .i64 t.2.1, .int .i64 t.2.2]
theorem OSS.below {w w' : World} {base B : Nat} {v : Value} {ts : List (Nat × Int × Int)} (h : OSS w base v ts) (hb : Below B w w') (hB : w.heap.size ≤ B) : OSS w' base v ts :=
  ⟨h.own.below hb hB, h.apt, fun t ht => (h.row t ht).below hb (Nat.lt_of_lt_of_le (h.row t ht).lt hB)⟩
theorem OSS.on {w w' : World} {base : Nat} {v : Value} {ts : List (Nat × Int × Int)} (h : OSS w base v ts) (hb : Below w.heap.size w w') : OSS w' base v ts := h.below hb (Nat.le_refl _)
theorem OSS.base_le {w : World} {base b : Nat} {v : Value} {ts : List (Nat × Int × Int)} (h : OSS w base v ts) (hb : b ≤ base) : OSS w b v ts :=
  ⟨h.own.base_le hb, ⟨fun t ht => Nat.le_trans hb (h.apt.lo t ht), h.apt.nd, h.apt.out⟩, h.row⟩
theorem oss_nil (w : World) (base : Nat) : OSS w base (.slice none 0 0) [] := ⟨own_nil _ _ _ _ _, ⟨by simp, by simp, by simp⟩, by simp⟩
theorem oss_empty (w : World) (base : Nat) (hb : base ≤ w.heap.size) : OSS (w.alloc (.cells #[] 39)) base (.slice (some ⟨w.heap.size, 0, none⟩) 0 0) [] :=
  ⟨own_new_empty _ _ _ _ _ hb, ⟨by simp, by simp, by simp⟩, by simp⟩
theorem oss_push {w w' : World} {base : Nat} {v v' : Value} {ts : List (Nat × Int × Int)} {a b : Int} (h : OSS w base v ts) (hb : base ≤ w.heap.size)
    (ho : Own w' base 39 1 pcell v' (ts ++ [(w.heap.size, a, b)])) (hg : (w.alloc (.cells #[.int .i64 a, .int .i64 b] 2)).grownBy w' v.ownBlock)
    (hat : v'.ownBlock = v.ownBlock ∨ v'.ownBlock = some ((w.alloc (.cells #[.int .i64 a, .int .i64 b] 2)).heap.size + 1)) : OSS w' base v' (ts ++ [(w.heap.size, a, b)]) := by
  have hsz : (w.alloc (.cells #[.int .i64 a, .int .i64 b] 2)).heap.size = w.heap.size + 1 := by simp
  have hlt : ∀ t ∈ ts, t.1 < w.heap.size := fun t ht => (h.row t ht).lt
  have hvl : ∀ k, v.ownBlock = some k → k < w.heap.size := fun k hk => (World.ownsRow.lt h.own k hk).2
  refine ⟨ho, ⟨?_, ?_, ?_⟩, ?_⟩
  · intro t ht
    rcases List.mem_append.1 ht with ht | ht
    · exact h.apt.lo t ht
    · simp at ht; subst ht; exact hb
  · rw [List.map_append, List.nodup_append]
    refine ⟨h.apt.nd, by simp, ?_⟩
    intro x hx y hy
    obtain ⟨t, ht, rfl⟩ := List.mem_map.1 hx
    simp at hy; subst hy
    have := hlt t ht; omega
  · intro t ht e
    rcases List.mem_append.1 ht with ht | ht
    · have h1 := hlt t ht
      rcases hat with h2 | h2
      · exact h.apt.out t ht (h2 ▸ e)
      · rw [h2, hsz] at e; injection e with e; omega
    · simp at ht; subst ht
      rcases hat with h2 | h2
      · have := hvl _ (h2 ▸ e); omega
      · rw [h2, hsz] at e; injection e with e; omega
  · intro t ht
    rcases List.mem_append.1 ht with ht | ht
    · have h1 := hlt t ht
      refine ((h.row t ht).on (below_al (Below.refl _ _) (.cells #[.int .i64 a, .int .i64 b] 2))).keep ?_
      exact hg.block t.1 (by omega) (by intro e; exact h.apt.out t ht e.symm)
    · simp at ht; subst ht
      have hr : Row (w.alloc (.cells #[.int .i64 a, .int .i64 b] 2)) w.heap.size 2 2 [.int .i64 a, .int .i64 b] := ⟨_, heap_alloc_new w _, rfl, rfl⟩
      refine hr.keep ?_
      exact hg.block w.heap.size (by omega) (by intro e; have := hvl _ e.symm; omega)
theorem row_own {w : World} {base g : Nat} {a b : Int} (h : Row w g 2 2 [.int .i64 a, .int .i64 b]) (hb : base ≤ g) : Own w base 2 1 icell (.slice (some ⟨g, 0, none⟩) 2 2) [a, b] :=
  owns_of_row (n := 2) h hb (Nat.le_refl _) (by unfold maxLen; omega) rfl
theorem nodup_ne {ts : List (Nat × Int × Int)} (h : (ts.map (·.1)).Nodup) {i j : Nat} {t u : Nat × Int × Int} (hi : ts[i]? = some t) (hj : ts[j]? = some u) (hne : i ≠ j) : t.1 ≠ u.1 := by
  intro e
  obtain ⟨h1, e1⟩ := List.getElem?_eq_some_iff.1 hi
  obtain ⟨h2, e2⟩ := List.getElem?_eq_some_iff.1 hj
  have hp := List.pairwise_iff_getElem.1 h
  rcases Nat.lt_or_ge i j with hlt | hge
  · have := hp i j (by simpa using h1) (by simpa using h2) hlt
    simp [e1, e2, e] at this
  · have := hp j i (by simpa using h2) (by simpa using h1) (by omega)
    simp [e1, e2, e] at this
/-- .. and marked: the first k from k0 on -/
structure OSM (w : World) (base : Nat) (v : Value) (ts : List (Nat × Int × Int)) (k0 : Int) (k : Nat) : Prop where
  own : Own w base 39 1 pcell v ts
  apt : Apt base v ts
  row : ∀ i t, ts[i]? = some t → i < k → Row w t.1 2 2 (marks (k0 + 2 * (i : Int)) 2)
  rest : ∀ t ∈ ts, ∃ xs, xs.length = 2 ∧ Row w t.1 2 2 xs
theorem OSM.below {w w' : World} {base B : Nat} {v : Value} {ts : List (Nat × Int × Int)} {k0 : Int} {k : Nat} (h : OSM w base v ts k0 k) (hb : Below B w w') (hB : w.heap.size ≤ B) : OSM w' base v ts k0 k :=
  ⟨h.own.below hb hB, h.apt, fun i t ht hk => (h.row i t ht hk).below hb (Nat.lt_of_lt_of_le (h.row i t ht hk).lt hB), fun t ht => by
    obtain ⟨xs, h1, h2⟩ := h.rest t ht
    exact ⟨xs, h1, h2.below hb (Nat.lt_of_lt_of_le h2.lt hB)⟩⟩
set_option maxHeartbeats 1000000 in
theorem laws_eqInt64SS_self (v v' : Value) (base base' : Nat) (ts us : List (Nat × Int × Int)) (w : World) (hmax : ts.length ≤ 1048576) (h : OSS w base v ts) (h' : OSS w base' v' us) (he : ts.map (·.2) = us.map (·.2)) :
    Calls Try.prog 45 #[v, v'] w fun e w' => e = .returned (.bool true) ∧ Below w.heap.size w w' := by
  have hl2 : us.length = ts.length := by have := congrArg List.length he; simpa using this.symm
  obtain ⟨A, n, c, rfl, hl, _⟩ := own_shape h.own
  obtain ⟨A', n', c', rfl, hl', _⟩ := own_shape h'.own
  have hnn : n' = n := by omega
  subst hnn
  have HS := Lib.hid (own_sl h.own pcell_len)
  have HS' := Lib.hid (own_sl h'.own pcell_len)
  have hn : n' ≤ 1048576 := by omega
  have HO := Lib.hid h
  have HO' := Lib.hid h'
  have HE := Lib.hid he
  have HL := Lib.hid hl
  clear h h' he hl hl' hl2 hmax
  go_enter Try.func45, Try.ntmps45
  go_wp2
  go_loopw [5] (fun i wr => ∃ k : Nat, k ≤ n' ∧ i = .int .i64 k ∧ Below w.heap.size w wr) (fun i _ => n' - (intOf i).toNat)
  case atStart => exact ⟨0, by omega, rfl, Below.refl _ _⟩
  case round =>
    obtain ⟨k, hk, rfl, hbel⟩ := hrel
    by_cases hlt : k < n'
    · obtain ⟨b, off, rfl, hb, H⟩ := HS.out.at_ (by omega)
      obtain ⟨b', off', rfl, hb', H'⟩ := HS'.out.at_ (by omega)
      obtain ⟨t, ht⟩ := HS.out.get hlt
      obtain ⟨u, hu⟩ := HS'.out.get hlt
      have c0 := (H.below hbel hb).p1 ht
      have c1 := (H'.below hbel hb').p1 hu
      have d0 := fun d os => cell_regrown c0 d os
      have d1 := fun d os => cell_regrown c1 d os
      have htu : t.2 = u.2 := by
        have h1 : (ts.map (·.2))[k]? = some t.2 := by simp [ht]
        have h2 : (us.map (·.2))[k]? = some u.2 := by simp [hu]
        rw [HE.out, h2] at h1; injection h1 with h1; exact h1.symm
      have hx := row_own ((HO.out.row t (List.mem_of_getElem? ht)).on hbel) (Nat.zero_le _)
      have hy := row_own ((HO'.out.row u (List.mem_of_getElem? hu)).on hbel) (Nat.zero_le _)
      rw [← htu] at hy
      have HX := Lib.hid (own_sl hx icell_len)
      have HY := Lib.hid (own_sl hy icell_len)
      have hk0 : (0 : Int) ≤ (k : Int) := by omega
      have hkn : (k : Int) < (n' : Int) := by omega
      clear ht hu hx hy htu
      go_wp2_with fail
      refine wp_region_quiet_below (by kernel_rfl) (by kernel_rfl) ?_
      repeat (go_big_quiet_step (exact Calls.regrown_of (laws_eqInt64S_self (some ⟨t.1, 0, none⟩) (some ⟨u.1, 0, none⟩) 2 2 2 2 [t.2.1, t.2.2] _ (by omega) (by omega) (HX.out.on (below_regrown _ _ _)) (HY.out.on (below_regrown _ _ _)))))
      refine wpQuiet_nil ?_
      intro wq hwq
      have hbq := below_then hbel (below_of_class hwq)
      clear hwq c0 c1 d0 d1
      go_wp2_with fail
      go_roundw
      case rel => exact ⟨k + 1, by omega, by go_num, hbq⟩
      case measure => simp [intOf]; omega
    · go_wp2
      go_ret
      exact ⟨rfl, hbel⟩
set_option maxHeartbeats 1000000 in
theorem laws_markInt64SS (base : Nat) (v : Value) (ts : List (Nat × Int × Int)) (k0 : Int) (w : World) (hmax : ts.length ≤ 1048576) (h0 : 0 ≤ k0) (h1 : k0 ≤ 1048576) (h : OSS w base v ts) :
    Calls Try.prog 46 #[v, .int .i64 k0] w fun e w' => e = .returned (.int .i64 (k0 + 2 * (ts.length : Int))) ∧ OSM w' base v ts k0 ts.length ∧ Below base w w' := by
  obtain ⟨A, n, c, rfl, hl, _⟩ := own_shape h.own
  have hn : n ≤ 1048576 := by omega
  have HA := Lib.hid h.apt
  have HL := Lib.hid hl
  have HM : Hid (OSM w base (.slice A n c) ts k0 0) := Lib.hid ⟨h.own, h.apt, fun i t _ hk => by omega, fun t ht => ⟨_, rfl, h.row t ht⟩⟩
  clear h hmax hl
  go_enter Try.func46, Try.ntmps46
  go_wp2
  go_loopw [1, 5] (fun kk i wr => ∃ k : Nat, k ≤ n ∧ i = .int .i64 k ∧ kk = .int .i64 (k0 + 2 * (k : Int)) ∧ Hid (OSM wr base (.slice A n c) ts k0 k) ∧ Hid (Below base w wr)) (fun _ i _ => n - (intOf i).toNat)
  case atStart => exact ⟨0, by omega, rfl, by simp, HM, Lib.hid (Below.refl _ _)⟩
  case round =>
    obtain ⟨k, hk, rfl, rfl, HM, HB⟩ := hrel
    by_cases hlt : k < n
    · have hS := own_sl HM.out.own pcell_len
      obtain ⟨b, off, rfl, hb, H⟩ := hS.at_ (by omega)
      obtain ⟨t, ht⟩ := hS.get hlt
      have c0 := H.p1 ht
      obtain ⟨xs, hx1, hx2⟩ := HM.out.rest t (List.mem_of_getElem? ht)
      have hlo := HA.out.lo t (List.mem_of_getElem? ht)
      have HX : Hid (wr.ownsRow base 2 1 (.slice (some ⟨t.1, 0, none⟩) 2 2) 2 xs) := Lib.hid (owns_of_row hx2 hlo (Nat.le_refl _) (by unfold maxLen; omega) hx1)
      have HT := Lib.hid ht
      clear ht hS hx2 hx1 H
      go_wp2_with (go_at_call 30; refine (laws_markInt64S base 2 _ xs (k0 + 2 * (k : Int)) _ (by omega) (by omega) (by omega) (by exact HX.out)).mono ?_; rintro e w1 ⟨rfl, hr1, hg1⟩; refine Hid.out ?_)
      refine Lib.hid ?_
      have HM1 : Hid (OSM w1 base (.slice (some ⟨b, off, none⟩) n c) ts k0 (k + 1)) := Lib.hid (by
        have hnb : ∀ t' ∈ ts, (Value.slice (some ⟨b, off, none⟩) n c).ownBlock ≠ some t'.1 := HA.out.out
        obtain ⟨g, cap, e1, _, _, _, hr2⟩ := owns_block hr1 (by omega)
        injection e1 with e1 _ e3
        injection e1 with e1
        injection e1 with e1 _ _
        subst e1; subst e3
        refine ⟨own_other HM.out.own (.inr (by simpa [Value.ownBlock] using hnb t (List.mem_of_getElem? HT.out))) hg1, HA.out, ?_, ?_⟩
        · intro i u hu hi
          rcases Nat.lt_or_ge i k with h1 | h1
          · have hne := nodup_ne HA.out.nd hu HT.out (by omega)
            have hr := HM.out.row i u hu h1
            exact hr.keep (hg1.block u.1 hr.lt (by simpa [Value.ownBlock] using hne))
          · have : i = k := by omega
            subst this
            rw [HT.out] at hu; injection hu with hu; subst hu
            exact hr2
        · intro u hu
          by_cases hue : u.1 = t.1
          · exact ⟨_, marks_len _ _, by rw [hue]; exact hr2⟩
          · obtain ⟨ys, hy1, hy2⟩ := HM.out.rest u hu
            exact ⟨ys, hy1, hy2.keep (hg1.block u.1 hy2.lt (by simpa [Value.ownBlock] using hue))⟩)
      have HB1 : Hid (Below base w w1) := Lib.hid (by
        have hsz : base ≤ wr.heap.size := by have := (World.ownsRow.lt HX.out t.1 rfl).2; omega
        exact HB.out.grown hg1 hsz fun j hj => by
          have : j = t.1 := by simpa [Value.ownBlock] using hj.symm
          subst this; exact hlo)
      clear hr1 hg1 HX HM HB c0
      go_wp2_with fail
      go_roundw
      case rel => exact ⟨k + 1, by omega, by go_num, by go_num, HM1, HB1⟩
      case measure => simp [intOf]; omega
    · go_wp2
      go_ret
      have hkn : k = n := by omega
      subst hkn
      exact ⟨by rw [HL.out]; rfl, by rw [HL.out]; exact HM.out, HB.out⟩
set_option maxHeartbeats 1000000 in
theorem laws_heldInt64SS (base : Nat) (v : Value) (ts : List (Nat × Int × Int)) (k0 : Int) (w : World) (hmax : ts.length ≤ 1048576) (h0 : 0 ≤ k0) (h1 : k0 ≤ 1048576) (h : OSM w base v ts k0 ts.length) :
    Calls Try.prog 47 #[v, .int .i64 k0] w fun e w' => e = .returned (.int .i64 (k0 + 2 * (ts.length : Int))) ∧ w = w' := by
  obtain ⟨A, n, c, rfl, hl, _⟩ := own_shape h.own
  have hn : n ≤ 1048576 := by omega
  have HL := Lib.hid hl
  have HM := Lib.hid h
  clear h hmax hl
  go_enter Try.func47, Try.ntmps47
  go_wp2
  go_loop [1, 5] (fun kk i => ∃ k : Nat, k ≤ n ∧ i = .int .i64 k ∧ kk = .int .i64 (k0 + 2 * (k : Int))) (fun _ i => n - (intOf i).toNat)
  case atStart => exact ⟨0, by omega, rfl, by simp⟩
  case round =>
    obtain ⟨k, hk, rfl, rfl⟩ := hrel
    by_cases hlt : k < n
    · have hS := own_sl HM.out.own pcell_len
      obtain ⟨b, off, rfl, hb, H⟩ := hS.at_ (by omega)
      obtain ⟨t, ht⟩ := hS.get hlt
      have c0 := H.p1 ht
      have hr := HM.out.row k t ht (by rw [HL.out]; exact hlt)
      have HX : Hid (w.ownsRow base 2 1 (.slice (some ⟨t.1, 0, none⟩) 2 2) 2 (marks (k0 + 2 * (k : Int)) 2)) := Lib.hid (owns_of_row hr (HM.out.apt.lo t (List.mem_of_getElem? ht)) (Nat.le_refl _) (by unfold maxLen; omega) (marks_len _ _))
      have hnn : ¬ k0 + 2 * (k : Int) + 2 < 0 := by omega
      clear ht hS hr H
      go_wp2_with (go_at_call 31; refine (laws_heldInt64S base 2 _ (k0 + 2 * (k : Int)) _ (by omega) (by omega) (by omega) HX.out).mono ?_; rintro e w1 ⟨rfl, rfl⟩)
      go_round
      case rel => exact ⟨k + 1, by omega, by go_num, by go_num⟩
      case measure => simp [intOf]; omega
    · go_wp2
      go_ret
      have hkn : k = n := by omega
      subst hkn
      exact ⟨by rw [HL.out]; rfl, rfl⟩

end Go.Proofs.Ythjdodamfinhaaa

/- Walks over functions of this seat, by contract. Conditions: those that each theorem states. -/
import Derived.Test.YthjdodamfinhaaaGf
import Derived.Test.YthjdodamfinhaaaGc
namespace Go.Proofs.Ythjdodamfinhaaa
open Go.RowKit Go.Sort

theorem putS_len (x : Int) : ∀ l : List Int, (putS x l).length ≤ l.length + 1
  | [] => by simp [putS]
  | y :: ys => by
    have := putS_len x ys
    unfold putS
    split
    · simp; omega
    · split
      · simp
      · simp
theorem duties_succ {hour : Int} {ss : List Q3} {k : Nat} {e : Q3} (he : ss[k]? = some e) : duties hour (ss.take (k + 1)) = if onDuty hour e = true then putS e.a (duties hour (ss.take k)) else duties hour (ss.take k) := by
  unfold duties; exact fold_take_succ he
theorem duties_len (hour : Int) (ss : List Q3) : (duties hour ss).length ≤ ss.length := by
  have : ∀ (l : List Q3) (a : List Int), (l.foldl (fun l q => if onDuty hour q = true then putS q.a l else l) a).length ≤ a.length + l.length := by
    intro l
    induction l with
    | nil => intro a; simp
    | cons q l ih =>
      intro a
      simp only [List.foldl_cons, List.length_cons]
      refine Nat.le_trans (ih _) ?_
      split
      · have := putS_len q.a a; omega
      · omega
  have := this ss []
  simpa [duties] using this
theorem drop_cons {xs : List Int} {k : Nat} {y : Int} (h : xs[k]? = some y) : xs.drop k = y :: xs.drop (k + 1) := by
  obtain ⟨hk, he⟩ := List.getElem?_eq_some_iff.1 h
  rw [List.drop_eq_getElem_cons hk, he]
set_option maxHeartbeats 1000000 in
set_option maxRecDepth 100000 in
theorem spec_l00Put (A : Option Addr) (n c : Nat) (xs : List Int) (x : Int) (w : World) (hmax : n ≤ 1048576) (h : Sl w w.heap.size 1 icell A n xs) :
    Calls Try.prog 90 #[.slice A n c, .int .i64 x] w fun e w' => ∃ v, e = .returned v ∧ Own w' w.heap.size 2 1 icell v (putS x xs) ∧ Below w.heap.size w w' := by
  obtain ⟨i0, hi, hz0, hz1, hz2⟩ := info_parts info_i64
  have Hn := Lib.hid h.len
  go_enter Try.func90, Try.ntmps90
  go_wp2
  go_loopw [5, 6, 7] (fun v d i wr => ∃ (k : Nat) (dn : Bool) (out : List Int), k ≤ n ∧ i = .int .i64 k ∧ d = .bool dn ∧ (dn = false → out.length ≤ k) ∧ out.length ≤ k + 1 ∧ Hid (out ++ (if dn = true then xs.drop k else putS x (xs.drop k)) = putS x xs) ∧ Hid (Own wr w.heap.size 2 1 icell v out) ∧ Below w.heap.size w wr) (fun _ _ i _ => n - (intOf i).toNat)
  case atStart => exact ⟨0, false, [], by omega, rfl, rfl, fun _ => by simp, by simp, Lib.hid rfl, Lib.hid (own_new_empty _ _ _ _ _ (Nat.le_refl _)), below_al (Below.refl _ _) _⟩
  case round =>
    obtain ⟨k, dn, out, hk, rfl, rfl, hl1, hl2, Heq, Hown, hbel⟩ := hrel
    by_cases hlt : k < n
    · obtain ⟨b, off, rfl, hb, H⟩ := h.at_ (by omega)
      obtain ⟨y, hy⟩ := h.get hlt
      have y0 := (H.below hbel hb).i1 hy
      have Hd := Lib.hid (drop_cons hy)
      have Hy := Lib.hid hy
      clear hy
      cases dn with
      | true =>
        go_wp2_with (at_builtin; refine wpList_push rfl _ _ 39 rfl w.heap.size 2 i0 (.int .i64 0) 1 8 Try.underlying39 hi hz0 hz1 hz2 rfl (by omega) icell_len (fun e u hu => by simp [icell] at hu; subst hu; rfl) _ _ y rfl Hown.out _ rfl _ rfl (by first | rfl | simp) (by omega) (by omega) hbel.size ?_; intro v3 w3 ho3 hg3; have hbel3 := own_grown hbel Hown.out (Nat.le_refl _) hbel.size hg3; have Ho3 := Lib.hid ho3; clear ho3)
        go_roundw
        case rel => exact ⟨k + 1, true, out ++ [y], by omega, by go_num, rfl, (fun h => by cases h), by simp; omega, Lib.hid (by
          have := Heq.out
          rw [if_pos rfl, Hd.out] at this
          rw [if_pos rfl, List.append_assoc]; exact this), Lib.hid Ho3.out, hbel3⟩
        case measure => simp [intOf]; omega
      | false =>
        have hl3 := hl1 rfl
        by_cases hyx : x ≤ y
        · by_cases hyx2 : x < y
          · go_wp2_with (first
              | (at_builtin; refine wpList_push rfl _ _ 39 rfl w.heap.size 2 i0 (.int .i64 0) 1 8 Try.underlying39 hi hz0 hz1 hz2 rfl (by omega) icell_len (fun e u hu => by simp [icell] at hu; subst hu; rfl) _ _ y rfl Ho2.out _ rfl _ rfl (by first | rfl | simp) (by simp; omega) (by omega) hbel2.size ?_; intro v3 w3 ho3 hg3; have hbel3 := own_grown hbel2 Ho2.out (Nat.le_refl _) hbel2.size hg3; have Ho3 := Lib.hid ho3; clear ho3)
              | (at_builtin; refine wpList_push rfl _ _ 39 rfl w.heap.size 2 i0 (.int .i64 0) 1 8 Try.underlying39 hi hz0 hz1 hz2 rfl (by omega) icell_len (fun e u hu => by simp [icell] at hu; subst hu; rfl) _ _ x rfl Hown.out _ rfl _ rfl (by first | rfl | simp) (by omega) (by omega) hbel.size ?_; intro v2 w2 ho2 hg2; have hbel2 := own_grown hbel Hown.out (Nat.le_refl _) hbel.size hg2; have Ho2 := Lib.hid ho2; clear ho2; have y1 := (H.below hbel2 hb).i1 Hy.out))
            go_roundw
            case rel => exact ⟨k + 1, true, (out ++ [x]) ++ [y], by omega, by go_num, rfl, (fun h => by cases h), by simp; omega, Lib.hid (by
              have := Heq.out
              rw [if_neg (by simp), Hd.out, putS, if_neg (by omega), if_neg (by omega)] at this
              rw [if_pos rfl, List.append_assoc, List.append_assoc]; exact this), Lib.hid Ho3.out, hbel3⟩
            case measure => simp [intOf]; omega
          · go_wp2_with (at_builtin; refine wpList_push rfl _ _ 39 rfl w.heap.size 2 i0 (.int .i64 0) 1 8 Try.underlying39 hi hz0 hz1 hz2 rfl (by omega) icell_len (fun e u hu => by simp [icell] at hu; subst hu; rfl) _ _ y rfl Hown.out _ rfl _ rfl (by first | rfl | simp) (by omega) (by omega) hbel.size ?_; intro v3 w3 ho3 hg3; have hbel3 := own_grown hbel Hown.out (Nat.le_refl _) hbel.size hg3; have Ho3 := Lib.hid ho3; clear ho3)
            go_roundw
            case rel => exact ⟨k + 1, true, out ++ [y], by omega, by go_num, rfl, (fun h => by cases h), by simp; omega, Lib.hid (by
              have := Heq.out
              rw [if_neg (by simp), Hd.out, putS, if_neg (by omega), if_pos (by omega)] at this
              rw [if_pos rfl, List.append_assoc]; exact this), Lib.hid Ho3.out, hbel3⟩
            case measure => simp [intOf]; omega
        · go_wp2_with (at_builtin; refine wpList_push rfl _ _ 39 rfl w.heap.size 2 i0 (.int .i64 0) 1 8 Try.underlying39 hi hz0 hz1 hz2 rfl (by omega) icell_len (fun e u hu => by simp [icell] at hu; subst hu; rfl) _ _ y rfl Hown.out _ rfl _ rfl (by first | rfl | simp) (by omega) (by omega) hbel.size ?_; intro v3 w3 ho3 hg3; have hbel3 := own_grown hbel Hown.out (Nat.le_refl _) hbel.size hg3; have Ho3 := Lib.hid ho3; clear ho3)
          go_roundw
          case rel => exact ⟨k + 1, false, out ++ [y], by omega, by go_num, rfl, (fun h => by simp; omega), by simp; omega, Lib.hid (by
            have := Heq.out
            rw [if_neg (by simp), Hd.out, putS, if_pos (by omega)] at this
            rw [if_neg (by simp), List.append_assoc]; exact this), Lib.hid Ho3.out, hbel3⟩
          case measure => simp [intOf]; omega
    · have hkn : k = n := by omega
      subst hkn
      have hdr : xs.drop k = [] := List.drop_of_length_le (by rw [Hn.out]; exact Nat.le_refl _)
      have Hdr := Lib.hid hdr
      clear hdr
      cases dn with
      | true =>
        go_wp2
        go_ret
        exact ⟨_, rfl, by (rw [← (show out = putS x xs from by simpa [Hdr.out] using Heq.out)]; exact Hown.out), hbel⟩
      | false =>
        have hl3 := hl1 rfl
        go_wp2_with (at_builtin; refine wpList_push rfl _ _ 39 rfl w.heap.size 2 i0 (.int .i64 0) 1 8 Try.underlying39 hi hz0 hz1 hz2 rfl (by omega) icell_len (fun e u hu => by simp [icell] at hu; subst hu; rfl) _ _ x rfl Hown.out _ rfl _ rfl (by first | rfl | simp) (by omega) (by omega) hbel.size ?_; intro v3 w3 ho3 hg3; have hbel3 := own_grown hbel Hown.out (Nat.le_refl _) hbel.size hg3; have Ho3 := Lib.hid ho3; clear ho3)
        go_ret
        exact ⟨_, rfl, by (have := Heq.out; rw [if_neg (by simp), Hdr.out] at this; rw [← this]; exact Ho3.out), hbel3⟩
set_option maxHeartbeats 1000000 in
set_option maxRecDepth 100000 in
theorem spec_l17At (A : Option Addr) (n c : Nat) (ss : List Q3) (hour : Int) (w : World) (hmax : n ≤ 1048576) (hok : ss.all hourOk = true) (h : Sl w w.heap.size 3 Q3.cells A n ss) :
    Calls Try.prog 80 #[.slice A n c, .int .i64 hour] w fun e w' => ∃ v, e = .returned v ∧ Own w' w.heap.size 2 1 icell v (duties hour ss) ∧ Below w.heap.size w w' := by
  have Hn := Lib.hid h.len
  have Hok := Lib.hid hok
  clear hok
  go_enter Try.func80, Try.ntmps80
  go_wp2
  go_loopw [5, 6] (fun v i wr => ∃ k : Nat, k ≤ n ∧ i = .int .i64 k ∧ Hid (Own wr w.heap.size 2 1 icell v (duties hour (ss.take k))) ∧ Below w.heap.size w wr) (fun _ i _ => n - (intOf i).toNat)
  case atStart => exact ⟨0, by omega, rfl, Lib.hid (own_new_empty _ _ _ _ _ (Nat.le_refl _)), below_al (Below.refl _ _) _⟩
  case round =>
    obtain ⟨k, hk, rfl, Hown, hbel⟩ := hrel
    by_cases hlt : k < n
    · obtain ⟨b, off, rfl, hb, H⟩ := h.at_ (by omega)
      obtain ⟨e, he⟩ := h.get hlt
      obtain ⟨c0, c1, c2⟩ := (H.below hbel hb).q3c (Nat.lt_of_lt_of_le hb hbel.size) he
      obtain ⟨⟨b0, b1⟩, b2, b3⟩ := hour_all Hok.out he
      obtain ⟨A2, n2, cc2, rfl, hl2, _⟩ := own_shape Hown.out
      have hn2 : n2 ≤ k := by rw [← hl2]; exact Nat.le_trans (duties_len _ _) (by rw [List.length_take]; omega)
      have He := Lib.hid he
      have Hsu := Lib.hid (duties_succ (hour := hour) he)
      have hwr : IntKind.i64.wrap (e.c - 1) = e.c - 1 := IntWalk.i64_in _ (by omega)
      have hk0 : (0 : Int) ≤ (k : Int) := by omega
      have hkn : (k : Int) < (n : Int) := by omega
      clear he hl2
      obtain ⟨r, hr⟩ : ∃ r, inR hour e.b (e.c - 1) = r := ⟨_, rfl⟩
      have Hr := Lib.hid hr
      have Hdu : Hid (onDuty hour e = r) := hr
      clear hr
      go_wp2_with fail
      refine wp_region_quiet_below (by kernel_rfl) (by kernel_rfl) ?_
      repeat (go_big_quiet_step (exact Calls.regrown_of (calls_below (l00In_r _ _ _ _ Hr.out _))))
      refine wpQuiet_nil ?_
      intro wq hwq
      have hwq2 := below_of_class hwq
      have hbq := below_then hbel hwq2
      have Ho1 := Lib.hid (Own.below Hown.out hwq2 (Nat.le_refl _))
      clear hwq hwq2 c0 c1 c2 hwr
      cases r with
      | true =>
        obtain ⟨c0, _, _⟩ := (H.below hbq hb).q3 He.out
        go_wp2_with (go_at_call 90; refine (spec_l00Put _ _ _ _ _ _ (by omega) (own_sl Ho1.out icell_len)).mono ?_; rintro ev w2 ⟨v2, rfl, ho2, hb2⟩; have Ho2 := Lib.hid (ho2.base_le hbq.size); clear ho2)
        go_roundw
        case rel => exact ⟨k + 1, by omega, by go_num, Lib.hid (by rw [Hsu.out, if_pos Hdu.out]; exact Ho2.out), below_then hbq hb2⟩
        case measure => simp [intOf]; omega
      | false =>
        go_wp2_with fail
        go_roundw
        case rel => exact ⟨k + 1, by omega, by go_num, Lib.hid (by rw [Hsu.out, if_neg (by rw [Hdu.out]; simp)]; exact Ho1.out), hbq⟩
        case measure => simp [intOf]; omega
    · have hkn : k = n := by omega
      subst hkn
      have hl : ss.take k = ss := List.take_of_length_le (by rw [Hn.out]; exact Nat.le_refl _)
      have Hl := Lib.hid hl
      clear hl
      go_wp2
      go_ret
      exact ⟨_, rfl, by rw [← Hl.out]; exact Hown.out, hbel⟩
def freeQ (hour : Int) (i : Nat) (q : Q3) : Bool := (q.a != (i : Int)) || !onDuty hour q
theorem free_all (ss : List Q3) (hour : Int) (i : Nat) : (!ss.all (freeQ hour i)) = dutyP ss hour i := by
  induction ss with
  | nil => rfl
  | cons q l ih =>
    have : dutyP (q :: l) hour i = ((q.a == (i : Int) && onDuty hour q) || dutyP l hour i) := by simp [dutyP]
    rw [this, ← ih, List.all_cons, freeQ]
    cases h : onDuty hour q <;> cases h2 : (q.a == (i : Int)) <;> simp [bne, h2]
def waCode (es : List G3) (ss : List Q3) (hour : Int) : Int := if shCode es ss ≠ 0 then shCode es ss else if inR hour 0 100000 = false then 2 else goodCode es ss
def waRes (es : List G3) (ss : List Q3) (hour : Int) : List Int := if waCode es ss hour = 0 then watchers es.length ss hour else []
theorem waRes_neg {es : List G3} {ss : List Q3} {hour : Int} (h : waCode es ss hour ≠ 0) : waRes es ss hour = [] := if_neg h
theorem waRes_len (es : List G3) (ss : List Q3) (hour : Int) : (waRes es ss hour).length ≤ es.length := by
  unfold waRes; split
  · exact idxs_len _ _
  · simp
theorem watch_eq {n : Nat} {ss : List Q3} {hour : Int} (h : faultOf n ss 0 < 0) : duties hour ss = watchers n ss hour :=
  duties_eq fun q hq => by
    obtain ⟨k, hk, rfl⟩ := List.mem_iff_getElem.1 hq
    obtain ⟨a, b, _⟩ := fault_none h (List.getElem?_eq_getElem hk)
    exact ⟨a, b⟩
set_option maxRecDepth 100000 in
theorem impl_watchersAt_1_1 (q : Q3) (i : Nat) (g0 g1 : Nat) (hour : Int) (W : World) (hq : 0 ≤ q.c ∧ q.c ≤ 100000)
    (x0 : W.cell? ⟨g0, 0, none⟩ = some (.int .i64 i)) (x1 : W.cell? ⟨g1, 0, none⟩ = some (.int .i64 hour)) (l0 : g0 < W.heap.size) (l1 : g1 < W.heap.size) :
    Calls Try.prog 92 #[.agg #[.int .i64 q.a, .int .i64 q.b, .int .i64 q.c], .pointer (some ⟨g0, 0, none⟩), .pointer (some ⟨g1, 0, none⟩)] W fun e w' => e = .returned (.bool (freeQ hour i q)) ∧ Below W.heap.size W w' := by
  have hwr : IntKind.i64.wrap (q.c - 1) = q.c - 1 := IntWalk.i64_in _ (by omega)
  obtain ⟨p, hp⟩ : ∃ p, (q.a != (i : Int)) = p := ⟨_, rfl⟩
  cases p with
  | true =>
    have hf : freeQ hour i q = true := by rw [freeQ, hp]; rfl
    rw [hf]
    clear hf
    go_enter Try.func92, Try.ntmps92
    go_wp2_with fail
    go_ret
    exact ⟨rfl, below_al (Below.refl _ _) _⟩
  | false =>
    have hf : freeQ hour i q = !inR hour q.b (q.c - 1) := by rw [freeQ, hp]; rfl
    rw [hf]
    clear hf
    go_enter Try.func92, Try.ntmps92
    go_wp2_with (go_at_call 65; refine (impl_in _ _ _ _).mono ?_; rintro e w' ⟨rfl, rfl⟩)
    go_ret
    exact ⟨rfl, below_al (Below.refl _ _) _⟩
set_option maxRecDepth 100000 in
theorem impl_watchersAt_1 (i : Nat) (g0 g1 : Nat) (A : Option Addr) (n c : Nat) (ss : List Q3) (hour : Int) (W : World) (hmax : n ≤ 1048576) (hok : ss.all hourOk = true)
    (x0 : W.cell? ⟨g0, 0, none⟩ = some (.slice A n c)) (x1 : W.cell? ⟨g1, 0, none⟩ = some (.int .i64 hour)) (l0 : g0 < W.heap.size) (l1 : g1 < W.heap.size) (h : Sl W W.heap.size 3 Q3.cells A n ss) :
    Calls Try.prog 91 #[.int .i64 i, .pointer (some ⟨g0, 0, none⟩), .pointer (some ⟨g1, 0, none⟩)] W fun e w' => e = .returned (.bool (dutyP ss hour i)) ∧ Below W.heap.size W w' := by
  have hcall : ∀ args W, (callFunc 92 args).run Try.prog W = .ok (.enter 92 args) W := fun _ _ => by kernel_rfl
  obtain ⟨wA, hwA⟩ : ∃ wA, wA = W.alloc (.cells #[.int .i64 i] 2) := ⟨_, rfl⟩
  have hb1 := Below.refl wA.heap.size wA
  rw [hwA] at hb1
  obtain ⟨z0, hs1, hbel⟩ := boxes1 hb1
  have z1 := cell_on x1 hbel l1
  clear hwA hb1
  rw [← free_all]
  go_enter Try.func91, Try.ntmps91
  go_wp2_with fail
  refine (impl_all_Shift 92 _ (freeQ hour i) _ _ _ ss _ hmax hcall (fun x W' hx hW => ?_) (h.on hbel)).mono ?_
  · have hq := List.all_eq_true.1 hok x hx
    simp only [hourOk, Bool.and_eq_true, inR_iff] at hq
    have hsz := hW.size
    exact impl_watchersAt_1_1 x i _ _ hour W' hq.2 (cell_on z0 hW (by omega)) (cell_on z1 hW (by omega)) (by omega) (by omega)
  rintro e w2 ⟨rfl, hb2⟩
  go_wp2_with fail
  go_ret
  exact ⟨rfl, below_then hbel hb2⟩
set_option maxHeartbeats 400000 in
set_option maxRecDepth 100000 in
theorem impl_watchersAt (A0 : Option Addr) (n0 c0 : Nat) (A : Option Addr) (n c : Nat) (ss : List Q3) (hour : Int) (w : World) (hmax0 : n0 ≤ 1048576) (hmax : n ≤ 1048576) (hok : ss.all hourOk = true) (h : Sl w w.heap.size 3 Q3.cells A n ss) :
    Calls Try.prog 81 #[.slice A0 n0 c0, .slice A n c, .int .i64 hour] w fun e w' => ∃ v, e = .returned v ∧ Own w' w.heap.size 2 1 icell v (watchers n0 ss hour) ∧ Below w.heap.size w w' := by
  obtain ⟨wA, hwA⟩ : ∃ wA, wA = (w.alloc (.cells #[.slice A n c] 49)).alloc (.cells #[.int .i64 hour] 2) := ⟨_, rfl⟩
  have hb1 := Below.refl wA.heap.size wA
  rw [hwA] at hb1
  obtain ⟨x0, x1, hs1, hbel⟩ := boxes2 hb1
  clear hwA hb1
  go_enter Try.func81, Try.ntmps81
  go_wp2_with fail
  refine (impl_size_impl.Guard _ _ _ _ (by omega)).mono ?_
  rintro e w' ⟨rfl, rfl⟩
  go_wp2_with fail
  have hcall : ∀ args W, (callFunc 91 args).run Try.prog W = .ok (.enter 91 args) W := fun _ _ => by kernel_rfl
  refine (impl_indicesWhere 91 _ n0 (dutyP ss hour) _ hmax0 hcall (fun i W hi hW => ?_)).mono ?_
  · have hsz := hW.size
    exact impl_watchersAt_1 i _ _ A n c ss hour W hmax hok (cell_on x0 hW (by omega)) (cell_on x1 hW hs1) (by omega) (by omega) ((h.on hbel).on hW)
  rintro e w2 ⟨v, rfl, ho, hb2⟩
  go_wp2_with fail
  go_ret
  exact ⟨v, rfl, ho.base_le hbel.size, below_then hbel hb2⟩
set_option maxHeartbeats 1000000 in
set_option maxRecDepth 100000 in
theorem impl_WatchersAt (A : Option Addr) (n c : Nat) (es : List G3) (A2 : Option Addr) (m c2 : Nat) (ss : List Q3) (hour : Int) (w : World) (hmax : n ≤ 1048576) (hmax2 : m ≤ 1048576) (hc2 : m ≤ c2) (hnm : ∀ e ∈ es, e.s.size ≤ 1048576) (h : Sl w w.heap.size 3 G3.cells A n es) (h2 : Sl w w.heap.size 3 Q3.cells A2 m ss) :
    Calls Try.prog 51 #[.slice A n c, .slice A2 m c2, .int .i64 hour] w fun e w' => ∃ v, e = .returned (.tuple #[v, .int .i64 (waCode es ss hour)]) ∧ Own w' w.heap.size 2 1 icell v (waRes es ss hour) ∧ Below w.heap.size w w' := by
  by_cases s0 : shCode es ss = 0
  · obtain ⟨_, g3, _⟩ := shCode_zero.1 s0
    have Hok := Lib.hid g3
    clear g3
    rcases Bool.eq_false_or_eq_true (inR hour 0 100000) with g2 | g2
    · by_cases f0 : faultOf n ss 0 < 0
      · have hc : waCode es ss hour = 0 := by
          unfold waCode; rw [if_neg (by simp [s0]), if_neg (by simp [g2])]; exact goodCode_zero.2 ⟨s0, by rw [h.len]; exact f0⟩
        have hr : waRes es ss hour = watchers n ss hour := by rw [waRes, if_pos hc, h.len]
        have f0' : decide (0 ≤ faultOf n ss 0) = false := by simpa using f0
        rw [hc, hr]
        clear hc hr f0
        go_enter Try.func51, Try.ntmps51
        go_wp2_with (first
          | (go_at_call 73; refine (impl_shiftsCode _ _ _ es _ _ _ ss _ hmax hmax2 hnm h h2).mono ?_; rintro e w1 ⟨rfl, hb1⟩; rw [s0])
          | (go_at_call 78; refine (impl_ValidDay _ _).mono ?_; rintro e w' ⟨rfl, rfl⟩; rw [g2])
          | (go_at_call 74; refine (impl_shiftFault _ _ _ _ _ _ ss _ _ hmax hmax2 hc2 (by omega) (by omega) Hok.out (h2.on hb1)).mono ?_; rintro e w2 ⟨rfl, hb2⟩)
          | (go_at_call 81; refine (impl_watchersAt _ _ _ _ _ _ ss _ _ hmax hmax2 Hok.out (h2.on (below_then hb1 hb2))).mono ?_; rintro e w3 ⟨v3, rfl, ho3, hb3⟩))
        have hb4 := below_then hb1 hb2
        go_ret2
        exact ⟨_, rfl, ho3.base_le hb4.size, below_then hb4 hb3⟩
      · have hc : waCode es ss hour = 6 := by
          unfold waCode; rw [if_neg (by simp [s0]), if_neg (by simp [g2])]; unfold goodCode; rw [if_neg (by simp [s0]), if_pos (by rw [h.len]; omega)]
        have f0' : decide (0 ≤ faultOf n ss 0) = true := by simpa using f0
        rw [waRes_neg (by rw [hc]; omega), hc]
        clear hc f0
        go_enter Try.func51, Try.ntmps51
        go_wp2_with (first
          | (go_at_call 73; refine (impl_shiftsCode _ _ _ es _ _ _ ss _ hmax hmax2 hnm h h2).mono ?_; rintro e w1 ⟨rfl, hb1⟩; rw [s0])
          | (go_at_call 78; refine (impl_ValidDay _ _).mono ?_; rintro e w' ⟨rfl, rfl⟩; rw [g2])
          | (go_at_call 74; refine (impl_shiftFault _ _ _ _ _ _ ss _ _ hmax hmax2 hc2 (by omega) (by omega) Hok.out (h2.on hb1)).mono ?_; rintro e w2 ⟨rfl, hb2⟩))
        have hb4 := below_then hb1 hb2
        go_ret2
        exact ⟨_, rfl, own_new_empty _ _ _ _ _ hb4.size, below_al hb4 _⟩
    · have hc : waCode es ss hour = 2 := by unfold waCode; rw [if_neg (by simp [s0]), if_pos g2]
      rw [waRes_neg (by rw [hc]; omega), hc]
      clear hc
      go_enter Try.func51, Try.ntmps51
      go_wp2_with (first
        | (go_at_call 73; refine (impl_shiftsCode _ _ _ es _ _ _ ss _ hmax hmax2 hnm h h2).mono ?_; rintro e w1 ⟨rfl, hb1⟩; rw [s0])
        | (go_at_call 78; refine (impl_ValidDay _ _).mono ?_; rintro e w' ⟨rfl, rfl⟩; rw [g2]))
      go_ret2
      exact ⟨_, rfl, own_new_empty _ _ _ _ _ hb1.size, below_al hb1 _⟩
  · have hc : waCode es ss hour = shCode es ss := by unfold waCode; rw [if_pos s0]
    have hne : (shCode es ss != 0) = true := by simpa using s0
    rw [waRes_neg (by rw [hc]; exact s0), hc]
    clear hc
    go_enter Try.func51, Try.ntmps51
    go_wp2_with (go_at_call 73; refine (impl_shiftsCode _ _ _ es _ _ _ ss _ hmax hmax2 hnm h h2).mono ?_; rintro e w1 ⟨rfl, hb1⟩)
    go_ret2
    exact ⟨_, rfl, own_new_empty _ _ _ _ _ hb1.size, below_al hb1 _⟩
set_option maxHeartbeats 1000000 in
set_option maxRecDepth 100000 in
theorem spec_WatchersAt (A : Option Addr) (n c : Nat) (es : List G3) (A2 : Option Addr) (m c2 : Nat) (ss : List Q3) (hour : Int) (w : World) (hmax : n ≤ 1048576) (hmax2 : m ≤ 1048576) (hnm : ∀ e ∈ es, e.s.size ≤ 1048576) (h : Sl w w.heap.size 3 G3.cells A n es) (h2 : Sl w w.heap.size 3 Q3.cells A2 m ss) :
    Calls Try.prog 50 #[.slice A n c, .slice A2 m c2, .int .i64 hour] w fun e w' => ∃ v, e = .returned (.tuple #[v, .int .i64 (waCode es ss hour)]) ∧ Own w' w.heap.size 2 1 icell v (waRes es ss hour) ∧ Below w.heap.size w w' := by
  by_cases s0 : shCode es ss = 0
  · obtain ⟨_, g3, _⟩ := shCode_zero.1 s0
    have Hok := Lib.hid g3
    clear g3
    rcases Bool.eq_false_or_eq_true (inR hour 0 100000) with g2 | g2
    · have hc : waCode es ss hour = goodCode es ss := by unfold waCode; rw [if_neg (by simp [s0]), if_neg (by simp [g2])]
      by_cases k0 : goodCode es ss = 0
      · obtain ⟨_, f0⟩ := goodCode_zero.1 k0
        have hr : waRes es ss hour = duties hour ss := by rw [waRes, if_pos (by rw [hc]; exact k0), watch_eq f0]
        rw [hr, hc, k0]
        clear hc hr f0
        go_enter Try.func50, Try.ntmps50
        go_wp2_with (first
          | (go_at_call 70; refine (spec_l17Shifts _ _ _ es _ _ _ ss _ hmax hmax2 hnm h h2).mono ?_; rintro e w1 ⟨rfl, hb1⟩; rw [s0])
          | (go_at_call 76; refine (spec_l17Hour _ _).mono ?_; rintro e w' ⟨rfl, rfl⟩; rw [g2])
          | (go_at_call 79; refine (spec_l17Good _ _ _ es _ _ _ ss _ hmax hmax2 hnm (h.on hb1) (h2.on hb1)).mono ?_; rintro e w2 ⟨rfl, hb2⟩; rw [k0])
          | (go_at_call 80; refine (spec_l17At _ _ _ ss _ _ hmax2 Hok.out (h2.on (below_then hb1 hb2))).mono ?_; rintro e w3 ⟨v3, rfl, ho3, hb3⟩))
        have hb4 := below_then hb1 hb2
        go_ret2
        exact ⟨_, rfl, ho3.base_le hb4.size, below_then hb4 hb3⟩
      · have hne : (goodCode es ss != 0) = true := by simpa using k0
        rw [waRes_neg (by rw [hc]; exact k0), hc]
        clear hc
        go_enter Try.func50, Try.ntmps50
        go_wp2_with (first
          | (go_at_call 70; refine (spec_l17Shifts _ _ _ es _ _ _ ss _ hmax hmax2 hnm h h2).mono ?_; rintro e w1 ⟨rfl, hb1⟩; rw [s0])
          | (go_at_call 76; refine (spec_l17Hour _ _).mono ?_; rintro e w' ⟨rfl, rfl⟩; rw [g2])
          | (go_at_call 79; refine (spec_l17Good _ _ _ es _ _ _ ss _ hmax hmax2 hnm (h.on hb1) (h2.on hb1)).mono ?_; rintro e w2 ⟨rfl, hb2⟩))
        have hb4 := below_then hb1 hb2
        go_ret2
        exact ⟨_, rfl, own_nil _ _ _ _ _, hb4⟩
    · have hc : waCode es ss hour = 2 := by unfold waCode; rw [if_neg (by simp [s0]), if_pos g2]
      rw [waRes_neg (by rw [hc]; omega), hc]
      clear hc
      go_enter Try.func50, Try.ntmps50
      go_wp2_with (first
        | (go_at_call 70; refine (spec_l17Shifts _ _ _ es _ _ _ ss _ hmax hmax2 hnm h h2).mono ?_; rintro e w1 ⟨rfl, hb1⟩; rw [s0])
        | (go_at_call 76; refine (spec_l17Hour _ _).mono ?_; rintro e w' ⟨rfl, rfl⟩; rw [g2]))
      go_ret2
      exact ⟨_, rfl, own_nil _ _ _ _ _, hb1⟩
  · have hc : waCode es ss hour = shCode es ss := by unfold waCode; rw [if_pos s0]
    have hne : (shCode es ss == 0) = false := by simpa using s0
    rw [waRes_neg (by rw [hc]; exact s0), hc]
    clear hc
    go_enter Try.func50, Try.ntmps50
    go_wp2_with (go_at_call 70; refine (spec_l17Shifts _ _ _ es _ _ _ ss _ hmax hmax2 hnm h h2).mono ?_; rintro e w1 ⟨rfl, hb1⟩)
    go_ret2
    exact ⟨_, rfl, own_nil _ _ _ _ _, hb1⟩

end Go.Proofs.Ythjdodamfinhaaa

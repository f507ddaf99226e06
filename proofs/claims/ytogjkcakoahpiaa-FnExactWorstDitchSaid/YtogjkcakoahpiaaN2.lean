/- Walks over functions of this seat, by contract. Conditions: those that each theorem states. -/
import Derived.Test.YtogjkcakoahpiaaN1
import Derived.Test.YtogjkcakoahpiaaFlow
import Derived.Test.YtogjkcakoahpiaaApp
namespace Go.Proofs.Ytogjkcakoahpiaa
open Go.RowKit Go.Sort

theorem box2k {w w1 : World} {v0 v1 : Value} {E : Nat} (hb : Below (w.alloc (.cells #[v0, v1] E)).heap.size (w.alloc (.cells #[v0, v1] E)) w1) :
    w1.cell? ⟨w.heap.size, 0, none⟩ = some v0 ∧ w1.cell? ⟨w.heap.size, 1, none⟩ = some v1 := by
  have hc : ∀ i, w1.cell? ⟨w.heap.size, i, none⟩ = #[v0, v1][i]? := fun i => by
    rw [hb.cell (p := ⟨w.heap.size, i, none⟩) (by simp)]
    exact cell_of_row _ _ i _ _ _ (heap_alloc_new w _)
  exact ⟨hc 0, hc 1⟩
def dOk (J : Int) (q : Q3) : Bool := inR q.a 0 (J - 1) && inR q.b 0 (J - 1) && (q.a != q.b) && inR q.c 0 1000
theorem dOk_iff {J : Int} {q : Q3} : dOk J q = true ↔ (0 ≤ q.a ∧ q.a ≤ J - 1) ∧ (0 ≤ q.b ∧ q.b ≤ J - 1) ∧ q.a ≠ q.b ∧ 0 ≤ q.c ∧ q.c ≤ 1000 := by
  simp [dOk, inR_iff, and_assoc]
def netOk (J : Int) (es : List Q3) : Bool := inR J 2 10 && decide (es.length ≤ 20) && es.all (dOk J)
theorem netOk_iff {J : Int} {es : List Q3} : netOk J es = true ↔ (2 ≤ J ∧ J ≤ 10) ∧ es.length ≤ 20 ∧ es.all (dOk J) = true := by
  simp only [netOk, Bool.and_eq_true, inR_iff, decide_eq_true_eq, and_assoc]
def netCode (J : Int) (es : List Q3) (src : Int) : Int := if netOk J es = false then 1 else if inR src 1 (J - 1) = false then 2 else 0
theorem spec_l04One (J : Int) (q : Q3) (h1 : 2 ≤ J) (h2 : J ≤ 10) (w : World) : Calls Try.prog 127 #[.agg #[.int .i64 q.a, .int .i64 q.b, .int .i64 q.c], .int .i64 J] w fun e w' => e = .returned (.bool (dOk J q)) ∧ Below w.heap.size w w' := by
  go_enter Try.func127, Try.ntmps127
  go_wp2_with (go_at_call 64; refine (spec_l00In _ _ _ _).mono ?_; rintro e w' ⟨rfl, rfl⟩)
  all_goals (go_ret; exact ⟨ret_bool (by simp_all [dOk]), below_al (Below.refl _ _) _⟩)
theorem impl_ditchOk (J : Int) (q : Q3) (h1 : 2 ≤ J) (h2 : J ≤ 10) (w : World) : Calls Try.prog 92 #[.int .i64 J, .agg #[.int .i64 q.a, .int .i64 q.b, .int .i64 q.c]] w fun e w' => e = .returned (.bool (dOk J q)) ∧ Below w.heap.size w w' := by
  go_enter Try.func92, Try.ntmps92
  go_wp2_with (go_at_call 82; refine (impl_in _ _ _ _).mono ?_; rintro e w' ⟨rfl, rfl⟩)
  all_goals (go_ret; exact ⟨ret_bool (by simp_all [dOk]), below_al (Below.refl _ _) _⟩)
theorem impl_ValidNet1 (J : Int) (q : Q3) (h1 : 2 ≤ J) (h2 : J ≤ 10) (b : Nat) (w : World) (c0 : w.cell? ⟨b, 0, none⟩ = some (.int .i64 J)) (hb : b < w.heap.size) :
    Calls Try.prog 91 #[.agg #[.int .i64 q.a, .int .i64 q.b, .int .i64 q.c], .pointer (some ⟨b, 0, none⟩)] w fun e w' => e = .returned (.bool (dOk J q)) ∧ Below w.heap.size w w' := by
  go_enter Try.func91, Try.ntmps91
  go_wp2_with (go_at_call 92; refine (impl_ditchOk J q h1 h2 _).mono ?_; rintro e w' ⟨rfl, hb1⟩)
  go_ret
  exact ⟨rfl, below_then (below_al (Below.refl _ _) _) hb1⟩
set_option maxHeartbeats 400000 in
theorem impl_all_Ditch (g : Nat) (lb : Array Value) (p : Q3 → Bool) (A : Option Addr) (n c : Nat) (es : List Q3) (w : World) (hmax : n ≤ 1048576) (hcall : ∀ args W, (callFunc g args).run Try.prog W = .ok (.enter g args) W)
    (hso : ∀ (q : Q3) (W : World), Below w.heap.size w W → Calls Try.prog g (#[.agg #[.int .i64 q.a, .int .i64 q.b, .int .i64 q.c]] ++ lb) W fun e w' => e = .returned (.bool (p q)) ∧ Below W.heap.size W w') (h : Sl w w.heap.size 3 Q3.cells A n es) :
    Calls Try.prog 90 #[.slice A n c, .func (.func g) #[] lb] w fun e w' => e = .returned (.bool (es.all p)) ∧ Below w.heap.size w w' := by
  have Hn := Lib.hid h.len
  have HSO := Lib.hid hso
  clear hso
  go_enter Try.func90, Try.ntmps90
  go_wp2
  go_loopw [9] (fun i wr => ∃ k : Nat, k ≤ n ∧ i = .int .i64 k ∧ Hid (∀ j e, j < k → es[j]? = some e → p e = true) ∧ Below w.heap.size w wr) (fun i _ => n - (intOf i).toNat)
  case atStart => exact ⟨0, by omega, rfl, Lib.hid (fun j e hj => by omega), Below.refl _ _⟩
  case round =>
    obtain ⟨k, hk, rfl, Hgood, hbel⟩ := hrel
    by_cases hlt : k < n
    · obtain ⟨b, off, rfl, hb, H⟩ := h.at_ (by omega)
      obtain ⟨e, he⟩ := h.get hlt
      obtain ⟨c0, c1, c2⟩ := (H.below hbel hb).q3 he
      have He := Lib.hid he
      clear he
      go_wp2_with (refine (HSO.out e _ (below_al hbel _)).mono ?_; rintro e' w' ⟨rfl, hb1⟩; have hb2 := below_then (below_al hbel _) hb1)
      · have hne : (!p e) = true := by assumption
        go_ret
        exact ⟨ret_bool (by rw [all_no He.out (by simpa using hne)]), hb2⟩
      · have heq : (!p e) = false := by assumption
        go_roundw
        case rel => exact ⟨k + 1, by omega, by go_num, Lib.hid (fun j x hj hx => if h1 : j < k then Hgood.out j x h1 hx else by
          have : j = k := by omega
          subst this; rw [He.out] at hx; injection hx with hx; subst hx; simpa using heq), hb2⟩
        case measure => simp [intOf]; omega
    · go_wp2
      go_ret
      have hkn : k = n := by omega
      subst hkn
      exact ⟨ret_bool (by symm; rw [all_iff_get]; exact fun j x hx => Hgood.out j x (by rw [← Hn.out]; exact (List.getElem?_eq_some_iff.1 hx).1) hx), hbel⟩
set_option maxHeartbeats 400000 in
set_option maxRecDepth 100000 in
theorem impl_ValidNet (J : Int) (A : Option Addr) (n c : Nat) (es : List Q3) (w : World) (hmax : n ≤ 1048576) (h : Sl w w.heap.size 3 Q3.cells A n es) :
    Calls Try.prog 48 #[.agg #[.int .i64 J, .slice A n c]] w fun e w' => e = .returned (.bool (netOk J es)) ∧ Below w.heap.size w w' := by
  have Hn := Lib.hid h.len
  have hb0 := below_al (Below.refl _ w) (.cells #[.int .i64 J, .slice A n c] 30)
  have hx := h.on hb0
  by_cases hJ : inR J 2 10 = true
  · obtain ⟨j1, j2⟩ := inR_iff.1 hJ
    have HV : ∀ (q : Q3) (W : World), Below (w.alloc (.cells #[.int .i64 J, .slice A n c] 30)).heap.size (w.alloc (.cells #[.int .i64 J, .slice A n c] 30)) W →
        Calls Try.prog 91 (#[.agg #[.int .i64 q.a, .int .i64 q.b, .int .i64 q.c]] ++ #[.pointer (some ⟨w.heap.size, 0, none⟩)]) W fun e w' => e = .returned (.bool (dOk J q)) ∧ Below W.heap.size W w' := fun q W hW =>
      impl_ValidNet1 J q j1 j2 w.heap.size W (box2k hW).1 (Nat.lt_of_lt_of_le (by simp) hW.size)
    go_enter Try.func48, Try.ntmps48
    go_wp2_with (first
      | (go_at_call 82; refine (impl_in _ _ _ _).mono ?_; rintro e w' ⟨rfl, rfl⟩)
      | (go_at_call 90; refine (impl_all_Ditch 91 #[.pointer (some ⟨w.heap.size, 0, none⟩)] (dOk J) _ _ _ es _ hmax (fun _ _ => by kernel_rfl) (fun q W hW => HV q W hW) hx).mono ?_; rintro e w' ⟨rfl, hb1⟩))
    all_goals
      go_ret
      refine ⟨ret_bool ?_, by first | exact hb0 | exact below_then hb0 hb1⟩
      rw [netOk, Hn.out]
      simp_all <;> (intros; omega)
  · go_enter Try.func48, Try.ntmps48
    have hJ' : inR J 2 10 = false := by simpa using hJ
    go_wp2_with (go_at_call 82; refine (impl_in _ _ _ _).mono ?_; rintro e w' ⟨rfl, rfl⟩; rw [hJ'])
    go_ret
    exact ⟨ret_bool (by rw [netOk, hJ']; rfl), hb0⟩
theorem impl_isInner (J src : Int) (s : Value) (h1 : 2 ≤ J) (h2 : J ≤ 10) (w : World) :
    Calls Try.prog 49 #[.agg #[.int .i64 J, s], .int .i64 src] w fun e w' => e = .returned (.bool (inR src 1 (J - 1))) ∧ Below w.heap.size w w' := by
  go_enter Try.func49, Try.ntmps49
  go_wp2_with (go_at_call 82; refine (impl_in _ _ _ _).mono ?_; rintro e w' ⟨rfl, rfl⟩)
  go_ret
  exact ⟨rfl, below_al (Below.refl _ _) _⟩
set_option maxHeartbeats 400000 in
theorem spec_l04Ok (J : Int) (A : Option Addr) (n c : Nat) (es : List Q3) (b : Nat) (w : World) (hmax : n ≤ 1048576) (h : Sl w w.heap.size 3 Q3.cells A n es) (hbw : b < w.heap.size)
    (x0 : w.cell? ⟨b, 0, none⟩ = some (.int .i64 J)) (x1 : w.cell? ⟨b, 1, none⟩ = some (.slice A n c)) :
    Calls Try.prog 86 #[.pointer (some ⟨b, 0, none⟩)] w fun e w' => e = .returned (.bool (netOk J es)) ∧ Below w.heap.size w w' := by
  have Hn := Lib.hid h.len
  by_cases hJ : inR J 2 10 = true
  · obtain ⟨j1, j2⟩ := inR_iff.1 hJ
    go_enter Try.func86, Try.ntmps86
    go_wp2_with (go_at_call 64; refine (spec_l00In _ _ _ _).mono ?_; rintro e w' ⟨rfl, rfl⟩; rw [hJ])
    go_loopw [3] (fun i wr => ∃ k : Nat, k ≤ n ∧ i = .int .i64 k ∧ Hid (∀ j e, j < k → es[j]? = some e → dOk J e = true) ∧ Below w.heap.size w wr) (fun i _ => n - (intOf i).toNat)
    case atStart => exact ⟨0, by omega, rfl, Lib.hid (fun j e hj => by omega), Below.refl _ _⟩
    case round =>
      obtain ⟨k, hk, rfl, Hgood, hbel⟩ := hrel
      have y0 := cell_on x0 hbel hbw
      have y1 := cell_on x1 hbel hbw
      by_cases hlt : k < n
      · obtain ⟨b', off, rfl, hb, H⟩ := h.at_ (by omega)
        obtain ⟨e, he⟩ := h.get hlt
        obtain ⟨c0, c1, c2⟩ := (H.below hbel hb).q3c (Nat.lt_of_lt_of_le hb hbel.size) he
        have z0 := fun d os => cell_regrown y0 d os
        have z1 := fun d os => cell_regrown y1 d os
        have He := Lib.hid he
        clear he
        go_wp2
        refine wp_region_quiet_below (by kernel_rfl) (by kernel_rfl) ?_
        repeat (go_big_quiet_step (exact Calls.regrown_of (spec_l04One J e j1 j2 _)))
        refine wpQuiet_nil ?_
        intro wq hwq
        have hbq := below_then hbel (below_of_class hwq)
        clear hwq c0 c1 c2 z0 z1
        go_wp2
        · have hne : (!dOk J e) = true := by assumption
          go_ret
          exact ⟨ret_bool (by rw [netOk, all_no He.out (by simpa using hne)]; simp), hbq⟩
        · have heq : (!dOk J e) = false := by assumption
          go_roundw
          case rel => exact ⟨k + 1, by omega, by go_num, Lib.hid (fun j x hj hx => if h1 : j < k then Hgood.out j x h1 hx else by
            have : j = k := by omega
            subst this; rw [He.out] at hx; injection hx with hx; subst hx; simpa using heq), hbq⟩
          case measure => simp [intOf]; omega
      · have hall : es.all (dOk J) = true := all_iff_get.2 fun j x hx => Hgood.out j x (by have := (List.getElem?_eq_some_iff.1 hx).1; have := Hn.out; omega) hx
        have Hall := Lib.hid hall
        clear hall
        go_wp2
        all_goals
          go_ret
          refine ⟨ret_bool ?_, hbel⟩
          rw [netOk, Hall.out, hJ, Hn.out]
          simp
          omega
  · go_enter Try.func86, Try.ntmps86
    have hJ' : inR J 2 10 = false := by simpa using hJ
    go_wp2_with (go_at_call 64; refine (spec_l00In _ _ _ _).mono ?_; rintro e w' ⟨rfl, rfl⟩; rw [hJ'])
    go_ret
    exact ⟨ret_bool (by rw [netOk, hJ']; rfl), Below.refl _ _⟩
theorem spec_l04Code (J src : Int) (A : Option Addr) (n c : Nat) (es : List Q3) (b : Nat) (w : World) (hmax : n ≤ 1048576) (h : Sl w w.heap.size 3 Q3.cells A n es) (hbw : b < w.heap.size)
    (x0 : w.cell? ⟨b, 0, none⟩ = some (.int .i64 J)) (x1 : w.cell? ⟨b, 1, none⟩ = some (.slice A n c)) :
    Calls Try.prog 45 #[.pointer (some ⟨b, 0, none⟩), .int .i64 src] w fun e w' => e = .returned (.int .i64 (netCode J es src)) ∧ Below w.heap.size w w' := by
  by_cases hk : netOk J es = true
  · obtain ⟨⟨j1, j2⟩, _⟩ := netOk_iff.1 hk
    have hk' : netOk J es ≠ false := by simp [hk]
    by_cases hs : inR src 1 (J - 1) = true
    · have hs' : inR src 1 (J - 1) ≠ false := by simp [hs]
      rw [netCode, if_neg hk', if_neg hs']
      go_enter Try.func45, Try.ntmps45
      go_wp2_with (first
        | (go_at_call 86; refine (spec_l04Ok J A n c es b w hmax h hbw x0 x1).mono ?_; rintro e w' ⟨rfl, hb1⟩; rw [hk]; have y0 := cell_on x0 hb1 hbw)
        | (go_at_call 64; refine (spec_l00In _ _ _ _).mono ?_; rintro e w' ⟨rfl, rfl⟩; rw [hs]))
      go_ret
      exact ⟨rfl, hb1⟩
    · have hs' : inR src 1 (J - 1) = false := by simpa using hs
      rw [netCode, if_neg hk', if_pos hs']
      go_enter Try.func45, Try.ntmps45
      go_wp2_with (first
        | (go_at_call 86; refine (spec_l04Ok J A n c es b w hmax h hbw x0 x1).mono ?_; rintro e w' ⟨rfl, hb1⟩; rw [hk]; have y0 := cell_on x0 hb1 hbw)
        | (go_at_call 64; refine (spec_l00In _ _ _ _).mono ?_; rintro e w' ⟨rfl, rfl⟩; rw [hs']))
      go_ret
      exact ⟨rfl, hb1⟩
  · have hk' : netOk J es = false := by simpa using hk
    rw [netCode, if_pos hk']
    go_enter Try.func45, Try.ntmps45
    go_wp2_with (go_at_call 86; refine (spec_l04Ok J A n c es b w hmax h hbw x0 x1).mono ?_; rintro e w' ⟨rfl, hb1⟩; rw [hk'])
    go_ret
    exact ⟨rfl, hb1⟩

end Go.Proofs.Ytogjkcakoahpiaa

/- Walks over functions of this seat, by contract. Conditions: those that each theorem states. -/
import Derived.Test.YtgakpcepjhbhjaaB6
namespace Go.Proofs.Ytgakpcepjhbhjaa
open Go.RowKit Go.Sort

set_option maxHeartbeats 1000000 in
theorem impl_RemitBills (A : Option Addr) (n c : Nat) (es : List Q4) (owner percent : Int) (w : World) (hmax : n ≤ 1048576) (h : Sl w w.heap.size 4 Q4.cells A n es) :
    Calls Try.prog 32 #[.slice A n c, .int .i64 owner, .int .i64 percent] w fun e w' => ∃ v, e = .returned (.tuple #[v, .int .i64 (remitSum es owner percent), .int .i64 (remitCode es owner percent)]) ∧ Own w' w.heap.size 26 4 Q4.cells v (remitOut es owner percent) ∧ Below w.heap.size w w' := by
  by_cases k0 : billCode es owner 0 0 = 0
  · by_cases k3 : inR percent 0 100 = true
    · obtain ⟨g1, g2, _⟩ := billCode_zero.1 k0
      have k1 : remitCode es owner percent = 0 := billCode_zero.2 ⟨g1, g2, k3⟩
      obtain ⟨p0, p1⟩ := inR_iff.1 k3
      have Hn := Lib.hid h.len
      have Hg := Lib.hid g1
      have Hk := Lib.hid k1
      clear g1 k1
      go_enter Try.func32, Try.ntmps32
      go_wp2_with (first
        | (go_at_call 50; refine (impl_billsCode _ _ _ es _ _ _ hmax h).mono ?_; rintro e w1 ⟨rfl, hb1⟩; rw [billCode_same, k0])
        | (go_at_call 55; refine (impl_in _ _ _ _).mono ?_; rintro e w' ⟨rfl, rfl⟩; rw [k3])
        | (go_at_call 56; refine (impl_clone_Bill _ _ _ es _ hmax (h.on hb1)).mono ?_; rintro e w2 ⟨v2, rfl, ho2, hb2⟩; obtain ⟨A2, n2, c2, rfl, hl2, _⟩ := own_shape ho2; have Hl2 := Lib.hid hl2; clear hl2; have Ho2 := Lib.hid ho2; clear ho2))
      clear k0 k3
      have hbel0 := below_then hb1 hb2
      have hn2 : n2 = n := by rw [← Hl2.out, Hn.out]
      subst hn2
      have Ho := Lib.hid (Ho2.out.base_le hb1.size)
      clear Ho2 Hl2
      go_loopw [11, 30] (fun sm i wr => ∃ (k : Nat) (s : Int), k ≤ n2 ∧ i = .int .i64 k ∧ sm = .int .i64 s ∧ Hid (s = sumBy (remitX owner percent) (es.take k)) ∧ Hid (Own wr w.heap.size 26 4 Q4.cells (.slice A2 n2 c2) ((es.take k).map (remitQ owner percent) ++ es.drop k)) ∧ Below w.heap.size w wr) (fun _ i _ => n2 - (intOf i).toNat)
      case atStart => exact ⟨0, 0, by omega, rfl, rfl, Lib.hid rfl, Lib.hid (by simpa using Ho.out), hbel0⟩
      case round =>
        obtain ⟨k, s, hk, rfl, rfl, Hs, Hown, hbel⟩ := hrel
        by_cases hlt : k < n2
        · obtain ⟨e, he⟩ := h.get hlt
          have hpl : ((es.take k).map (remitQ owner percent)).length = k := by rw [List.length_map, List.length_take, Hn.out]; omega
          obtain ⟨g, c3, hv, hgb, hgl, hfro⟩ := own_block_of (n := n2) Hown.out (by rw [List.length_append, hpl, List.length_drop, Hn.out]; omega) (by omega)
          injection hv with hv1 _ hv3
          subst hv1; subst hv3
          obtain ⟨c0, c1, c2', c3'⟩ := (own_has Hown.out Q4.cells_len).q4 (splice_get hpl he)
          simp only [Nat.zero_add] at c0 c1 c2' c3'
          have hall := (bills_all Hg.out).2
          have hok := hall e (List.mem_of_getElem? he)
          obtain ⟨r1, r2, r3, r4, _, _⟩ := remitX_bd (owner := owner) hok p0 p1
          obtain ⟨_, _, ⟨e1, e2⟩, e3, e4⟩ := billOk_iff.1 hok
          obtain ⟨s1, s2⟩ := sumBy_bound (f := remitX owner percent) (es := es) (B := 1000000000) (fun x hx => (remitX_bd (hall x hx) p0 p1).2.2.2.2) k
          have hlen := (bills_all Hg.out).1
          have hlen2 : (es.take k).length ≤ 100 := by rw [List.length_take]; omega
          rw [← Hs.out] at s1 s2
          have s3 : s ≤ 100000000000 := by omega
          have He := Lib.hid he
          have Hpl := Lib.hid hpl
          have Hfro := Lib.hid hfro
          clear he hall hlen s2 hok hpl hfro
          go_wp2_with (go_at_call 42; refine (Bill_open e _ e3 e2 e4).mono ?_; rintro e' w3 ⟨rfl, hb3⟩; have Hown3 := Lib.hid (Own.below (own_alloc Hown.out _) hb3 (Nat.le_refl _)); have hy := ((own_has Hown3.out Q4.cells_len).q4 (splice_get Hpl.out He.out)).2.2.1; simp only [Nat.zero_add] at hy; have hfr := own_free Hown3.out (k * 4 + 2); have hbel3 := below_then (below_al hbel _) hb3; obtain ⟨_, _, _, _⟩ := box4k hb3)
          · have ho : (e.a == owner) = true := by assumption
            have ho' : e.a = owner := by simpa using ho
            go_roundw
            case rel => exact ⟨k + 1, _, by omega, by go_num, rfl, Lib.hid (by rw [sumBy_succ He.out, ← Hs.out, remitX, if_pos ho']), Lib.hid (by rw [map_take_succ He.out, ← splice_set Hpl.out He.out]; exact Own.store Q4.cells_len Hown3.out (splice_get Hpl.out He.out) (by omega) (by simp [Q4.cells, remitQ, remitX, ho'])), below_st hbel3 _ hgb _⟩
            case measure => simp [intOf]; omega
          · have ho : (e.a == owner) = false := by assumption
            have ho' : ¬ e.a = owner := by simpa using ho
            have hq : remitQ owner percent e = e := by simp [remitQ, remitX, ho']
            go_roundw
            case rel => exact ⟨k + 1, _, by omega, by go_num, rfl, Lib.hid (by rw [sumBy_succ He.out, ← Hs.out, remitX, if_neg ho']; omega), Lib.hid (by rw [map_take_succ He.out, hq, ← splice_next He.out]; exact own_alloc Hown.out _), below_al hbel _⟩
            case measure => simp [intOf]; omega
        · go_wp2
          go_ret3
          have hkn : k = n2 := by omega
          subst hkn
          have hl : List.take k es = es := List.take_of_length_le (by rw [Hn.out]; omega)
          have hd : List.drop k es = [] := List.drop_of_length_le (by rw [Hn.out]; omega)
          have hs' : remitSum es owner percent = s := by rw [remitSum, if_pos Hk.out, Hs.out, hl]
          have hr : remitOut es owner percent = (es.take k).map (remitQ owner percent) ++ es.drop k := by rw [remitOut, if_pos Hk.out, hl, hd, List.append_nil]
          exact ⟨_, by rw [hs', Hk.out]; rfl, by rw [hr]; exact Hown.out, hbel⟩
    · have k3' : inR percent 0 100 = false := by simpa using k3
      obtain ⟨g1, g2, _⟩ := billCode_zero.1 k0
      have k1 : remitCode es owner percent = 2 := by simp [remitCode, billCode, g1, g2, k3']
      have hr : remitOut es owner percent = [] := by simp [remitOut, k1]
      have hs : remitSum es owner percent = 0 := by simp [remitSum, k1]
      rw [hr, hs, k1]
      go_enter Try.func32, Try.ntmps32
      go_wp2_with (first
        | (go_at_call 50; refine (impl_billsCode _ _ _ es _ _ _ hmax h).mono ?_; rintro e w1 ⟨rfl, hb1⟩; rw [billCode_same, k0])
        | (go_at_call 55; refine (impl_in _ _ _ _).mono ?_; rintro e w' ⟨rfl, rfl⟩; rw [k3']))
      go_ret3
      exact ⟨_, rfl, own_new_empty _ _ _ _ _ hb1.size, below_al hb1 _⟩
  · have hne : (billCode es owner 0 0 != 0) = true := by simpa using k0
    have hc : remitCode es owner percent = billCode es owner 0 0 := by
      by_cases h1 : billsOk es = true
      · by_cases h2 : inR owner 0 39 = true
        · exact absurd (billCode_zero.2 ⟨h1, h2, by decide⟩) k0
        · simp [remitCode, billCode, h1, h2]
      · simp [remitCode, billCode, h1]
    have hc0 : ¬ remitCode es owner percent = 0 := by rw [hc]; exact k0
    have hr : remitOut es owner percent = [] := by simp [remitOut, hc0]
    have hs : remitSum es owner percent = 0 := by simp [remitSum, hc0]
    rw [hr, hs, hc]
    clear hr hs hc hc0
    go_enter Try.func32, Try.ntmps32
    go_wp2_with (go_at_call 50; refine (impl_billsCode _ _ _ es _ _ _ hmax h).mono ?_; rintro e w1 ⟨rfl, hb1⟩; rw [billCode_same])
    go_ret3
    exact ⟨_, rfl, own_new_empty _ _ _ _ _ hb1.size, below_al hb1 _⟩
def payX (owner a : Int) (q : Q4) : Int := if q.a = owner then min a (q.c - q.d) else 0
def payQ (owner a : Int) (q : Q4) : Q4 := ⟨q.a, q.b, q.c, q.d + payX owner a q⟩
def payLeft (owner a : Int) (es : List Q4) : Int := es.foldl (fun x q => x - payX owner x q) a
def payList (owner a : Int) : List Q4 → List Q4
  | [] => []
  | q :: qs => payQ owner a q :: payList owner (a - payX owner a q) qs
def payCode (es : List Q4) (owner a : Int) : Int := billCode es owner a 1000000000
def payOut (es : List Q4) (owner a : Int) : List Q4 := if payCode es owner a = 0 then payList owner a es else []
def payRest (es : List Q4) (owner a : Int) : Int := if payCode es owner a = 0 then payLeft owner a es else 0
theorem payLeft_append (owner a : Int) (xs ys : List Q4) : payLeft owner a (xs ++ ys) = payLeft owner (payLeft owner a xs) ys := by simp [payLeft]
theorem payList_append (owner : Int) : ∀ (xs ys : List Q4) (a : Int), payList owner a (xs ++ ys) = payList owner a xs ++ payList owner (payLeft owner a xs) ys
  | [], _, _ => rfl
  | x :: xs, ys, a => by simp only [List.cons_append, payList, payList_append owner xs ys, payLeft, List.foldl_cons]
theorem payList_len (owner : Int) : ∀ (xs : List Q4) (a : Int), (payList owner a xs).length = xs.length
  | [], _ => rfl
  | x :: xs, a => by simp [payList, payList_len owner xs]
theorem take_snoc_of {es : List Q4} {k : Nat} {e : Q4} (he : es[k]? = some e) : es.take (k + 1) = es.take k ++ [e] := by
  obtain ⟨hk, hx⟩ := List.getElem?_eq_some_iff.1 he
  rw [List.take_succ_eq_append_getElem hk, hx]
theorem payLeft_succ {owner a : Int} {es : List Q4} {k : Nat} {e : Q4} (he : es[k]? = some e) : payLeft owner a (es.take (k + 1)) = payLeft owner a (es.take k) - payX owner (payLeft owner a (es.take k)) e := by
  rw [take_snoc_of he, payLeft_append]; rfl
theorem payList_succ {owner a : Int} {es : List Q4} {k : Nat} {e : Q4} (he : es[k]? = some e) : payList owner a (es.take (k + 1)) = payList owner a (es.take k) ++ [payQ owner (payLeft owner a (es.take k)) e] := by
  rw [take_snoc_of he, payList_append]; rfl
theorem payX_bd {owner a : Int} {q : Q4} (h : billOk q = true) (h0 : 0 ≤ a) : 0 ≤ payX owner a q ∧ payX owner a q ≤ a ∧ payX owner a q ≤ q.c - q.d := by
  obtain ⟨_, _, ⟨c1, c2⟩, d1, d2⟩ := billOk_iff.1 h
  unfold payX
  split <;> omega
theorem payLeft_bd {owner : Int} : ∀ {es : List Q4} {a : Int}, (∀ e ∈ es, billOk e = true) → 0 ≤ a → 0 ≤ payLeft owner a es ∧ payLeft owner a es ≤ a
  | [], a, _, h0 => ⟨h0, Int.le_refl _⟩
  | q :: qs, a, h, h0 => by
    obtain ⟨x1, x2, _⟩ := payX_bd (owner := owner) (h q (List.mem_cons.2 (.inl rfl))) h0
    have := payLeft_bd (owner := owner) (es := qs) (a := a - payX owner a q) (fun e he => h e (List.mem_cons.2 (.inr he))) (by omega)
    have e1 : payLeft owner a (q :: qs) = payLeft owner (a - payX owner a q) qs := rfl
    rw [e1]; omega
set_option maxHeartbeats 1000000 in
theorem spec_PayBills (A : Option Addr) (n c : Nat) (es : List Q4) (owner a : Int) (w : World) (hmax : n ≤ 1048576) (h : Sl w w.heap.size 4 Q4.cells A n es) :
    Calls Try.prog 34 #[.slice A n c, .int .i64 owner, .int .i64 a] w fun e w' => ∃ v, e = .returned (.tuple #[v, .int .i64 (payRest es owner a), .int .i64 (payCode es owner a)]) ∧ Own w' w.heap.size 26 4 Q4.cells v (payOut es owner a) ∧ Below w.heap.size w w' := by
  obtain ⟨i0, hi, hz0, hz1, hz2⟩ := info_parts info_Bill
  by_cases k1 : payCode es owner a = 0
  · obtain ⟨g1, _, g3⟩ := billCode_zero.1 k1
    obtain ⟨p0, p1⟩ := inR_iff.1 g3
    have Hn := Lib.hid h.len
    have Hg := Lib.hid g1
    have k1' : billCode es owner a 1000000000 = 0 := k1
    have Hk := Lib.hid k1
    clear g1 k1 g3
    go_enter Try.func34, Try.ntmps34
    go_wp2_with (go_at_call 48; refine (spec_l20Code _ _ _ es _ _ _ _ hmax h).mono ?_; rintro e w1 ⟨rfl, hb1⟩; rw [k1'])
    clear k1'
    go_loopw [2, 10, 11] (fun am v i wr => ∃ (k : Nat) (x : Int), k ≤ n ∧ i = .int .i64 k ∧ am = .int .i64 x ∧ Hid (x = payLeft owner a (es.take k)) ∧ Own wr w.heap.size 26 4 Q4.cells v (payList owner a (es.take k)) ∧ Below w.heap.size w wr) (fun _ _ i _ => n - (intOf i).toNat)
    case atStart => exact ⟨0, a, by omega, rfl, rfl, Lib.hid rfl, own_new_empty _ _ _ _ _ hb1.size, below_al hb1 _⟩
    case round =>
      obtain ⟨k, x, hk, rfl, rfl, Hx, hown, hbel⟩ := hrel
      have Hown := Lib.hid hown
      clear hown
      by_cases hlt : k < n
      · obtain ⟨b, off, rfl, hb, H⟩ := h.at_ (by omega)
        obtain ⟨e, he⟩ := h.get hlt
        obtain ⟨c0, c1, c2, c3⟩ := (H.below hbel hb).q4 he
        have hall := (bills_all Hg.out).2
        have hok := hall e (List.mem_of_getElem? he)
        obtain ⟨_, _, ⟨e1, e2⟩, e3, e4⟩ := billOk_iff.1 hok
        obtain ⟨x1, x2⟩ := payLeft_bd (owner := owner) (es := es.take k) (a := a) (fun e he => hall e (List.mem_of_mem_take he)) p0
        rw [← Hx.out] at x1 x2
        have Hpl : Hid ((payList owner a (es.take k)).length = k) := by show (payList owner a (es.take k)).length = k; rw [payList_len, List.length_take, Hn.out]; omega
        have He := Lib.hid he
        clear he hall hok
        go_wp2_with (first
          | (go_at_call 57; refine (spec_l00Min _ _ _).mono ?_; rintro e' w' ⟨rfl, rfl⟩; have m1 : 0 ≤ min x (e.c - e.d) := (by omega); have m2 : min x (e.c - e.d) ≤ x := (by omega); have m3 : min x (e.c - e.d) ≤ e.c - e.d := (by omega))
          | (at_builtin; refine wpList_push rfl _ _ 32 rfl w.heap.size 26 i0 _ 4 32 Try.underlying32 hi hz0 hz1 hz2 rfl (by omega) Q4.cells_len q4_one _ _ (⟨e.a, e.b, e.c, e.d + min x (e.c - e.d)⟩ : Q4) rfl (own_alloc Hown.out _) _ rfl _ rfl (by first | rfl | simp) (by rw [Hpl.out]; omega) (by omega) (by have := hbel.size; simp; omega) ?_; intro v3 w3 ho3 hg3; have hbel3 := own_grown (below_al hbel _) (own_alloc Hown.out _) (Nat.le_refl _) (by have := hbel.size; simp; omega) hg3; have Ho3 := Lib.hid ho3; clear ho3)
          | (at_builtin; refine wpList_push rfl _ _ 32 rfl w.heap.size 26 i0 _ 4 32 Try.underlying32 hi hz0 hz1 hz2 rfl (by omega) Q4.cells_len q4_one _ _ e rfl (own_alloc Hown.out _) _ rfl _ rfl (by first | rfl | simp) (by rw [Hpl.out]; omega) (by omega) (by have := hbel.size; simp; omega) ?_; intro v3 w3 ho3 hg3; have hbel3 := own_grown (below_al hbel _) (own_alloc Hown.out _) (Nat.le_refl _) (by have := hbel.size; simp; omega) hg3; have Ho3 := Lib.hid ho3; clear ho3))
        · have ho : (e.a == owner) = true := by assumption
          have ho' : e.a = owner := by simpa using ho
          have hq : payQ owner x e = ⟨e.a, e.b, e.c, e.d + min x (e.c - e.d)⟩ := by simp [payQ, payX, ho']
          go_roundw
          case rel => exact ⟨k + 1, _, by omega, by go_num, rfl, Lib.hid (by rw [payLeft_succ He.out, ← Hx.out, payX, if_pos ho']), by rw [payList_succ He.out, ← Hx.out, hq]; exact Ho3.out, hbel3⟩
          case measure => simp [intOf]; omega
        · have ho : (e.a == owner) = false := by assumption
          have ho' : ¬ e.a = owner := by simpa using ho
          have hq : payQ owner x e = e := by simp [payQ, payX, ho']
          go_roundw
          case rel => exact ⟨k + 1, _, by omega, by go_num, rfl, Lib.hid (by rw [payLeft_succ He.out, ← Hx.out, payX, if_neg ho']; omega), by rw [payList_succ He.out, ← Hx.out, hq]; exact Ho3.out, hbel3⟩
          case measure => simp [intOf]; omega
      · go_wp2
        go_ret3
        have hkn : k = n := by omega
        subst hkn
        have hl : List.take k es = es := List.take_of_length_le (by rw [Hn.out]; omega)
        have hs' : payRest es owner a = x := by rw [payRest, if_pos Hk.out, Hx.out, hl]
        have hr : payOut es owner a = payList owner a (es.take k) := by rw [payOut, if_pos Hk.out, hl]
        exact ⟨_, by rw [hs', Hk.out]; rfl, by rw [hr]; exact Hown.out, hbel⟩
  · have hr : payOut es owner a = [] := by simp [payOut, k1]
    have hs : payRest es owner a = 0 := by simp [payRest, k1]
    have hne : (billCode es owner a 1000000000 != 0) = true := by simpa [payCode] using k1
    rw [hr, hs]
    clear hr hs
    go_enter Try.func34, Try.ntmps34
    go_wp2_with (go_at_call 48; refine (spec_l20Code _ _ _ es _ _ _ _ hmax h).mono ?_; rintro e w1 ⟨rfl, hb1⟩)
    go_ret3
    exact ⟨_, rfl, own_nil _ _ _ _ _, hb1⟩
set_option maxHeartbeats 1000000 in
theorem impl_PayBills (A : Option Addr) (n c : Nat) (es : List Q4) (owner a : Int) (w : World) (hmax : n ≤ 1048576) (h : Sl w w.heap.size 4 Q4.cells A n es) :
    Calls Try.prog 35 #[.slice A n c, .int .i64 owner, .int .i64 a] w fun e w' => ∃ v, e = .returned (.tuple #[v, .int .i64 (payRest es owner a), .int .i64 (payCode es owner a)]) ∧ Own w' w.heap.size 26 4 Q4.cells v (payOut es owner a) ∧ Below w.heap.size w w' := by
  by_cases k1 : payCode es owner a = 0
  · obtain ⟨g1, _, g3⟩ := billCode_zero.1 k1
    obtain ⟨p0, p1⟩ := inR_iff.1 g3
    have Hn := Lib.hid h.len
    have Hg := Lib.hid g1
    have k1' : billCode es owner a 1000000000 = 0 := k1
    have Hk := Lib.hid k1
    clear g1 k1 g3
    go_enter Try.func35, Try.ntmps35
    go_wp2_with (first
      | (go_at_call 50; refine (impl_billsCode _ _ _ es _ _ _ hmax h).mono ?_; rintro e w1 ⟨rfl, hb1⟩; rw [k1'])
      | (go_at_call 56; refine (impl_clone_Bill _ _ _ es _ hmax (h.on hb1)).mono ?_; rintro e w2 ⟨v2, rfl, ho2, hb2⟩; obtain ⟨A2, n2, c2, rfl, hl2, _⟩ := own_shape ho2; have Hl2 := Lib.hid hl2; clear hl2; have Ho2 := Lib.hid ho2; clear ho2))
    clear k1'
    have hbel0 := below_then hb1 hb2
    have hn2 : n2 = n := by rw [← Hl2.out, Hn.out]
    subst hn2
    have Ho := Lib.hid (Ho2.out.base_le hb1.size)
    clear Ho2 Hl2
    go_loopw [2, 26] (fun am i wr => ∃ (k : Nat) (x : Int), k ≤ n2 ∧ i = .int .i64 k ∧ am = .int .i64 x ∧ Hid (x = payLeft owner a (es.take k)) ∧ Hid (Own wr w.heap.size 26 4 Q4.cells (.slice A2 n2 c2) (payList owner a (es.take k) ++ es.drop k)) ∧ Below w.heap.size w wr) (fun _ i _ => n2 - (intOf i).toNat)
    case atStart => exact ⟨0, a, by omega, rfl, rfl, Lib.hid rfl, Lib.hid (by simpa [payList] using Ho.out), hbel0⟩
    case round =>
      obtain ⟨k, x, hk, rfl, rfl, Hx, Hown, hbel⟩ := hrel
      by_cases hlt : k < n2
      · obtain ⟨e, he⟩ := h.get hlt
        have hpl : (payList owner a (es.take k)).length = k := by rw [payList_len, List.length_take, Hn.out]; omega
        obtain ⟨g, c3, hv, hgb, hgl, _⟩ := own_block_of (n := n2) Hown.out (by rw [List.length_append, hpl, List.length_drop, Hn.out]; omega) (by omega)
        injection hv with hv1 _ hv3
        subst hv1; subst hv3
        obtain ⟨c0, c1, c2', c3'⟩ := (own_has Hown.out Q4.cells_len).q4 (splice_get hpl he)
        simp only [Nat.zero_add] at c0 c1 c2' c3'
        have hall := (bills_all Hg.out).2
        have hok := hall e (List.mem_of_getElem? he)
        obtain ⟨_, _, ⟨e1, e2⟩, e3, e4⟩ := billOk_iff.1 hok
        obtain ⟨x1, x2⟩ := payLeft_bd (owner := owner) (es := es.take k) (a := a) (fun e he => hall e (List.mem_of_mem_take he)) p0
        rw [← Hx.out] at x1 x2
        have He := Lib.hid he
        have Hpl := Lib.hid hpl
        have m1 : 0 ≤ min x (e.c - e.d) := by omega
        have m2 : min x (e.c - e.d) ≤ x := by omega
        have m3 : min x (e.c - e.d) ≤ e.c - e.d := by omega
        clear he hall hok hpl
        go_wp2_with (go_at_call 42; refine (Bill_open e _ e3 e2 e4).mono ?_; rintro e' w3 ⟨rfl, hb3⟩; have Hown3 := Lib.hid (Own.below (own_alloc Hown.out _) hb3 (Nat.le_refl _)); have hy := ((own_has Hown3.out Q4.cells_len).q4 (splice_get Hpl.out He.out)).2.2.2; simp only [Nat.zero_add] at hy; have hfr := own_free Hown3.out (k * 4 + 3); have hbel3 := below_then (below_al hbel _) hb3)
        · have ho : (e.a == owner) = true := by assumption
          have ho' : e.a = owner := by simpa using ho
          go_roundw
          case rel => exact ⟨k + 1, _, by omega, by go_num, rfl, Lib.hid (by rw [payLeft_succ He.out, ← Hx.out, payX, if_pos ho']; split <;> omega), Lib.hid (by rw [payList_succ He.out, ← Hx.out, ← splice_set Hpl.out He.out]; exact Own.store Q4.cells_len Hown3.out (splice_get Hpl.out He.out) (by omega) (by simp [Q4.cells, payQ, payX, ho']; split <;> omega)), below_st hbel3 _ hgb _⟩
          case measure => simp [intOf]; omega
        · have ho : (e.a == owner) = false := by assumption
          have ho' : ¬ e.a = owner := by simpa using ho
          have hq : payQ owner x e = e := by simp [payQ, payX, ho']
          go_roundw
          case rel => exact ⟨k + 1, _, by omega, by go_num, rfl, Lib.hid (by rw [payLeft_succ He.out, ← Hx.out, payX, if_neg ho']; omega), Lib.hid (by rw [payList_succ He.out, ← Hx.out, hq, ← splice_next He.out]; exact own_alloc Hown.out _), below_al hbel _⟩
          case measure => simp [intOf]; omega
      · go_wp2
        go_ret3
        have hkn : k = n2 := by omega
        subst hkn
        have hl : List.take k es = es := List.take_of_length_le (by rw [Hn.out]; omega)
        have hd : List.drop k es = [] := List.drop_of_length_le (by rw [Hn.out]; omega)
        have hs' : payRest es owner a = x := by rw [payRest, if_pos Hk.out, Hx.out, hl]
        have hr : payOut es owner a = payList owner a (es.take k) ++ es.drop k := by rw [payOut, if_pos Hk.out, hl, hd, List.append_nil]
        exact ⟨_, by rw [hs', Hk.out]; rfl, by rw [hr]; exact Hown.out, hbel⟩
  · have hr : payOut es owner a = [] := by simp [payOut, k1]
    have hs : payRest es owner a = 0 := by simp [payRest, k1]
    have hne : (billCode es owner a 1000000000 != 0) = true := by simpa [payCode] using k1
    rw [hr, hs]
    clear hr hs
    go_enter Try.func35, Try.ntmps35
    go_wp2_with (go_at_call 50; refine (impl_billsCode _ _ _ es _ _ _ hmax h).mono ?_; rintro e w1 ⟨rfl, hb1⟩)
    go_ret3
    exact ⟨_, rfl, own_new_empty _ _ _ _ _ hb1.size, below_al hb1 _⟩

end Go.Proofs.Ytgakpcepjhbhjaa

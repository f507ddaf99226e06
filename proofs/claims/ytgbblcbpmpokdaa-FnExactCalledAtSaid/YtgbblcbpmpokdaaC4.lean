/- Walks over functions of this seat, by contract. Conditions: those that each theorem states. -/
import Derived.Test.YtgbblcbpmpokdaaC3
namespace Go.Proofs.Ytgbblcbpmpokdaa
open Go.RowKit Go.Sort

def lOk (l : List ByteArray) : Bool := decide (l.length ≤ 12) && l.all nameOk
def lsOk (L : List (List ByteArray)) : Bool := L.all lOk && decide (L.length ≤ 5)
set_option maxHeartbeats 400000 in
set_option maxRecDepth 100000 in
theorem impl_all_s (g : Nat) (caps : Array Value) (p : ByteArray → Bool) (A : Option Addr) (n c : Nat) (es : List ByteArray) (w : World) (hmax : n ≤ 1048576) (hcall : ∀ args W, (callFunc g args).run Try.prog W = .ok (.enter g args) W)
    (hso : ∀ (x : ByteArray) (W : World), x ∈ es → Below w.heap.size w W → Calls Try.prog g (#[.string x] ++ caps) W fun e w' => e = .returned (.bool (p x)) ∧ Below W.heap.size W w') (h : Sl w w.heap.size 1 scell A n es) :
    Calls Try.prog 85 #[.slice A n c, .func (.func g) #[] caps] w fun e w' => e = .returned (.bool (es.all p)) ∧ Below w.heap.size w w' := by
  have Hn := Lib.hid h.len
  have HSO := Lib.hid hso
  clear hso
  go_enter Try.func85, Try.ntmps85
  go_wp2
  go_loopw [9] (fun i wr => ∃ k : Nat, k ≤ n ∧ i = .int .i64 k ∧ Hid (∀ (j : Nat) e, j < k → es[j]? = some e → p e = true) ∧ Below w.heap.size w wr) (fun i _ => n - (intOf i).toNat)
  case atStart => exact ⟨0, by omega, rfl, Lib.hid (fun j e hj => by omega), Below.refl _ _⟩
  case round =>
    obtain ⟨k, hk, rfl, Hgood, hbel⟩ := hrel
    by_cases hlt : k < n
    · obtain ⟨b, off, rfl, hb, H⟩ := h.at_ (by omega)
      obtain ⟨e, he⟩ := h.get hlt
      have c0 := (H.below hbel hb).s1 he
      have Hmem := Lib.hid (List.mem_of_getElem? he)
      have He := Lib.hid he
      clear he
      obtain ⟨r, hr⟩ : ∃ r, p e = r := ⟨_, rfl⟩
      have Hr := Lib.hid hr
      go_wp2_with (refine (HSO.out e _ Hmem.out hbel).mono ?_; rintro e' w' ⟨rfl, hb1⟩; have hb2 := below_then hbel hb1; rw [hr])
      · have hne : (!r) = true := by assumption
        go_ret
        exact ⟨ret_bool (by rw [all_no He.out (by rw [Hr.out]; simpa using hne)]), hb2⟩
      · have heq : (!r) = false := by assumption
        go_roundw
        case rel => exact ⟨k + 1, by omega, by go_num, Lib.hid (fun j x hj hx => if h1 : j < k then Hgood.out j x h1 hx else by
          have : j = k := by omega
          subst this; rw [He.out] at hx; injection hx with hx; subst hx; rw [Hr.out]; simpa using heq), hb2⟩
        case measure => simp [intOf]; omega
    · go_wp2
      go_ret
      have hkn : k = n := by omega
      subst hkn
      exact ⟨ret_bool (by symm; rw [all_iff_get]; exact fun j x hx => Hgood.out j x (by rw [← Hn.out]; exact (List.getElem?_eq_some_iff.1 hx).1) hx), hbel⟩
set_option maxHeartbeats 400000 in
set_option maxRecDepth 100000 in
theorem impl_all_ss (g : Nat) (caps : Array Value) (p : List ByteArray → Bool) (A : Option Addr) (n c : Nat) (rs : List R3) (L : List (List ByteArray)) (w : World) (hmax : n ≤ 1048576) (hcall : ∀ args W, (callFunc g args).run Try.prog W = .ok (.enter g args) W)
    (hso : ∀ (r : R3) (x : List ByteArray) (W : World), r ∈ rs → x ∈ L → Sl W W.heap.size 1 scell r.A r.n x → Below w.heap.size w W → Calls Try.prog g (#[.slice r.A r.n r.c] ++ caps) W fun e w' => e = .returned (.bool (p x)) ∧ Below W.heap.size W w') (h : SS w w.heap.size A n rs L) :
    Calls Try.prog 83 #[.slice A n c, .func (.func g) #[] caps] w fun e w' => e = .returned (.bool (L.all p)) ∧ Below w.heap.size w w' := by
  have Hn := Lib.hid h.lenL
  have HSO := Lib.hid hso
  clear hso
  go_enter Try.func83, Try.ntmps83
  go_wp2
  go_loopw [9] (fun i wr => ∃ k : Nat, k ≤ n ∧ i = .int .i64 k ∧ Hid (∀ (j : Nat) e, j < k → L[j]? = some e → p e = true) ∧ Below w.heap.size w wr) (fun i _ => n - (intOf i).toNat)
  case atStart => exact ⟨0, by omega, rfl, Lib.hid (fun j e hj => by omega), Below.refl _ _⟩
  case round =>
    obtain ⟨k, hk, rfl, Hgood, hbel⟩ := hrel
    by_cases hlt : k < n
    · obtain ⟨b, off, rfl, hb, H⟩ := h.top.at_ (by omega)
      obtain ⟨x, e, hx, he, hS⟩ := h.get hlt
      have c0 := (H.below hbel hb).r1 hx
      have HX := Lib.hid (List.mem_of_getElem? hx)
      have HS := Lib.hid (hS.on hbel)
      clear hx hS
      have Hmem := Lib.hid (List.mem_of_getElem? he)
      have He := Lib.hid he
      clear he
      obtain ⟨r, hr⟩ : ∃ r, p e = r := ⟨_, rfl⟩
      have Hr := Lib.hid hr
      go_wp2_with (refine (HSO.out x e _ HX.out Hmem.out HS.out hbel).mono ?_; rintro e' w' ⟨rfl, hb1⟩; have hb2 := below_then hbel hb1; rw [hr])
      · have hne : (!r) = true := by assumption
        go_ret
        exact ⟨ret_bool (by rw [all_no He.out (by rw [Hr.out]; simpa using hne)]), hb2⟩
      · have heq : (!r) = false := by assumption
        go_roundw
        case rel => exact ⟨k + 1, by omega, by go_num, Lib.hid (fun j y hj hy => if h1 : j < k then Hgood.out j y h1 hy else by
          have : j = k := by omega
          subst this; rw [He.out] at hy; injection hy with hy; subst hy; rw [Hr.out]; simpa using heq), hb2⟩
        case measure => simp [intOf]; omega
    · go_wp2
      go_ret
      have hkn : k = n := by omega
      subst hkn
      exact ⟨ret_bool (by symm; rw [all_iff_get]; exact fun j x hx => Hgood.out j x (by rw [← Hn.out]; exact (List.getElem?_eq_some_iff.1 hx).1) hx), hbel⟩
set_option maxRecDepth 100000 in
theorem impl_areLists_1 (A : Option Addr) (n c : Nat) (l : List ByteArray) (w : World) (hmax : n ≤ 1048576) (hz : ∀ e ∈ l, e.size ≤ 1048576) (h : Sl w w.heap.size 1 scell A n l) :
    Calls Try.prog 84 #[.slice A n c] w fun e w' => e = .returned (.bool (lOk l)) ∧ Below w.heap.size w w' := by
  have HZ := Lib.hid hz
  have hl := h.len
  by_cases hn : n ≤ 12
  · have ho : lOk l = l.all nameOk := by simp [lOk, hl, hn]
    rw [ho]
    have hn' : (n : Int) ≤ 12 := by omega
    clear ho hl hz
    go_enter Try.func84, Try.ntmps84
    go_wp2_with fail
    refine (impl_all_s 86 #[] nameOk A n c l _ hmax (fun _ _ => by kernel_rfl) (fun x W hx _ => (impl_IsName x W (by have := HZ.out x hx; unfold maxLen; omega)).mono (by rintro e w' ⟨rfl, rfl⟩; exact ⟨rfl, Below.refl _ _⟩)) h).mono ?_
    rintro e w1 ⟨rfl, hb1⟩
    go_wp2_with fail
    go_ret
    exact ⟨rfl, hb1⟩
  · have ho : lOk l = false := by simp [lOk, hl, hn]
    rw [ho]
    have hn' : ¬ (n : Int) ≤ 12 := by omega
    clear ho hl hz
    go_enter Try.func84, Try.ntmps84
    go_wp2_with fail
    go_ret
    exact ⟨rfl, Below.refl _ _⟩
set_option maxRecDepth 100000 in
theorem impl_areLists (A : Option Addr) (n c : Nat) (rs : List R3) (L : List (List ByteArray)) (w : World) (hmax : n ≤ 1048576) (hr : ∀ r ∈ rs, r.n ≤ 1048576) (hz : ∀ l ∈ L, ∀ e ∈ l, e.size ≤ 1048576) (h : SS w w.heap.size A n rs L) :
    Calls Try.prog 55 #[.slice A n c] w fun e w' => e = .returned (.bool (lsOk L)) ∧ Below w.heap.size w w' := by
  have HZ := Lib.hid hz
  have HR := Lib.hid hr
  have hl := h.lenL
  by_cases hn : n ≤ 5
  · have ho : lsOk L = L.all lOk := by simp [lsOk, hl, hn]
    rw [ho]
    have hn' : (n : Int) ≤ 5 := by omega
    clear ho hl hz hr
    go_enter Try.func55, Try.ntmps55
    go_wp2_with fail
    refine (impl_all_ss 84 #[] lOk A n c rs L _ hmax (fun _ _ => by kernel_rfl) (fun r x W hrr hx hS _ => impl_areLists_1 r.A r.n r.c x W (HR.out r hrr) (HZ.out x hx) hS) h).mono ?_
    rintro e w1 ⟨rfl, hb1⟩
    go_wp2_with fail
    go_ret
    exact ⟨rfl, hb1⟩
  · have ho : lsOk L = false := by simp [lsOk, hl, hn]
    rw [ho]
    have hn' : ¬ (n : Int) ≤ 5 := by omega
    clear ho hl hz hr
    go_enter Try.func55, Try.ntmps55
    go_wp2_with fail
    go_ret
    exact ⟨rfl, Below.refl _ _⟩
set_option maxHeartbeats 1000000 in
theorem spec_l16Lists (A : Option Addr) (n c : Nat) (rs : List R3) (L : List (List ByteArray)) (w : World) (hmax : n ≤ 1048576) (hr : ∀ r ∈ rs, r.n ≤ 1048576) (hz : ∀ l ∈ L, ∀ e ∈ l, e.size ≤ 1048576) (h : SS w w.heap.size A n rs L) :
    Calls Try.prog 52 #[.slice A n c] w fun e w' => e = .returned (.bool (lsOk L)) ∧ w = w' := by
  have HZ := Lib.hid hz
  have HR := Lib.hid hr
  have HL := Lib.hid h.lenL
  clear hz hr
  go_enter Try.func52, Try.ntmps52
  go_wp2
  go_loopw [3] (fun i wr => ∃ k : Nat, k ≤ n ∧ i = .int .i64 k ∧ w = wr ∧ Hid (∀ (j : Nat) l, j < k → L[j]? = some l → lOk l = true)) (fun i _ => n - (intOf i).toNat)
  case atStart => exact ⟨0, by omega, rfl, rfl, Lib.hid (fun j l hj => by omega)⟩
  case round =>
    obtain ⟨k, hk, rfl, rfl, Hg⟩ := hrel
    by_cases hlt : k < n
    · obtain ⟨x, l, hx, hl, hS⟩ := h.get hlt
      obtain ⟨b, off, rfl, hb, H⟩ := h.top.at_ (by omega)
      have c0 := H.r1 hx
      have hxn := HR.out x (List.mem_of_getElem? hx)
      have HLZ := Lib.hid (HZ.out l (List.mem_of_getElem? hl))
      have He := Lib.hid hl
      have HS := Lib.hid hS
      have Hll := Lib.hid hS.len
      clear hx hl hS
      by_cases hn : 12 < x.n
      · have hn' : (12 : Int) < (x.n : Int) := by omega
        go_wp2
        go_ret
        exact ⟨ret_bool (by
          symm
          have : L.all lOk = false := all_no He.out (by have := Hll.out; simp [lOk]; intro h1; omega)
          simp [lsOk, this]), rfl⟩
      · have hn' : ¬ (12 : Int) < (x.n : Int) := by omega
        go_wp2_with fail
        go_loopw [4] (fun i wr => ∃ q : Nat, q ≤ x.n ∧ i = .int .i64 q ∧ w = wr ∧ Hid (∀ (j : Nat) s, j < q → l[j]? = some s → nameOk s = true)) (fun i _ => x.n - (intOf i).toNat)
        case atStart => exact ⟨0, by omega, rfl, rfl, Lib.hid (fun j l hj => by omega)⟩
        case round =>
          obtain ⟨q, hq, rfl, rfl, Hgq⟩ := hrel
          by_cases hqt : q < x.n
          · obtain ⟨s, hs⟩ := HS.out.get hqt
            obtain ⟨b2, off2, hA2, hb2, H2⟩ := HS.out.at_ (by omega)
            rw [hA2] at c0
            have d0 := H2.s1 hs
            have Hs := Lib.hid hs
            have hsz := HLZ.out s (List.mem_of_getElem? hs)
            clear hs hA2
            obtain ⟨r, hr⟩ : ∃ r, nameOk s = r := ⟨_, rfl⟩
            have Hr := Lib.hid hr
            clear hr
            go_wp2_with fail
            refine (spec_IsName s _ (by unfold maxLen; omega)).mono ?_
            rintro e w1 ⟨rfl, rfl⟩
            rw [Hr.out]
            cases r with
            | false =>
              go_wp2_with fail
              go_ret
              exact ⟨ret_bool (by
                symm
                have h1 : l.all nameOk = false := all_no Hs.out Hr.out
                have : L.all lOk = false := all_no He.out (by simp [lOk, h1])
                simp [lsOk, this]), rfl⟩
            | true =>
              go_wp2_with fail
              go_roundw
              case rel => exact ⟨q + 1, by omega, by go_num, by first | exact trivial | exact rfl, Lib.hid (fun j y hj hy => by
                rcases Nat.lt_or_ge j q with h2 | h2
                · exact Hgq.out j y h2 hy
                · have : j = q := by omega
                  subst this; rw [Hs.out] at hy; injection hy with hy; subst hy; exact Hr.out)⟩
              case measure => simp [intOf]; omega
          · go_wp2_with fail
            go_roundw
            case rel => exact ⟨k + 1, by omega, by go_num, by first | exact trivial | exact rfl, Lib.hid (fun j y hj hy => by
              rcases Nat.lt_or_ge j k with h2 | h2
              · exact Hg.out j y h2 hy
              · have : j = k := by omega
                subst this; rw [He.out] at hy; injection hy with hy; subst hy
                have h1 : l.all nameOk = true := by rw [all_iff_get]; exact fun j s hs => Hgq.out j s (by have := (List.getElem?_eq_some_iff.1 hs).1; have := Hll.out; omega) hs
                have := Hll.out
                simp [lOk, h1]; omega)⟩
            case measure => simp [intOf]; omega
    · go_wp2
      go_ret
      exact ⟨ret_bool (by
        symm
        have h1 : L.all lOk = true := by rw [all_iff_get]; exact fun j l hl => Hg.out j l (by have := (List.getElem?_eq_some_iff.1 hl).1; have := HL.out; omega) hl
        rw [lsOk, h1, Bool.true_and, HL.out]
        exact decide_eq_decide.2 (by omega)), rfl⟩

end Go.Proofs.Ytgbblcbpmpokdaa

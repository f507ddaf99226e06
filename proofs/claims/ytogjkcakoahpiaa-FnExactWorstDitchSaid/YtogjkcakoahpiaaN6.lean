/- Walks over functions of this seat, by contract. Conditions: those that each theorem states. -/
import Derived.Test.YtogjkcakoahpiaaN4
namespace Go.Proofs.Ytogjkcakoahpiaa
open Go.RowKit Go.Sort

theorem grown_cell {w w' : World} {q b o : Nat} (h : w.grownBy w' (some q)) (hb : b < w.heap.size) (hne : b ≠ q) : w'.cell? ⟨b, o, none⟩ = w.cell? ⟨b, o, none⟩ := by
  have e := h.block b hb (by simp; omega)
  unfold World.cell?
  simp only [e]
theorem grown_on {w w' : World} {q b o : Nat} {v : Value} (x : w.cell? ⟨b, o, none⟩ = some v) (h : w.grownBy w' (some q)) (hb : b < w.heap.size) (hne : b ≠ q) : w'.cell? ⟨b, o, none⟩ = some v := (grown_cell h hb hne).trans x
theorem sl_grown {α : Type} {w w' : World} {q sz n : Nat} {f : α → List Value} {A : Option Addr} {es : List α} (h : Sl w q sz f A n es) (hg : w.grownBy w' (some q)) (hq : q < w.heap.size) : Sl w' q sz f A n es :=
  h.keep fun p hp => by
    obtain ⟨b, o, s⟩ := p
    have hb : b < q := hp
    have e := hg.block b (by omega) (by simp; omega)
    unfold World.cell?
    simp only [e]
theorem getD_some' {α : Type} {l : List α} {k : Nat} {x : α} (h : l[k]? = some x) : k < l.length := (List.getElem?_eq_some_iff.1 h).1
set_option maxHeartbeats 4000000 in
set_option maxRecDepth 100000 in
theorem spec_l04Push (Jn sn : Nat) (A : Option Addr) (n c cf q B base : Nat) (es : List Q3) (fl : List Int) (t : Int) (b g sb bb : Nat) (w : World) (L : List Int) (how : Int → Nat) (sl : List Bool) (bl : List Int)
    (hok : netOk Jn es = true) (h : Sl w q 3 Q3.cells A n es) (hbq : b < q) (hqB : q < B)
    (x1 : w.cell? ⟨b, 1, none⟩ = some (.slice A n c)) (hS : WSt w B g sb bb Jn es fl (sn : Int) L how sl bl) (h0 : (0 : Int) ∈ L) (hf : IsFlow es (sn : Int) fl t)
    (hO : Own w base 2 1 icell (.slice (some ⟨q, 0, none⟩) n cf) fl) (hq : q < w.heap.size) :
    Calls Try.prog 88 #[.pointer (some ⟨b, 0, none⟩), .slice (some ⟨q, 0, none⟩) n cf, .pointer (some ⟨g, 0, none⟩), .int .i64 (sn : Int)] w fun e w' =>
      e = .returned (.tuple #[]) ∧ ∃ fl', IsFlow es (sn : Int) fl' (t + 1) ∧ Own w' base 2 1 icell (.slice (some ⟨q, 0, none⟩) n cf) fl' ∧ w.grownBy w' (some q) := by
  obtain ⟨⟨j1, j2⟩, hn20, hall⟩ := netOk_iff.1 hok
  have HALL := Lib.hid (all_iff_get.1 hall)
  have Hn := Lib.hid h.len
  have hn20' : n ≤ 20 := by have := h.len; omega
  obtain ⟨i, hi, hi0⟩ := List.mem_iff_getElem.1 h0
  have hi0' : L[i]? = some 0 := by rw [List.getElem?_eq_getElem hi, hi0]
  have HS := Lib.hid hS
  have HO := Lib.hid hO
  have HG0 := Lib.hid (Going.start (L := L) (how := how) hf hi0')
  have hne : ∀ (k : Nat) d, es[k]? = some d → d.a ≠ d.b := fun k d hd => (dOk_iff.1 (HALL.out k d hd)).2.2.1
  have HNE := Lib.hid hne
  have hgb := hS.gb
  obtain ⟨gb1, gb2, gb3, gb4, gb5, gb6⟩ := hgb
  clear hok hall hS hO hf hne hi hi0 hi0' h0
  go_enter Try.func88, Try.ntmps88
  go_wp2_with fail
  go_loopg [8] i (fun gi av wr => ∃ (v : Nat) (gl : List Int), av = .int .i64 v ∧ v < Jn ∧ Hid (Going es fl (sn : Int) L how t gi (v : Int) gl) ∧ Hid (Own wr base 2 1 icell (.slice (some ⟨q, 0, none⟩) n cf) gl) ∧ w.grownBy wr (some q))
  case atStart => exact ⟨0, fl, rfl, by omega, HG0, HO, World.grownBy.refl w _⟩
  case round =>
    obtain ⟨v, gl, rfl, hvJ, HG, HOl, hgr⟩ := hrel
    by_cases hgz : gk = 0
    · have hv : (v : Int) = (sn : Int) := (HG.out.at_src HS.out.tree).2 hgz
      have HD := Lib.hid (Going.done HS.out.tree (by rw [← hgz]; exact HG.out))
      go_wp2_with fail
      go_end0
      exact ⟨rfl, gl, HD.out, HOl.out, hgr⟩
    have hvs : ¬ (v : Int) = (sn : Int) := fun e => hgz ((HG.out.at_src HS.out.tree).1 e)
    obtain ⟨d, f, hd, hfk, hf0, hfc, hcase⟩ := Going.next HS.out.tree HG.out HNE.out (by omega)
    obtain ⟨⟨a1, a2⟩, ⟨b1, b2⟩, hab, c1, c2⟩ := dOk_iff.1 (HALL.out _ d hd)
    obtain ⟨k, hk⟩ : ∃ k, how (v : Int) = k := ⟨_, rfl⟩
    rw [hk] at hd hfk hcase
    have hkn : k < n := by have := getD_some' hd; have := Hn.out; omega
    have hvL : (v : Int) ∈ L := List.mem_of_getElem? HG.out.here
    have hvia := HS.out.via v d hvL hvs (by rw [hk]; exact hd)
    rw [hk, Hn.out] at hvia
    have y0 := grown_on HS.out.g1 hgr gb2 (by omega)
    have y1 := grown_on (own_i0 HS.out.bo hvia) hgr gb6 (by omega)
    have y2 := own_i0 HOl.out hfk
    have y3 := own_free HOl.out k
    have y4 := grown_on x1 hgr (by omega) (by omega)
    obtain ⟨b', off, hA, hb', H⟩ := (sl_grown h hgr hq).at_ (by omega)
    rw [hA] at y4
    obtain ⟨d0, d1, d2⟩ := H.q3 hd
    have hv0 : (0 : Int) ≤ (v : Int) := by omega
    have hv1 : (v : Int) < (Jn : Int) := by omega
    have hk0 : (0 : Int) ≤ (k : Int) := by omega
    have hk1 : (k : Int) < (n : Int) := by omega
    have Hd := Lib.hid hd
    have Hfk := Lib.hid hfk
    have hkl : k < gl.length := getD_some' hfk
    clear hd hfk hvia hvL hA H
    obtain ⟨da, db, dc⟩ := d
    dsimp only at *
    obtain ⟨ea, rfl⟩ : ∃ x : Nat, da = (x : Int) := ⟨da.toNat, by omega⟩
    obtain ⟨eb, rfl⟩ : ∃ x : Nat, db = (x : Int) := ⟨db.toNat, by omega⟩
    rcases hcase with ⟨e1, e2, e3, j, hj, hgo⟩ | ⟨e1, e2, e3, j, hj, hgo⟩
    · rw [if_pos e1] at y1
      have Hgo := Lib.hid hgo
      have he1 := Lib.hid e1
      have he2 := Lib.hid e2
      clear hgo e1 e2
      have hw1 : IntKind.i64.wrap (f + 1) = f + 1 := by rw [IntKind.wrap_i64]; omega
      go_wp2_with fail
      go_roundg j
      case measure => exact hj
      case rel => exact ⟨ea, gl.set k (f + 1), rfl, by omega, Hgo, Lib.hid (own_iset HOl.out hkl _), only_st hgr _ _⟩
    · rw [if_neg e1] at y1
      have Hgo := Lib.hid hgo
      have he1 := Lib.hid e1
      have he2 := Lib.hid e2
      clear hgo e1 e2
      have hw1 : IntKind.i64.wrap (f - 1) = f - 1 := by rw [IntKind.wrap_i64]; omega
      have hw2 : IntKind.i64.wrap ((k : Int) - (n : Int) + (n : Int)) = (k : Int) := by rw [IntKind.wrap_i64]; omega
      have hw3 : IntKind.i64.wrap (k : Int) = (k : Int) := by rw [IntKind.wrap_i64]; omega
      have hneg : ¬ (0 : Int) ≤ (k : Int) - (n : Int) := by omega
      go_wp2_with fail
      go_roundg j
      case measure => exact hj
      case rel => exact ⟨eb, gl.set k (f - 1), rfl, by omega, Hgo, Lib.hid (own_iset HOl.out hkl _), only_st hgr _ _⟩

end Go.Proofs.Ytogjkcakoahpiaa

/- Walks over functions of this seat, by contract. Conditions: those that each theorem states. -/
import Derived.Test.YtogjkcakoahpiaaN8
import Derived.Deep.RegionHeld3
namespace Go.Proofs.Ytogjkcakoahpiaa
open Go.RowKit Go.Sort

/-- what impl's reached hands back: all that can be reached, and the map of the ways -/
def ROut (w w' : World) (lv : Value) (B Jn : Nat) (es : List Q3) (fl : List Int) (src : Int) : Prop :=
  ∃ L val how nn, Own w' w.heap.size 2 1 icell lv (idxs (fun i => decide ((i : Int) ∈ L)) Jn) ∧ Mp w' B nn L val ∧ B < w'.heap.size ∧ w.heap.size ≤ B ∧ Tree es fl src L how ∧ (∀ v ∈ L, v ≠ src → val v = (how v : Int)) ∧ val src = -1 ∧
    (∀ v ∈ L, 0 ≤ v ∧ v < (Jn : Int)) ∧ (∀ u v, u ∈ L → Res es fl u v → v ∈ L) ∧ Below w.heap.size w w'
/-- closed at the junctions in front of place i -/
def ClosedAt (es : List Q3) (fl : List Int) (L M : List Int) (i : Nat) : Prop := ∀ (p : Nat) u v, p < i → L[p]? = some u → Res es fl u v → v ∈ M
/-- closed at junction u as far as ditch k -/
def ClosedU (es : List Q3) (fl : List Int) (M : List Int) (u : Int) (k : Nat) : Prop :=
  ∀ (j : Nat) d f, j < k → es[j]? = some d → fl[j]? = some f → (d.a = u → f < d.c → d.b ∈ M) ∧ (d.b = u → 0 < f → d.a ∈ M)
theorem addL_len (L : List Int) (j : Int) : L.length ≤ (addL L j).length := by unfold addL; split <;> simp
theorem own_one (w : World) (E base : Nat) (x : Int) (hb : base ≤ w.heap.size) : Own (w.alloc (.cells #[.int .i64 x] E)) base E 1 icell (.slice (some ⟨w.heap.size, 0, none⟩) 1 1) [x] :=
  ⟨rfl, .inr ⟨w.heap.size, 1, #[.int .i64 x], rfl, hb, heap_alloc_new w _, Nat.le_refl _, by unfold maxLen; simp, rfl, rfl⟩⟩
open Go.Maps in
theorem reached_start (Jn sn : Nat) (A : Option Addr) (n c : Nat) (es : List Q3) (fl : List Int) (w w1 : World) (hsJ : sn < Jn)
    (hB : w1.ownsMap Try.prog 2 (plainElem (H := Unit) Try.prog 2) (w.heap.size + 1 + 1 + 1) (0 + 1) ((DataW.map []).put (.int .i64 (sn : Int)) (.lit (.int .i64 (-1)))))
    (hG : ((((w.alloc (.cells #[.int .i64 (Jn : Int), .slice A n c] 30)).alloc (.cells #[.int .i64 (sn : Int)] 2)).alloc (.cells #[.slice (some ⟨w.heap.size + 1, 0, none⟩) 1 1] 34)).alloc (.map #[] 0)).grownBy w1 (some (w.heap.size + 1 + 1 + 1))) (v : Value) (hv : v = .map (some (w.heap.size + 1 + 1 + 1))) :
    RA w (w1.alloc (.cells #[v] 81)) (w.heap.size + 1 + 1 + 1) w1.heap.size (w.heap.size + 1 + 1) w.heap.size Jn A n c es fl (sn : Int) (.slice (some ⟨w.heap.size + 1, 0, none⟩) 1 1) 1 [(sn : Int)] (fun _ => -1) (fun _ => 0) := by
  subst hv
  have hsz := hG.size
  simp at hsz
  have hM : Maps.IsMap (DataW.map [] : DataW Unit) := ⟨_, rfl⟩
  have k0 : (((w.alloc (.cells #[.int .i64 (Jn : Int), .slice A n c] 30)).alloc (.cells #[.int .i64 (sn : Int)] 2)).alloc (.cells #[.slice (some ⟨w.heap.size + 1, 0, none⟩) 1 1] 34)).cell? ⟨w.heap.size + 1 + 1, 0, none⟩ = some (.slice (some ⟨w.heap.size + 1, 0, none⟩) 1 1) := by
    simpa using box_new (Below.refl (((w.alloc (.cells #[.int .i64 (Jn : Int), .slice A n c] 30)).alloc (.cells #[.int .i64 (sn : Int)] 2)).alloc (.cells #[.slice (some ⟨w.heap.size + 1, 0, none⟩) 1 1] 34)).heap.size (((w.alloc (.cells #[.int .i64 (Jn : Int), .slice A n c] 30)).alloc (.cells #[.int .i64 (sn : Int)] 2)).alloc (.cells #[.slice (some ⟨w.heap.size + 1, 0, none⟩) 1 1] 34)))
  have k1 := box2k (Below.refl (w.alloc (.cells #[.int .i64 (Jn : Int), .slice A n c] 30)).heap.size (w.alloc (.cells #[.int .i64 (Jn : Int), .slice A n c] 30)))
  have o1 : Own ((w.alloc (.cells #[.int .i64 (Jn : Int), .slice A n c] 30)).alloc (.cells #[.int .i64 (sn : Int)] 2)) w.heap.size 2 1 icell (.slice (some ⟨w.heap.size + 1, 0, none⟩) 1 1) [(sn : Int)] := by
    simpa using own_one (w.alloc (.cells #[.int .i64 (Jn : Int), .slice A n c] 30)) 2 w.heap.size (sn : Int) (by simp)
  have o2 := own_other (own_alloc (own_alloc o1 (.cells #[.slice (some ⟨w.heap.size + 1, 0, none⟩) 1 1] 34)) (.map #[] 0)) (.inr (by simp [Value.ownBlock])) hG
  have f0 : (((w.alloc (.cells #[.int .i64 (Jn : Int), .slice A n c] 30)).alloc (.cells #[.int .i64 (sn : Int)] 2)).alloc (.cells #[.slice (some ⟨w.heap.size + 1, 0, none⟩) 1 1] 34)).frozen? ⟨w.heap.size + 1 + 1, 0, none⟩ = false := by
    have he := heap_alloc_new ((w.alloc (.cells #[.int .i64 (Jn : Int), .slice A n c] 30)).alloc (.cells #[.int .i64 (sn : Int)] 2)) (.cells #[.slice (some ⟨w.heap.size + 1, 0, none⟩) 1 1] 34)
    have hs : ((w.alloc (.cells #[.int .i64 (Jn : Int), .slice A n c] 30)).alloc (.cells #[.int .i64 (sn : Int)] 2)).heap.size = w.heap.size + 1 + 1 := by simp
    rw [hs] at he
    simp only [World.frozen?, he]; simp
  have hb4 : Below (((w.alloc (.cells #[.int .i64 (Jn : Int), .slice A n c] 30)).alloc (.cells #[.int .i64 (sn : Int)] 2)).alloc (.cells #[.slice (some ⟨w.heap.size + 1, 0, none⟩) 1 1] 34)).heap.size (((w.alloc (.cells #[.int .i64 (Jn : Int), .slice A n c] 30)).alloc (.cells #[.int .i64 (sn : Int)] 2)).alloc (.cells #[.slice (some ⟨w.heap.size + 1, 0, none⟩) 1 1] 34)) ((((w.alloc (.cells #[.int .i64 (Jn : Int), .slice A n c] 30)).alloc (.cells #[.int .i64 (sn : Int)] 2)).alloc (.cells #[.slice (some ⟨w.heap.size + 1, 0, none⟩) 1 1] 34)).alloc (.map #[] 0)) := below_al (Below.refl _ _) _
  have g1 := grownO hG (b := w.heap.size + 1 + 1) (by simp) (by simp)
  have g2 := grownO hG (b := w.heap.size) (by simp; omega) (by simp; omega)
  have hb5 := below_al (Below.refl _ w1) (.cells #[.map (some (w.heap.size + 1 + 1 + 1))] 81)
  refine ⟨⟨⟨_, (hB.alloc _).mono (Nat.le_refl _), fun x hx => ?_⟩, own_alloc o2 _, ?_, ?_, ?_, by omega, by simp [Value.ownBlock]; omega, by simp; omega⟩, Tree.start _ _ _ _, fun x hx hne => absurd (by simpa using hx) hne, rfl, fun x hx => ?_, by simp, ?_, ?_, ?_⟩
  · by_cases hxj : x = (sn : Int)
    · subst hxj
      rw [Maps.has_put_same hM (by trivial), Maps.atKey_put_same hM (by trivial)]
      simp
    · have hne : (Lit.int .i64 x) ≠ (Lit.int .i64 (sn : Int)) := fun e => by injection e with _ e; exact hxj e
      rw [Maps.has_put_other hne]
      refine ⟨by simp [hxj, Maps.has], fun hm => absurd (by simpa using hm) hxj⟩
  · exact box_new (Below.refl _ _)
  · exact cell_on ((g1.1 0).trans (cell_on k0 hb4 (by simp))) hb5 (by omega)
  · exact free_on ((g1.2 0).trans (free_on f0 hb4 (by simp))) hb5 (by omega)
  · have : x = (sn : Int) := by simpa using hx
    omega
  · exact cell_on ((g2.1 0).trans (cell_on (cell_on (cell_on k1.1 (below_al (Below.refl _ _) (.cells #[.int .i64 (sn : Int)] 2)) (by simp)) (below_al (Below.refl _ _) (.cells #[.slice (some ⟨w.heap.size + 1, 0, none⟩) 1 1] 34)) (by simp; omega)) hb4 (by simp; omega))) hb5 (by omega)
  · exact cell_on ((g2.1 1).trans (cell_on (cell_on (cell_on k1.2 (below_al (Below.refl _ _) (.cells #[.int .i64 (sn : Int)] 2)) (by simp)) (below_al (Below.refl _ _) (.cells #[.slice (some ⟨w.heap.size + 1, 0, none⟩) 1 1] 34)) (by simp; omega)) hb4 (by simp; omega))) hb5 (by omega)
  · have h1 : Below w.heap.size w ((((w.alloc (.cells #[.int .i64 (Jn : Int), .slice A n c] 30)).alloc (.cells #[.int .i64 (sn : Int)] 2)).alloc (.cells #[.slice (some ⟨w.heap.size + 1, 0, none⟩) 1 1] 34)).alloc (.map #[] 0)) := below_al (below_al (below_al (below_al (Below.refl _ _) _) _) _) _
    exact below_al (Below.grown h1 hG (by simp; omega) (fun x hx => by injection hx with hx; omega)) _
set_option maxHeartbeats 8000000 in
set_option maxRecDepth 100000 in
open Go.Maps in
theorem impl_reached (Jn sn : Nat) (A F : Option Addr) (n c cf : Nat) (es : List Q3) (fl : List Int) (w : World) (hok : netOk Jn es = true) (hs0 : 1 ≤ sn) (hs : sn < Jn)
    (h : Sl w w.heap.size 3 Q3.cells A n es) (hF : Sl w w.heap.size 1 icell F n fl) :
    Calls Try.prog 55 #[.agg #[.int .i64 (Jn : Int), .slice A n c], .int .i64 (sn : Int), .slice F n cf] w fun e w' =>
      ∃ lv B, e = .returned (.tuple #[lv, .map (some B)]) ∧ ROut w w' lv B Jn es fl (sn : Int) := by
  obtain ⟨⟨j1, j2⟩, hn20, hall⟩ := netOk_iff.1 hok
  have hJ : Jn ≤ 10 := by omega
  have HALL := Lib.hid (all_iff_get.1 hall)
  have Hn := Lib.hid h.len
  have Hm := Lib.hid hF.len
  have hn20' : n ≤ 20 := by have := h.len; omega
  clear hok hall
  have hmm := @run_makeMap Try.prog
  have hkey : keyOf Try.prog 2 (.int .i64 (sn : Int)) = some (.int .i64 (sn : Int)) := keyOf_int_mk Try.underlying2 (wf64 (by omega) (by omega))
  obtain ⟨w1, hrun, hown1, hgrow1⟩ := (World.ownsMap_made (H := Unit) (((w.alloc (.cells #[.int .i64 (Jn : Int), .slice A n c] 30)).alloc (.cells #[.int .i64 (sn : Int)] 2)).alloc (.cells #[.slice (some ⟨w.heap.size + 1, 0, none⟩) 1 1] 34)) Try.prog 2 (plainElem Try.prog 2)).update lawK Try.underlying81 (by unfold maxLen; omega) hkey (plainElem_int (H := Unit) Try.underlying2 (wf64 (n := -1) (by omega) (by omega)))
  have e3 : (((w.alloc (.cells #[.int .i64 (Jn : Int), .slice A n c] 30)).alloc (.cells #[.int .i64 (sn : Int)] 2)).alloc (.cells #[.slice (some ⟨w.heap.size + 1, 0, none⟩) 1 1] 34)).heap.size = w.heap.size + 1 + 1 + 1 := by simp
  rw [e3] at hrun hown1 hgrow1
  have HB1 := Lib.hid hown1
  have HG1 := Lib.hid hgrow1
  clear hown1 hgrow1 e3 hkey
  go_enter Try.func55, Try.ntmps55
  go_wp2_with fail
  have HR0 := Lib.hid (reached_start Jn sn A n c es fl w w1 hs HB1.out HG1.out _ rfl)
  obtain ⟨w2, hw2⟩ : ∃ w2, w1.alloc (.cells #[.map (some (w.heap.size + 1 + 1 + 1))] 81) = w2 := ⟨_, rfl⟩
  have hBs : w.heap.size + 1 + 1 + 1 + 1 ≤ w1.heap.size := by have := HG1.out.size; simpa using this
  rw [hw2] at HR0 ⊢
  clear hw2 hrun HB1 HG1
  go_loopg [11] 11 (fun gk iv wr => ∃ (k : Nat) (lv : Value) (nn : Nat) (L : List Int) (val : Int → Int) (how : Int → Nat), iv = .int .i64 k ∧ k ≤ L.length ∧ gk + k = 11 ∧ Hid (RA w wr (w.heap.size + 1 + 1 + 1) w1.heap.size (w.heap.size + 1 + 1) w.heap.size Jn A n c es fl (sn : Int) lv nn L val how) ∧ Hid (ClosedAt es fl L L k))
  case atStart => exact ⟨0, _, _, _, _, _, rfl, by omega, by omega, HR0, Lib.hid (fun p u v hp => by omega)⟩
  case round =>
    obtain ⟨k, lv, nn, L, val, how, rfl, hk, hgk, HR, HCl⟩ := hrel
    clear HR0
    have hLJ := HR.out.len
    have hpos : 0 < L.length := (List.getElem?_eq_some_iff.1 HR.out.t.head).1
    have HLo := Lib.hid HR.out.r.lo
    obtain ⟨lb, lc, hlv, hlbC, hlbw, _⟩ := own_block_of HR.out.r.lo rfl hpos
    subst hlv
    have y0 := HR.out.r.cl
    by_cases hlt : k < L.length
    rotate_left
    · have hkL : k = L.length := by omega
      have HSO : ∀ (i : Nat) (W : World), i < Jn → Below wr.drew.heap.size wr.drew W → Calls Try.prog 98 (#[.int .i64 (i : Int)] ++ #[.pointer (some ⟨w.heap.size + 1 + 1, 0, none⟩)]) W fun e w' => e = .returned (.bool (hasB L (i : Int))) ∧ Below W.heap.size W w' := fun i W _ hW =>
        impl_reached2 (w.heap.size + 1 + 1) _ L (i : Int) W w.heap.size (HLo.out.below (below_then (below_dr (Below.refl _ wr)) hW) (Nat.le_refl _)) (cell_on y0 (below_then (below_dr (Below.refl _ wr)) hW) HR.out.r.ge.2.2.2.2.2.1) (by omega)
      have z0 := HR.out.b0
      have z1 := HR.out.r.cm
      have z2 := HR.out.r.ge.2.2.2.2.1
      have z3 := HR.out.r.ge.2.2.2.2.2.2
      have hidx : idxs (fun i => hasB L (i : Int)) Jn = idxs (fun i => decide ((i : Int) ∈ L)) Jn := by
        congr 1; funext i; rw [Bool.eq_iff_iff, hasB_iff, decide_eq_true_iff]
      have Hidx := Lib.hid hidx
      clear hidx
      go_wp2_with fail
      go_region_held3 (fun w' => w'.cell? ⟨w.heap.size, 0, none⟩ = some (.int .i64 (Jn : Int)) ∧ w'.cell? ⟨w1.heap.size, 0, none⟩ = some (.map (some (w.heap.size + 1 + 1 + 1)))) (go_keep)
        (first
          | (go_at_call 97; refine (impl_indicesWhere 98 #[.pointer (some ⟨w.heap.size + 1 + 1, 0, none⟩)] Jn (fun i => hasB L (i : Int)) wr.drew (by omega) (fun _ _ => by kernel_rfl) HSO).mono ?_; rintro e w3 ⟨v, rfl, ho, hb3⟩; have v0 := cell_on z0 (below_then (below_dr (Below.refl _ wr)) hb3) z3; have v1 := cell_on z1 (below_then (below_dr (Below.refl _ wr)) hb3) z2))
      have hb4 := below_then (below_dr (Below.refl _ wr)) hb3
      have HO := Lib.hid ho
      have HR3 := Lib.hid (HR.out.on hb4)
      have hbs := HR.out.bel.size
      clear ho z0 z1 z2 z3 HSO y0
      go_wp2_with fail
      go_ret2
      refine ⟨v, w.heap.size + 1 + 1 + 1, rfl, L, val, how, nn, ?_, HR3.out.r.mp, HR3.out.r.ge.2.2.2.1, by omega, HR.out.t, HR.out.link, HR.out.root, HR.out.inn, ?_, HR3.out.bel⟩
      · rw [← Hidx.out]; exact HO.out.base_le hbs
      · intro u x hu hres
        obtain ⟨p, hp, hpu⟩ := List.mem_iff_getElem.1 hu
        exact HCl.out p u x (by omega) (by rw [List.getElem?_eq_getElem hp, hpu]) hres
    obtain ⟨u, hu⟩ : ∃ u, L[k]? = some u := ⟨_, List.getElem?_eq_getElem hlt⟩
    have Hu := Lib.hid hu
    have hmemu := List.mem_of_getElem? hu
    have HMu := Lib.hid hmemu
    clear hu hmemu
    have x0 := HR.out.b1
    go_wp2_with fail
    clear x0 y0
    obtain ⟨wo, hwo⟩ : ∃ wo : World, wo = wr := ⟨_, rfl⟩
    subst hwo
    obtain ⟨gn, hgn⟩ : ∃ x : Nat, x = gk := ⟨_, rfl⟩
    subst hgn
    go_loopg [29] n (fun gj jv wr => ∃ (j : Nat) (lv : Value) (nn : Nat) (L2 : List Int) (val : Int → Int) (how : Int → Nat), jv = .int .i64 j ∧ j ≤ n ∧ gj + j = n ∧ Hid (RA w wr (w.heap.size + 1 + 1 + 1) w1.heap.size (w.heap.size + 1 + 1) w.heap.size Jn A n c es fl (sn : Int) lv nn L2 val how) ∧ Hid ((∀ x ∈ L, x ∈ L2) ∧ (∀ p, p < L.length → L2[p]? = L[p]?) ∧ L.length ≤ L2.length) ∧ Hid (ClosedU es fl L2 u j))
    case atStart => exact ⟨0, _, _, L, _, _, rfl, by omega, by omega, HR, Lib.hid ⟨fun x h => h, fun _ _ => rfl, Nat.le_refl _⟩, Lib.hid (fun p d f hp => by omega)⟩
    case round =>
      obtain ⟨j, lv, nn, L2, val, how, rfl, hj, hgj, HR2, HP, HU⟩ := hrel
      by_cases hjn : j < n
      rotate_left
      · have hjn' : j = n := by omega
        subst hjn'
        go_wp2_with fail
        go_roundg (gn - 1)
        case measure => omega
        case rel =>
          obtain ⟨p1, p2, p3⟩ := HP.out
          refine ⟨k + 1, lv, nn, L2, val, how, by go_num, by omega, by omega, HR2, Lib.hid (fun p x y hp hx hres => ?_)⟩
          by_cases hpk : p < k
          · have hx' : L[p]? = some x := by rw [← p2 p (by omega)]; exact hx
            exact p1 y (HCl.out p x y hpk hx' hres)
          · have hp' : p = k := by omega
            subst hp'
            rw [p2 p hlt, Hu.out] at hx
            injection hx with hx
            subst hx
            obtain ⟨q, d, f, hd, hf, hc⟩ := hres
            obtain ⟨c1, c2⟩ := HU.out q d f (by rw [← Hn.out]; exact (List.getElem?_eq_some_iff.1 hd).1) hd hf
            rcases hc with ⟨h1, h2, h3⟩ | ⟨h1, h2, h3⟩
            · rw [← h2]; exact c1 h1 h3
            · rw [← h2]; exact c2 h1 h3
      have hbel2 := HR2.out.bel
      have hsz2 := hbel2.size
      have hLJ2 := HR2.out.len
      have hnl2 := HR2.out.nl
      have hpos2 : 0 < L2.length := by have := HP.out.2.2; omega
      have hkl2 : k < L2.length := by have := HP.out.2.2; omega
      have HLo2 := Lib.hid HR2.out.r.lo
      obtain ⟨lb2, lc2, hlv2, hlbC2, hlbw2, _⟩ := own_block_of HR2.out.r.lo rfl hpos2
      subst hlv2
      have l0 := own_i0 HLo2.out (k := k) (x := u) (by rw [HP.out.2.1 k hlt]; exact Hu.out)
      obtain ⟨e, he⟩ := h.get hjn
      obtain ⟨f, hf⟩ := hF.get hjn
      obtain ⟨b', off, rfl, hb', H⟩ := h.at_ (by omega)
      obtain ⟨bf, offf, rfl, hbf, HFl⟩ := hF.at_ (by omega)
      obtain ⟨⟨a1, a2⟩, ⟨b1, b2⟩, hab, c1, c2⟩ := dOk_iff.1 (HALL.out j e he)
      obtain ⟨ea', eb', ec⟩ := e
      dsimp only at a1 a2 b1 b2 hab c1 c2
      obtain ⟨ea, rfl⟩ : ∃ x : Nat, ea' = (x : Int) := ⟨ea'.toNat, by omega⟩
      obtain ⟨eb, rfl⟩ : ∃ x : Nat, eb' = (x : Int) := ⟨eb'.toNat, by omega⟩
      obtain ⟨d0, d1, d2⟩ := (H.below hbel2 hb').q3 he
      have f0 := (HFl.below hbel2 hbf).i1 hf
      dsimp only at d0 d1 d2
      have y0 := HR2.out.r.cl
      have hblw := HR2.out.r.ge.2.2.2.2.2.1
      have f0q := cell_ra f0 (by omega)
      have l0q := cell_ra l0 hlbw2
      have y0q := cell_ra y0 hblw
      have hki0 : (0 : Int) ≤ (k : Int) := by omega
      have hki1 : (k : Int) < (L2.length : Int) := by omega
      have He := Lib.hid he
      have Hf := Lib.hid hf
      clear he hf l0 f0 y0
      obtain ⟨q0, q1, q2⟩ : (∀ d os, (grow (redrawn (wr.alloc (.cells #[.int .i64 (ea : Int), .int .i64 (eb : Int), .int .i64 ec] 118)) d) os).cell? ⟨wr.heap.size, 0, none⟩ = some (.int .i64 (ea : Int))) ∧ (∀ d os, (grow (redrawn (wr.alloc (.cells #[.int .i64 (ea : Int), .int .i64 (eb : Int), .int .i64 ec] 118)) d) os).cell? ⟨wr.heap.size, 1, none⟩ = some (.int .i64 (eb : Int))) ∧ (∀ d os, (grow (redrawn (wr.alloc (.cells #[.int .i64 (ea : Int), .int .i64 (eb : Int), .int .i64 ec] 118)) d) os).cell? ⟨wr.heap.size, 2, none⟩ = some (.int .i64 ec)) :=
        ⟨fun d os => (box3c wr _ _ _ _ d os).1, fun d os => (box3c wr _ _ _ _ d os).2.1, fun d os => (box3c wr _ _ _ _ d os).2.2⟩
      go_wp2_with fail
      go_cut [49] (fun s wx => ∃ p : Bool, s = .bool p ∧ Hid (p = true ↔ ((ea : Int) = u ∧ f < ec)) ∧ Below (wr.alloc (.cells #[.int .i64 (ea : Int), .int .i64 (eb : Int), .int .i64 ec] 118)).heap.size (wr.alloc (.cells #[.int .i64 (ea : Int), .int .i64 (eb : Int), .int .i64 ec] 118)) wx)
      case first =>
        rcases Bool.eq_false_or_eq_true ((ea : Int) == u) with hbq | hbq <;> by_cases hfc : f < ec
        all_goals
          refine wp_region_quiet_below (by kernel_rfl) (by kernel_rfl) ?_
          repeat (go_big_quiet_step (fail))
          refine wpQuiet_nil ?_
          intro wq hwq
          have hbx := below_of_class hwq
          have hbq2 := hbq
          simp only [beq_iff_eq, beq_eq_false_iff_ne] at hbq2
          have Hbq := Lib.hid hbq2
          clear hwq f0q l0q y0q q0 q1 q2 hbq2
          go_wp2_with fail
          go_meet
          exact ⟨_, rfl, Lib.hid (by have := Hbq.out; simp [this, hfc]), hbx⟩
      case rest =>
      obtain ⟨p, rfl, Hp, hbx⟩ := hcut
      obtain ⟨w4, hw4⟩ : ∃ x : World, x = wc := ⟨_, rfl⟩
      subst hw4
      clear f0q l0q y0q q0 q1 q2 d0 d1 d2
      have hbx1 := below_then (below_al (Below.refl _ wr) (.cells #[.int .i64 (ea : Int), .int .i64 (eb : Int), .int .i64 ec] 118)) hbx
      obtain ⟨z0, z1, z2⟩ := box3k hbx
      have zl : wr.heap.size < w4.heap.size := by have := hbx.size; simp at this; omega
      have HR4 := Lib.hid (HR2.out.on hbx1)
      clear hbx
      go_upto_if 49 with fail
      go_cut [] (fun wx => ∃ (lv3 : Value) (nn3 : Nat) (L3 : List Int) (val3 : Int → Int) (how3 : Int → Nat), Hid (RA w wx (w.heap.size + 1 + 1 + 1) w1.heap.size (w.heap.size + 1 + 1) w.heap.size Jn (some ⟨b', off, none⟩) n c es fl (sn : Int) lv3 nn3 L3 val3 how3) ∧ Hid ((∀ x ∈ L2, x ∈ L3) ∧ (∀ p, p < L2.length → L3[p]? = L2[p]?) ∧ L2.length ≤ L3.length) ∧ Hid ((ea : Int) = u → f < ec → (eb : Int) ∈ L3) ∧
        wx.cell? ⟨wr.heap.size, 0, none⟩ = some (.int .i64 (ea : Int)) ∧ wx.cell? ⟨wr.heap.size, 1, none⟩ = some (.int .i64 (eb : Int)) ∧ wr.heap.size < wx.heap.size)
      case first =>
        cases p with
        | true =>
          obtain ⟨heu, hfc⟩ := Hp.out.1 rfl
          have Heu := Lib.hid heu
          clear heu
          go_wp2_with (go_at_call 96; refine (impl_add w.heap.size (w.heap.size + 1 + 1 + 1) w1.heap.size (w.heap.size + 1 + 1) w.heap.size _ nn L2 val (eb : Int) (j : Int) _ HR4.out.r (by omega) (by omega) (by omega) (by omega) (by omega) (by omega)).mono ?_; rintro e w5 ⟨rfl, lv', nn', hn', hr', hb', hk'⟩)
          obtain ⟨⟨how', hra⟩, hm1, hm2, hm3⟩ := HR4.out.add He.out Hf.out (u := u) (v := (eb : Int)) (by rw [← Heu.out]; rw [Heu.out]; exact HP.out.1 u HMu.out) (by omega) (by omega) (.inl ⟨Heu.out, rfl, hfc⟩) hn' hr' hb' hk'
          have hDB : wr.heap.size ≠ w.heap.size + 1 + 1 + 1 := by have := HR2.out.r.ge.2.2.2.1; omega
          have hDb : wr.heap.size ≠ w.heap.size + 1 + 1 := by omega
          have hDl : (Value.slice (some ⟨lb2, 0, none⟩) L2.length lc2).ownBlock ≠ some wr.heap.size := by simp [Value.ownBlock]; omega
          have HRA := Lib.hid hra
          have Hm := Lib.hid (And.intro hm1 (And.intro hm2 hm3))
          clear hra hm1 hm2 hm3 hr'
          try go_wp2_with fail
          go_meet
          refine ⟨lv', nn', _, _, how', HRA, Lib.hid ⟨Hm.out.2.1, Hm.out.2.2, ?_⟩, Lib.hid (fun _ _ => Hm.out.1), (hk' _ zl hDB hDb hDl 0).trans z0, (hk' _ zl hDB hDb hDl 1).trans z1, Nat.lt_of_lt_of_le zl hb'.size⟩
          exact addL_len _ _
        | false =>
          go_wp2_with fail
          go_meet
          exact ⟨_, nn, L2, val, how, HR4, Lib.hid ⟨fun x hx => hx, fun _ _ => rfl, Nat.le_refl _⟩, Lib.hid (fun h1 h2 => absurd (Hp.out.2 ⟨h1, h2⟩) (by simp)), z0, z1, zl⟩
      case rest =>
      obtain ⟨lv3, nn3, L3, val3, how3, HR3, HP3, HC3, z0, z1, zl⟩ := hcut
      obtain ⟨w6, hw6⟩ : ∃ x : World, x = wc := ⟨_, rfl⟩
      subst hw6
      clear HR4 Hp
      have hbel3 := HR3.out.bel
      have hsz3 := hbel3.size
      have hLJ3 := HR3.out.len
      have hnl3 := HR3.out.nl
      have hpos3 : 0 < L3.length := by have := HP3.out.2.2; omega
      have hkl3 : k < L3.length := by have := HP3.out.2.2; omega
      have HLo3 := Lib.hid HR3.out.r.lo
      obtain ⟨lb3, lc3, hlv3, hlbC3, hlbw3, _⟩ := own_block_of HR3.out.r.lo rfl hpos3
      subst hlv3
      have l0 := own_i0 HLo3.out (k := k) (x := u) (by rw [HP3.out.2.1 k hkl2, HP.out.2.1 k hlt]; exact Hu.out)
      have f0 := (HFl.below hbel3 hbf).i1 Hf.out
      have y0 := HR3.out.r.cl
      have hblw3 := HR3.out.r.ge.2.2.2.2.2.1
      have f0q := fun d os => cell_regrown f0 d os
      have l0q := fun d os => cell_regrown l0 d os
      have y0q := fun d os => cell_regrown y0 d os
      have q0 := fun d os => cell_regrown z0 d os
      have q1 := fun d os => cell_regrown z1 d os
      have hkj1 : (k : Int) < (L3.length : Int) := by omega
      clear l0 f0 y0
      go_upto_region 12 with fail
      go_cut [68] (fun s wx => ∃ p : Bool, s = .bool p ∧ Hid (p = true ↔ ((eb : Int) = u ∧ 0 < f)) ∧ Below w6.heap.size w6 wx)
      case first =>
        rcases Bool.eq_false_or_eq_true ((eb : Int) == u) with hbq | hbq <;> by_cases hfc : 0 < f
        all_goals
          refine wp_region_quiet_below (by kernel_rfl) (by kernel_rfl) ?_
          repeat (go_big_quiet_step (fail))
          refine wpQuiet_nil ?_
          intro wq hwq
          have hbx := below_of_class hwq
          have hbq2 := hbq
          simp only [beq_iff_eq, beq_eq_false_iff_ne] at hbq2
          have Hbq := Lib.hid hbq2
          clear hwq f0q l0q y0q q0 q1 hbq2
          go_wp2_with fail
          go_meet
          exact ⟨_, rfl, Lib.hid (by have := Hbq.out; simp [this, hfc]), hbx⟩
      case rest =>
      obtain ⟨p, rfl, Hp, hbx⟩ := hcut
      obtain ⟨w7, hw7⟩ : ∃ x : World, x = wc := ⟨_, rfl⟩
      subst hw7
      clear f0q l0q y0q q0 q1
      have z0 := cell_on z0 hbx zl
      have z1 := cell_on z1 hbx zl
      have HR7 := Lib.hid (HR3.out.on hbx)
      go_upto_if 68 with fail
      cases p with
      | true =>
        obtain ⟨heu, hfc⟩ := Hp.out.1 rfl
        have Heu := Lib.hid heu
        clear heu
        go_wp2_with (go_at_call 96; refine (impl_add w.heap.size (w.heap.size + 1 + 1 + 1) w1.heap.size (w.heap.size + 1 + 1) w.heap.size _ nn3 L3 val3 (ea : Int) (j : Int) _ HR7.out.r (by omega) (by omega) (by omega) (by omega) (by omega) (by omega)).mono ?_; rintro e w5 ⟨rfl, lv', nn', hn', hr', hb', hk'⟩; obtain ⟨⟨how', hra⟩, hm1, hm2, hm3⟩ := HR7.out.add He.out Hf.out (u := u) (v := (ea : Int)) (HP3.out.1 u (HP.out.1 u HMu.out)) (by omega) (by omega) (.inr ⟨Heu.out, rfl, hfc⟩) hn' hr' hb' hk'; have HRA := Lib.hid hra; have Hm := Lib.hid (And.intro hm1 (And.intro hm2 hm3)); clear hra hm1 hm2 hm3 hr')
        go_roundg (gk - 1)
        case measure => omega
        case rel =>
          refine ⟨j + 1, lv', nn', _, _, how', by go_num, by omega, by omega, HRA, Lib.hid ⟨fun x hx => Hm.out.2.1 x (HP3.out.1 x (HP.out.1 x hx)), fun q hq => ?_, ?_⟩, Lib.hid (fun q d' f' hq hd' hf' => ?_)⟩
          · rw [Hm.out.2.2 q (by have := HP3.out.2.2; have := HP.out.2.2; omega), HP3.out.2.1 q (by have := HP.out.2.2; omega), HP.out.2.1 q hq]
          · have := HP3.out.2.2
            have := HP.out.2.2
            have := addL_len L3 (ea : Int)
            omega
          · by_cases hqj : q < j
            · obtain ⟨h1, h2⟩ := HU.out q d' f' hqj hd' hf'
              exact ⟨fun g1 g2 => Hm.out.2.1 _ (HP3.out.1 _ (h1 g1 g2)), fun g1 g2 => Hm.out.2.1 _ (HP3.out.1 _ (h2 g1 g2))⟩
            · have hq' : q = j := by omega
              subst hq'
              rw [He.out] at hd'
              rw [Hf.out] at hf'
              injection hd' with hd'
              injection hf' with hf'
              subst hd'
              subst hf'
              exact ⟨fun g1 g2 => Hm.out.2.1 _ (HC3.out g1 g2), fun _ _ => Hm.out.1⟩
      | false =>
        go_wp2_with fail
        go_roundg (gk - 1)
        case measure => omega
        case rel =>
          refine ⟨j + 1, _, nn3, L3, val3, how3, by go_num, by omega, by omega, HR7, Lib.hid ⟨fun x hx => HP3.out.1 x (HP.out.1 x hx), fun q hq => ?_, ?_⟩, Lib.hid (fun q d' f' hq hd' hf' => ?_)⟩
          · rw [HP3.out.2.1 q (by have := HP.out.2.2; omega), HP.out.2.1 q hq]
          · have := HP3.out.2.2
            have := HP.out.2.2
            omega
          · by_cases hqj : q < j
            · obtain ⟨h1, h2⟩ := HU.out q d' f' hqj hd' hf'
              exact ⟨fun g1 g2 => HP3.out.1 _ (h1 g1 g2), fun g1 g2 => HP3.out.1 _ (h2 g1 g2)⟩
            · have hq' : q = j := by omega
              subst hq'
              rw [He.out] at hd'
              rw [Hf.out] at hf'
              injection hd' with hd'
              injection hf' with hf'
              subst hd'
              subst hf'
              exact ⟨fun g1 g2 => HC3.out g1 g2, fun g1 g2 => absurd (Hp.out.2 ⟨g1, g2⟩) (by simp)⟩

end Go.Proofs.Ytogjkcakoahpiaa

/- Walks over functions of this seat, by contract. Conditions: those that each theorem states. -/
import Derived.Test.YtiibamemkmffoaaP8
namespace Go.Proofs.Ytiibamemkmffoaa
open Go.RowKit Go.Sort

theorem own_store4 {w : World} {base E g n c k : Nat} {es : List Q4} {e : Q4} (h : Own w base E 4 Q4.cells (.slice (some ⟨g, 0, none⟩) n c) es) (he : es[k]? = some e) (x0 x1 x2 x3 : Int) :
    Own ((((w.setCell ⟨g, k * 4, none⟩ (.int .i64 x0)).setCell ⟨g, k * 4 + 1, none⟩ (.int .i64 x1)).setCell ⟨g, k * 4 + 2, none⟩ (.int .i64 x2)).setCell ⟨g, k * 4 + 3, none⟩ (.int .i64 x3)) base E 4 Q4.cells (.slice (some ⟨g, 0, none⟩) n c) (es.set k ⟨x0, x1, x2, x3⟩) := by
  have hk : k < es.length := (List.getElem?_eq_some_iff.1 he).1
  have hs : ∀ x : Q4, (es.set k x)[k]? = some x := fun x => by rw [List.getElem?_set_self hk]
  have h0 := Own.store (j := 0) (u := .int .i64 x0) (e' := ⟨x0, e.b, e.c, e.d⟩) Q4.cells_len h he (by omega) rfl
  have h1 := Own.store (j := 1) (u := .int .i64 x1) (e' := ⟨x0, x1, e.c, e.d⟩) Q4.cells_len h0 (hs _) (by omega) rfl
  rw [List.set_set] at h1
  have h2 := Own.store (j := 2) (u := .int .i64 x2) (e' := ⟨x0, x1, x2, e.d⟩) Q4.cells_len h1 (hs _) (by omega) rfl
  rw [List.set_set] at h2
  have h3 := Own.store (j := 3) (u := .int .i64 x3) (e' := ⟨x0, x1, x2, x3⟩) Q4.cells_len h2 (hs _) (by omega) rfl
  rw [List.set_set] at h3
  simp only [Nat.add_zero] at h3
  exact h3
theorem sellOut_len (es : List Q4) (id owner : Int) : (sellOut es id owner).length ≤ es.length := by
  unfold sellOut
  split
  · split
    · rw [List.length_set]; omega
    · simp
  · simp
set_option maxHeartbeats 1000000 in
theorem spec_SellParcel (A : Option Addr) (n c : Nat) (es : List Q4) (id owner : Int) (w : World) (hmax : n ≤ 1048576) (h : Sl w w.heap.size 4 Q4.cells A n es) :
    Calls Try.prog 35 #[.slice A n c, .int .i64 id, .int .i64 owner] w fun e w' => ∃ v, e = .returned (.tuple #[v, .int .i64 (sellCode es id owner)]) ∧ Own w' w.heap.size 46 4 Q4.cells v (sellOut es id owner) ∧ Below w.heap.size w w' := by
  obtain ⟨i0, hi, hz0, hz1, hz2⟩ := info_parts info_Parcel
  by_cases g1 : parcelsOk es = true
  · by_cases g2 : idOk id = true
    · have g2' : inR id 1 9999 = true := g2
      by_cases k3 : inR owner 0 39 = true
      · by_cases k2 : fnd es id < es.length
        · obtain ⟨e, he0, _⟩ := fi_get k2
          obtain ⟨k, hk⟩ : ∃ k, fnd es id = k := ⟨_, rfl⟩
          have hf : fndR es id = (k : Int) := by rw [fndR, if_pos k2, hk]
          have he : es[k]? = some e := by rw [← hk]; exact he0
          have hkn : k < n := by rw [← h.len, ← hk]; exact k2
          obtain ⟨b, off, rfl, hb, H⟩ := h.at_ (by omega)
          have he1 : es[fnd es id]? = some e := he0
          by_cases k4 : (e.b == owner) = true
          · have hc : sellCode es id owner = 6 := by rw [sellCode_at g1 g2 k3 k2 he1]; simp [k4]
            rw [hc, sellOut_neg (by omega)]
            clear hc he1 he0 k2 hk
            go_enter Try.func35, Try.ntmps35
            go_wp2_with (first
              | (go_at_call 47; refine (spec_l19Ok _ _ _ es _ hmax h).mono ?_; rintro e' w1 ⟨rfl, hb1⟩; rw [g1]; have hbb := hb1)
              | (go_at_call 60; refine (spec_l19Id _ _).mono ?_; rintro e' w' ⟨rfl, rfl⟩; rw [g2'])
              | (go_at_call 50; refine (spec_l19Owner _ _).mono ?_; rintro e' w' ⟨rfl, rfl⟩; rw [k3])
              | (go_at_call 61; refine (spec_l19Find _ _ _ es _ _ hmax (h.on hb1)).mono ?_; rintro e' w2 ⟨rfl, hb2⟩; rw [hf]; have hbb := below_then hb1 hb2; obtain ⟨c0, c1, c2, c3⟩ := (H.below hbb hb).q4 he))
            go_ret2
            exact ⟨_, rfl, own_nil _ _ _ _ _, hbb⟩
          · have k4' : (e.b == owner) = false := by simpa using k4
            have hc : sellCode es id owner = 0 := by rw [sellCode_at g1 g2 k3 k2 he1]; simp [k4]
            rw [hc, sellOut_pos hc hk he]
            clear hc he1 he0 k2 hk k4
            have He := Lib.hid he
            go_enter Try.func35, Try.ntmps35
            go_wp2_with (first
              | (go_at_call 47; refine (spec_l19Ok _ _ _ es _ hmax h).mono ?_; rintro e' w1 ⟨rfl, hb1⟩; rw [g1]; have hbb := hb1)
              | (go_at_call 60; refine (spec_l19Id _ _).mono ?_; rintro e' w' ⟨rfl, rfl⟩; rw [g2'])
              | (go_at_call 50; refine (spec_l19Owner _ _).mono ?_; rintro e' w' ⟨rfl, rfl⟩; rw [k3])
              | (go_at_call 61; refine (spec_l19Find _ _ _ es _ _ hmax (h.on hb1)).mono ?_; rintro e' w2 ⟨rfl, hb2⟩; rw [hf]; have hbb := below_then hb1 hb2; obtain ⟨c0, c1, c2, c3⟩ := (H.below hbb hb).q4 he)
              | (at_builtin; refine wpList_app rfl _ _ 25 rfl w.heap.size 46 i0 _ 4 32 Try.underlying25 hi hz0 hz1 hz2 rfl (by omega) Q4.cells_len q4_one _ ([] : List Q4) es rfl (own_new_empty _ _ _ _ _ hbb.size) w.heap.size _ n c rfl (h.below (below_al hbb _)) (by simp) (by omega) (by omega) (by have := hbb.size; simp; omega) ?_; intro v3 w3 ho3 hg3; rw [List.nil_append] at ho3; have hb3 := own_grown (below_al hbb (.cells #[] 46)) (own_new_empty _ w.heap.size _ 4 Q4.cells hbb.size) (Nat.le_refl _) (by have := hbb.size; simp; omega) hg3; obtain ⟨g3, cc3, rfl, hg3, hg4, hfr⟩ := own_block_of ho3 h.len (by omega); obtain ⟨y0, y1, y2, y3⟩ := (own_has ho3 Q4.cells_len).q4 he; simp only [Nat.zero_add] at y0 y1 y2 y3; clear he))
            go_ret2
            exact ⟨_, rfl, own_alloc (own_store4 ho3 He.out _ _ _ _) _, below_al (below_st (below_st (below_st (below_st hb3 _ hg3 _) _ hg3 _) _ hg3 _) _ hg3 _) _⟩
        · have hf : fndR es id = -1 := by rw [fndR, if_neg k2]
          have hc : sellCode es id owner = 3 := by
            unfold sellCode; rw [if_neg (by simp [g1]), if_neg (by simp [g2, k3]), if_neg k2]
          rw [hc, sellOut_neg (by omega)]
          clear hc k2
          go_enter Try.func35, Try.ntmps35
          go_wp2_with (first
            | (go_at_call 47; refine (spec_l19Ok _ _ _ es _ hmax h).mono ?_; rintro e' w1 ⟨rfl, hb1⟩; rw [g1]; have hbb := hb1)
            | (go_at_call 60; refine (spec_l19Id _ _).mono ?_; rintro e' w' ⟨rfl, rfl⟩; rw [g2'])
            | (go_at_call 50; refine (spec_l19Owner _ _).mono ?_; rintro e' w' ⟨rfl, rfl⟩; rw [k3])
            | (go_at_call 61; refine (spec_l19Find _ _ _ es _ _ hmax (h.on hb1)).mono ?_; rintro e' w2 ⟨rfl, hb2⟩; rw [hf]; have hbb := below_then hb1 hb2))
          go_ret2
          exact ⟨_, rfl, own_nil _ _ _ _ _, hbb⟩
      · have k3' : inR owner 0 39 = false := by simpa using k3
        have hc : sellCode es id owner = 2 := by
          unfold sellCode; rw [if_neg (by simp [g1]), if_pos (by simp [k3'])]
        rw [hc, sellOut_neg (by omega)]
        clear hc k3
        go_enter Try.func35, Try.ntmps35
        go_wp2_with (first
          | (go_at_call 47; refine (spec_l19Ok _ _ _ es _ hmax h).mono ?_; rintro e' w1 ⟨rfl, hb1⟩; rw [g1]; have hbb := hb1)
          | (go_at_call 60; refine (spec_l19Id _ _).mono ?_; rintro e' w' ⟨rfl, rfl⟩; rw [g2'])
          | (go_at_call 50; refine (spec_l19Owner _ _).mono ?_; rintro e' w' ⟨rfl, rfl⟩; rw [k3']))
        go_ret2
        exact ⟨_, rfl, own_nil _ _ _ _ _, hbb⟩
    · have g2' : inR id 1 9999 = false := by simpa [idOk] using g2
      have hc : sellCode es id owner = 2 := by
        unfold sellCode; rw [if_neg (by simp [g1]), if_pos (by simp [g2])]
      rw [hc, sellOut_neg (by omega)]
      clear hc g2
      go_enter Try.func35, Try.ntmps35
      go_wp2_with (first
        | (go_at_call 47; refine (spec_l19Ok _ _ _ es _ hmax h).mono ?_; rintro e' w1 ⟨rfl, hb1⟩; rw [g1]; have hbb := hb1)
        | (go_at_call 60; refine (spec_l19Id _ _).mono ?_; rintro e' w' ⟨rfl, rfl⟩; rw [g2'])
        | (go_at_call 50; refine (spec_l19Owner _ _).mono ?_; rintro e' w' ⟨rfl, rfl⟩; rw [k3']))
      go_ret2
      exact ⟨_, rfl, own_nil _ _ _ _ _, hbb⟩
  · have g1' : parcelsOk es = false := by simpa using g1
    have hc : sellCode es id owner = 1 := by unfold sellCode; rw [if_pos g1']
    rw [hc, sellOut_neg (by omega)]
    clear hc g1
    go_enter Try.func35, Try.ntmps35
    go_wp2_with (first
      | (go_at_call 47; refine (spec_l19Ok _ _ _ es _ hmax h).mono ?_; rintro e' w1 ⟨rfl, hb1⟩; rw [g1']; have hbb := hb1))
    go_ret2
    exact ⟨_, rfl, own_nil _ _ _ _ _, hbb⟩

end Go.Proofs.Ytiibamemkmffoaa

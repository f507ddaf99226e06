/- Walks over functions of this seat, by contract. Conditions: those that each theorem states. -/
import Derived.Test.YtiibamemkmffoaaP7
namespace Go.Proofs.Ytiibamemkmffoaa
open Go.RowKit Go.Sort

theorem q4_one (e : Q4) (u : Value) (hu : u ∈ e.cells) : u.oneCell' = true := by
  simp only [Q4.cells, List.mem_cons, List.not_mem_nil, or_false] at hu
  rcases hu with rfl | rfl | rfl | rfl <;> rfl
theorem impl_clone_Parcel (A : Option Addr) (n c : Nat) (es : List Q4) (w : World) (hmax : n ≤ 1048576) (h : Sl w w.heap.size 4 Q4.cells A n es) :
    Calls Try.prog 62 #[.slice A n c] w fun e w' => ∃ v, e = .returned v ∧ Own w' w.heap.size 46 4 Q4.cells v es ∧ Below w.heap.size w w' := by
  obtain ⟨i0, hi, hz0, hz1, hz2⟩ := info_parts info_Parcel
  go_enter Try.func62, Try.ntmps62
  go_wp2_with (at_builtin; refine wpList_app rfl _ _ 25 rfl w.heap.size 46 i0 _ 4 32 Try.underlying25 hi hz0 hz1 hz2 rfl (by omega) Q4.cells_len q4_one _ ([] : List Q4) es rfl (own_new_empty w w.heap.size _ 4 Q4.cells (Nat.le_refl _)) w.heap.size A n c rfl (h.below (below_al (Below.refl _ _) _)) (by simp) (by omega) (by omega) (by simp) ?_; intro v2 w2 ho2 hg2; have hb2 := own_grown (below_al (Below.refl _ w) (.cells #[] 46)) (own_new_empty w w.heap.size _ 4 Q4.cells (Nat.le_refl _)) (Nat.le_refl _) (by simp) hg2)
  go_ret
  exact ⟨_, rfl, by simpa using ho2, hb2⟩
def sellCode (es : List Q4) (id owner : Int) : Int :=
  if parcelsOk es = false then 1 else if (idOk id && inR owner 0 39) = false then 2 else
  if fnd es id < es.length then (if (es[fnd es id]?).any (fun q => q.b == owner) = true then 6 else 0) else 3
def sellOut (es : List Q4) (id owner : Int) : List Q4 := if sellCode es id owner = 0 then (match es[fnd es id]? with | some q => es.set (fnd es id) ⟨q.a, owner, q.c, q.d⟩ | none => []) else []
theorem sellOut_pos {es : List Q4} {id owner : Int} {k : Nat} {e : Q4} (h : sellCode es id owner = 0) (hk : fnd es id = k) (he : es[k]? = some e) : sellOut es id owner = es.set k ⟨e.a, owner, e.c, e.d⟩ := by
  rw [sellOut, if_pos h, hk, he]
theorem sellCode_at {es : List Q4} {id owner : Int} {e : Q4} (g1 : parcelsOk es = true) (g2 : idOk id = true) (g3 : inR owner 0 39 = true) (k2 : fnd es id < es.length) (he : es[fnd es id]? = some e) :
    sellCode es id owner = if (e.b == owner) = true then 6 else 0 := by
  unfold sellCode
  rw [if_neg (by simp [g1]), if_neg (by simp [g2, g3]), if_pos k2, he]
  rfl
theorem sellOut_neg {es : List Q4} {id owner : Int} (h : sellCode es id owner ≠ 0) : sellOut es id owner = [] := if_neg h
theorem idsCode_one {es : List Q4} {id : Int} : idsCode es [id] = 0 ↔ parcelsOk es = true ∧ idOk id = true := by
  unfold idsCode; cases parcelsOk es <;> cases hx : idOk id <;> simp [hx]
set_option maxHeartbeats 1000000 in
theorem impl_SellParcel (A : Option Addr) (n c : Nat) (es : List Q4) (id owner : Int) (w : World) (hmax : n ≤ 1048576) (h : Sl w w.heap.size 4 Q4.cells A n es) :
    Calls Try.prog 36 #[.slice A n c, .int .i64 id, .int .i64 owner] w fun e w' => ∃ v, e = .returned (.tuple #[v, .int .i64 (sellCode es id owner)]) ∧ Own w' w.heap.size 46 4 Q4.cells v (sellOut es id owner) ∧ Below w.heap.size w w' := by
  have hal := below_al (Below.refl w.heap.size w) (.cells #[.int .i64 id] 2)
  have hsl := h.on hal
  have hids := (sl_box1 w id 2)
  by_cases k0 : idsCode es [id] = 0
  · obtain ⟨g1, g2⟩ := idsCode_one.1 k0
    have hr := parcels_rise g1
    have ht := thr_fnd (id := id) hr
    by_cases k2 : fnd es id < es.length
    · obtain ⟨e, he0, _⟩ := fi_get k2
      obtain ⟨k, hk⟩ : ∃ k, fnd es id = k := ⟨_, rfl⟩
      have hp : pat es id = k := by rw [← hk]; exact pat_fnd hr k2
      have ht' : thr es id = true := by rw [ht]; simp [k2]
      have he : es[k]? = some e := by rw [← hk]; exact he0
      have hkn : k < n := by rw [← h.len, ← hk]; exact k2
      obtain ⟨b, off, rfl, hb, H⟩ := h.at_ (by omega)
      have he1 : es[fnd es id]? = some e := he0
      by_cases k3 : inR owner 0 39 = true
      · by_cases k4 : (e.b == owner) = true
        · have hc : sellCode es id owner = 6 := by rw [sellCode_at g1 g2 k3 k2 he1]; simp [k4]
          rw [hc, sellOut_neg (by omega)]
          clear hc he1 he0 ht hr g1 g2 k2
          go_enter Try.func36, Try.ntmps36
          go_wp2_with (first
            | (go_at_call 51; refine (impl_parcelsCode _ _ _ es _ _ _ [id] _ hmax (by omega) hsl (by simpa using hids)).mono ?_; rintro e' w1 ⟨rfl, hb1⟩; rw [k0])
            | (go_at_call 52; refine (impl_isOwner _ _).mono ?_; rintro e' w' ⟨rfl, rfl⟩; rw [k3])
            | (go_at_call 55; refine (impl_parcelAt _ _ _ es id _ hmax ((h.on hal).on hb1)).mono ?_; rintro e' w2 ⟨rfl, hb2⟩; rw [ht', hp]; have hbb := below_then (below_then hal hb1) hb2; obtain ⟨c0, c1, c2, c3⟩ := (H.below hbb hb).q4 he))
          go_ret2
          exact ⟨_, rfl, own_new_empty _ _ _ _ _ hbb.size, below_al hbb _⟩
        · have k4' : (e.b == owner) = false := by simpa using k4
          have hc : sellCode es id owner = 0 := by rw [sellCode_at g1 g2 k3 k2 he1]; simp [k4]
          rw [hc, sellOut_pos hc hk he]
          clear hc he1 he0 ht hr g1 g2 k2 k4
          have He := Lib.hid he
          go_enter Try.func36, Try.ntmps36
          go_wp2_with (first
            | (go_at_call 51; refine (impl_parcelsCode _ _ _ es _ _ _ [id] _ hmax (by omega) hsl (by simpa using hids)).mono ?_; rintro e' w1 ⟨rfl, hb1⟩; rw [k0])
            | (go_at_call 52; refine (impl_isOwner _ _).mono ?_; rintro e' w' ⟨rfl, rfl⟩; rw [k3])
            | (go_at_call 55; refine (impl_parcelAt _ _ _ es id _ hmax ((h.on hal).on hb1)).mono ?_; rintro e' w2 ⟨rfl, hb2⟩; rw [ht', hp]; have hbb := below_then (below_then hal hb1) hb2; obtain ⟨c0, c1, c2, c3⟩ := (H.below hbb hb).q4 he)
            | (go_at_call 62; refine (impl_clone_Parcel _ _ _ es _ hmax (h.on hbb)).mono ?_; rintro e' w3 ⟨v3, rfl, ho3, hb3⟩; obtain ⟨g3, cc3, rfl, hg3, hg4, hfr⟩ := own_block_of ho3 h.len (by omega); obtain ⟨y0, y1, y2, y3⟩ := (own_has ho3 Q4.cells_len).q4 he; simp only [Nat.zero_add] at y0 y1 y2 y3; clear he))
          go_ret2
          exact ⟨_, rfl, Own.base_le (Own.store Q4.cells_len ho3 He.out (by omega) rfl) hbb.size, below_st (below_then hbb hb3) _ (Nat.le_trans hbb.size hg3) _⟩
      · have k3' : inR owner 0 39 = false := by simpa using k3
        have hc : sellCode es id owner = 2 := by simp [sellCode, g1, g2, k3']
        rw [hc, sellOut_neg (by omega)]
        clear hc he1 he0 ht hr g1 g2 k2 k3
        go_enter Try.func36, Try.ntmps36
        go_wp2_with (first
          | (go_at_call 51; refine (impl_parcelsCode _ _ _ es _ _ _ [id] _ hmax (by omega) hsl (by simpa using hids)).mono ?_; rintro e' w1 ⟨rfl, hb1⟩; rw [k0])
          | (go_at_call 52; refine (impl_isOwner _ _).mono ?_; rintro e' w' ⟨rfl, rfl⟩; rw [k3'])
          | (go_at_call 55; refine (impl_parcelAt _ _ _ es id _ hmax ((h.on hal).on hb1)).mono ?_; rintro e' w2 ⟨rfl, hb2⟩; rw [ht', hp]; have hbb := below_then (below_then hal hb1) hb2; obtain ⟨c0, c1, c2, c3⟩ := (H.below hbb hb).q4 he))
        go_ret2
        exact ⟨_, rfl, own_new_empty _ _ _ _ _ hbb.size, below_al hbb _⟩
    · have ht' : thr es id = false := by rw [ht]; simp [k2]
      have hc : sellCode es id owner = if inR owner 0 39 = true then 3 else 2 := by
        cases hx : inR owner 0 39 <;> simp [sellCode, g1, g2, k2, hx]
      have hne : sellCode es id owner ≠ 0 := by rw [hc]; split <;> omega
      rw [sellOut_neg hne, hc]
      clear hc hne ht hr g1 g2 k2
      by_cases k3 : inR owner 0 39 = true
      · rw [if_pos k3]
        go_enter Try.func36, Try.ntmps36
        go_wp2_with (first
          | (go_at_call 51; refine (impl_parcelsCode _ _ _ es _ _ _ [id] _ hmax (by omega) hsl (by simpa using hids)).mono ?_; rintro e' w1 ⟨rfl, hb1⟩; rw [k0])
          | (go_at_call 52; refine (impl_isOwner _ _).mono ?_; rintro e' w' ⟨rfl, rfl⟩; rw [k3])
          | (go_at_call 55; refine (impl_parcelAt _ _ _ es id _ hmax ((h.on hal).on hb1)).mono ?_; rintro e' w2 ⟨rfl, hb2⟩; rw [ht']; have hbb := below_then (below_then hal hb1) hb2))
        go_ret2
        exact ⟨_, rfl, own_new_empty _ _ _ _ _ hbb.size, below_al hbb _⟩
      · have k3' : inR owner 0 39 = false := by simpa using k3
        rw [if_neg k3]
        clear k3
        go_enter Try.func36, Try.ntmps36
        go_wp2_with (first
          | (go_at_call 51; refine (impl_parcelsCode _ _ _ es _ _ _ [id] _ hmax (by omega) hsl (by simpa using hids)).mono ?_; rintro e' w1 ⟨rfl, hb1⟩; rw [k0])
          | (go_at_call 52; refine (impl_isOwner _ _).mono ?_; rintro e' w' ⟨rfl, rfl⟩; rw [k3'])
          | (go_at_call 55; refine (impl_parcelAt _ _ _ es id _ hmax ((h.on hal).on hb1)).mono ?_; rintro e' w2 ⟨rfl, hb2⟩; rw [ht']; have hbb := below_then (below_then hal hb1) hb2))
        go_ret2
        exact ⟨_, rfl, own_new_empty _ _ _ _ _ hbb.size, below_al hbb _⟩
  · have hne : (idsCode es [id] != 0) = true := by simpa using k0
    have hc : sellCode es id owner = idsCode es [id] := by
      revert k0; unfold idsCode sellCode; cases parcelsOk es <;> cases hx : idOk id <;> simp [hx]
    have hcn : sellCode es id owner ≠ 0 := by rw [hc]; exact k0
    rw [sellOut_neg hcn, hc]
    clear hc hcn
    go_enter Try.func36, Try.ntmps36
    go_wp2_with (go_at_call 51; refine (impl_parcelsCode _ _ _ es _ _ _ [id] _ hmax (by omega) hsl (by simpa using hids)).mono ?_; rintro e' w1 ⟨rfl, hb1⟩; have hbb := below_then hal hb1)
    go_ret2
    exact ⟨_, rfl, own_new_empty _ _ _ _ _ hbb.size, below_al hbb _⟩

end Go.Proofs.Ytiibamemkmffoaa

/-
  What this text proves: the plain law of greatest flows (no program in sight): two flows whose open ways do not lead to the outlet have the same value and reach the same junctions.
  Conditions: those that each lemma states.
-/
import Derived.Test.YtogjkcakoahpiaaG3
namespace Go.Proofs.Ytogjkcakoahpiaa
open Go.RowKit Go.Sort

/-- what flows, weighed by a potential of the junctions -/
def pot (φ : Int → Int) : List Q3 → List Int → Int
  | d :: ds, f :: fs => f * (φ d.a - φ d.b) + pot φ ds fs
  | _, _ => 0
theorem pot_zero (φ : Int → Int) (ds : List Q3) : pot φ ds (List.replicate ds.length 0) = 0 := by
  induction ds with
  | nil => rfl
  | cons d ds ih => simp only [List.length_cons, List.replicate_succ, pot, ih]; omega
theorem pot_set (φ : Int → Int) : ∀ (ds : List Q3) (fl : List Int) (k : Nat) (d : Q3) (f x : Int), ds[k]? = some d → fl[k]? = some f → pot φ ds (fl.set k x) = pot φ ds fl + (x - f) * (φ d.a - φ d.b) := by
  intro ds
  induction ds with
  | nil => intro fl k d f x hd; simp at hd
  | cons e ds ih =>
    intro fl k d f x hd hf
    cases fl with
    | nil => simp at hf
    | cons g fl =>
      cases k with
      | zero =>
        simp only [List.getElem?_cons_zero, Option.some.injEq] at hd hf
        subst hd; subst hf
        simp only [List.set_cons_zero, pot]
        rw [Int.sub_mul]; omega
      | succ k =>
        simp only [List.getElem?_cons_succ] at hd hf
        simp only [List.set_cons_succ, pot, ih fl k d f x hd hf]
        omega
theorem pot_le (φ : Int → Int) : ∀ (ds : List Q3) (fl gl : List Int), fl.length = ds.length → gl.length = ds.length →
    (∀ (k : Nat) d f g, ds[k]? = some d → fl[k]? = some f → gl[k]? = some g → g * (φ d.a - φ d.b) ≤ f * (φ d.a - φ d.b)) → pot φ ds gl ≤ pot φ ds fl := by
  intro ds
  induction ds with
  | nil => intro fl gl _ _ _; simp [pot]
  | cons d ds ih =>
    intro fl gl hf hg h
    cases fl with
    | nil => simp at hf
    | cons f fl =>
      cases gl with
      | nil => simp at hg
      | cons g gl =>
        simp only [pot]
        have h0 := h 0 d f g rfl rfl rfl
        have h1 := ih fl gl (by simpa using hf) (by simpa using hg) (fun k d' f' g' a b c => h (k + 1) d' f' g' (by simpa using a) (by simpa using b) (by simpa using c))
        omega
theorem pot_same (φ : Int → Int) : ∀ (ds : List Q3) (fl gl : List Int), fl.length = ds.length → gl.length = ds.length →
    (∀ (k : Nat) d f g, ds[k]? = some d → fl[k]? = some f → gl[k]? = some g → g * (φ d.a - φ d.b) ≤ f * (φ d.a - φ d.b)) → pot φ ds gl = pot φ ds fl →
    ∀ (k : Nat) d f g, ds[k]? = some d → fl[k]? = some f → gl[k]? = some g → g * (φ d.a - φ d.b) = f * (φ d.a - φ d.b) := by
  intro ds
  induction ds with
  | nil => intro fl gl _ _ _ _ k d f g hd; simp at hd
  | cons d ds ih =>
    intro fl gl hf hg h he
    cases fl with
    | nil => simp at hf
    | cons f fl =>
      cases gl with
      | nil => simp at hg
      | cons g gl =>
        simp only [pot] at he
        have h0 := h 0 d f g rfl rfl rfl
        have ht := fun k d' f' g' (a : ds[k]? = some d') (b : fl[k]? = some f') (c : gl[k]? = some g') => h (k + 1) d' f' g' (by simpa using a) (by simpa using b) (by simpa using c)
        have h1 := pot_le φ ds fl gl (by simpa using hf) (by simpa using hg) ht
        intro k d' f' g' a b c
        cases k with
        | zero =>
          simp only [List.getElem?_cons_zero, Option.some.injEq] at a b c
          subst a; subst b; subst c; omega
        | succ k => exact ih fl gl (by simpa using hf) (by simpa using hg) ht (by omega) k d' f' g' (by simpa using a) (by simpa using b) (by simpa using c)
theorem pot_top (φ : Int → Int) (hφ : ∀ v, φ v = 0 ∨ φ v = 1) : ∀ (ds : List Q3) (fl : List Int), (∀ (k : Nat) d f, ds[k]? = some d → fl[k]? = some f → 0 ≤ f ∧ f ≤ 1000) → pot φ ds fl ≤ 1000 * (ds.length : Int) := by
  intro ds
  induction ds with
  | nil => intro fl _; simp [pot]
  | cons d ds ih =>
    intro fl h
    cases fl with
    | nil => simp only [pot, List.length_cons]; omega
    | cons f fl =>
      have h0 := h 0 d f rfl rfl
      have h1 := ih fl (fun k d' f' a b => h (k + 1) d' f' (by simpa using a) (by simpa using b))
      have h2 : f * (φ d.a - φ d.b) ≤ 1000 := by
        rcases hφ d.a with ha | ha <;> rcases hφ d.b with hb | hb <;> rw [ha, hb] <;> omega
      simp only [pot, List.length_cons]
      omega

/-- flows within their bounds, with a value -/
structure IsFlow (ds : List Q3) (src : Int) (fl : List Int) (total : Int) : Prop where
  len : fl.length = ds.length
  bnd : ∀ (k : Nat) d f, ds[k]? = some d → fl[k]? = some f → 0 ≤ f ∧ f ≤ d.c
  bal : ∀ φ : Int → Int, pot φ ds fl = total * (φ src - φ 0)
/-- there is room from u to v -/
def Res (ds : List Q3) (fl : List Int) (u v : Int) : Prop :=
  ∃ (k : Nat) (d : Q3) (f : Int), ds[k]? = some d ∧ fl[k]? = some f ∧ ((d.a = u ∧ d.b = v ∧ f < d.c) ∨ (d.b = u ∧ d.a = v ∧ 0 < f))
inductive Rch (ds : List Q3) (fl : List Int) (src : Int) : Int → Prop
  | refl : Rch ds fl src src
  | step {u v : Int} : Rch ds fl src u → Res ds fl u v → Rch ds fl src v
theorem rch_in {ds : List Q3} {fl : List Int} {src : Int} {S : Int → Prop} (h0 : S src) (hc : ∀ u v, S u → Res ds fl u v → S v) {v : Int} (h : Rch ds fl src v) : S v := by
  induction h with
  | refl => exact h0
  | step _ hr ih => exact hc _ _ ih hr

theorem isflow_zero {ds : List Q3} {src : Int} (hc : ∀ (k : Nat) d, ds[k]? = some d → 0 ≤ d.c) : IsFlow ds src (List.replicate ds.length 0) 0 := by
  refine ⟨by simp, fun k d f hd hf => ?_, fun φ => by rw [pot_zero]; omega⟩
  rw [List.getElem?_replicate] at hf
  split at hf
  · injection hf with hf; subst hf; exact ⟨by omega, hc k d hd⟩
  · cases hf
theorem isflow_top {ds : List Q3} {src total : Int} {fl : List Int} (h : IsFlow ds src fl total) (h0 : src ≠ 0) (hc : ∀ (k : Nat) d, ds[k]? = some d → d.c ≤ 1000) : total ≤ 1000 * (ds.length : Int) := by
  have h1 := h.bal (fun v => if v = src then 1 else 0)
  have h2 := pot_top (fun v => if v = src then 1 else 0) (fun v => by by_cases h : v = src <;> simp [h]) ds fl (fun k d f a b => ⟨(h.bnd k d f a b).1, Int.le_trans (h.bnd k d f a b).2 (hc k d a)⟩)
  rw [h1] at h2
  simp only [if_true, if_neg (fun e : (0 : Int) = src => h0 e.symm)] at h2
  omega

/-- a side that nothing more can leave bounds every flow -/
theorem side_le {ds : List Q3} {src t t' : Int} {fl gl : List Int} {S : Int → Bool} (hs : S src = true) (h0 : S 0 = false) (hcl : ∀ u v, S u = true → Res ds fl u v → S v = true)
    (hf : IsFlow ds src fl t) (hg : IsFlow ds src gl t') : (∀ (k : Nat) d f g, ds[k]? = some d → fl[k]? = some f → gl[k]? = some g →
      g * ((if S d.a = true then 1 else 0) - (if S d.b = true then 1 else 0)) ≤ f * ((if S d.a = true then 1 else 0) - (if S d.b = true then 1 else 0))) ∧
      pot (fun v => if S v = true then 1 else 0) ds fl = t ∧ pot (fun v => if S v = true then 1 else 0) ds gl = t' := by
  refine ⟨fun k d f g hd h1 h2 => ?_, ?_, ?_⟩
  · have b1 := hf.bnd k d f hd h1
    have b2 := hg.bnd k d g hd h2
    cases ha : S d.a <;> cases hb : S d.b
    · simp
    · have : ¬ 0 < f := fun hp => by
        have := hcl d.b d.a hb ⟨k, d, f, hd, h1, .inr ⟨rfl, rfl, hp⟩⟩
        rw [ha] at this; cases this
      simp; omega
    · have : ¬ f < d.c := fun hp => by
        have := hcl d.a d.b ha ⟨k, d, f, hd, h1, .inl ⟨rfl, rfl, hp⟩⟩
        rw [hb] at this; cases this
      simp; omega
    · simp
  · rw [hf.bal]; simp [hs, h0]
  · rw [hg.bal]; simp [hs, h0]

/-- the greatest value, and the junctions that can still be reached -/
def IsMax (ds : List Q3) (src t : Int) (S : Int → Bool) : Prop := ∃ fl, IsFlow ds src fl t ∧ (∀ v, S v = true ↔ Rch ds fl src v) ∧ S 0 = false
theorem isMax_le {ds : List Q3} {src t t' : Int} {S S' : Int → Bool} (h : IsMax ds src t S) (h' : IsMax ds src t' S') : t' ≤ t := by
  obtain ⟨fl, hf, hS, h0⟩ := h
  obtain ⟨gl, hg, _, _⟩ := h'
  obtain ⟨h1, h2, h3⟩ := side_le (S := S) ((hS _).2 .refl) h0 (fun u v hu hr => (hS _).2 (.step ((hS _).1 hu) hr)) hf hg
  have := pot_le (fun v => if S v = true then 1 else 0) ds fl gl hf.len hg.len h1
  omega
theorem isMax_sub {ds : List Q3} {src t : Int} {S S' : Int → Bool} (h : IsMax ds src t S) (h' : IsMax ds src t S') (v : Int) (hv : S' v = true) : S v = true := by
  obtain ⟨fl, hf, hS, h0⟩ := h
  obtain ⟨gl, hg, hS', _⟩ := h'
  obtain ⟨h1, h2, h3⟩ := side_le (S := S) ((hS _).2 .refl) h0 (fun u v hu hr => (hS _).2 (.step ((hS _).1 hu) hr)) hf hg
  have he := pot_same (fun v => if S v = true then 1 else 0) ds fl gl hf.len hg.len h1 (by omega)
  refine rch_in (S := fun v => S v = true) ((hS _).2 .refl) (fun u v hu hr => ?_) ((hS' v).1 hv)
  obtain ⟨k, d, g, hd, hgk, hc⟩ := hr
  have hk : k < fl.length := by rw [hf.len]; exact (List.getElem?_eq_some_iff.1 hd).1
  have hfk := List.getElem?_eq_getElem hk
  have hq := he k d _ g hd hfk hgk
  have b1 := hf.bnd k d _ hd hfk
  cases hb : S v with
  | true => rfl
  | false =>
    exfalso
    rcases hc with ⟨rfl, rfl, hlt⟩ | ⟨rfl, rfl, hlt⟩
    · rw [if_pos hu, hb] at hq
      have : ¬ fl[k] < d.c := fun hp => by
        have := (hS d.b).2 (.step ((hS d.a).1 hu) ⟨k, d, fl[k], hd, hfk, .inl ⟨rfl, rfl, hp⟩⟩)
        rw [hb] at this; cases this
      simp at hq; omega
    · rw [if_pos hu, hb] at hq
      have : ¬ 0 < fl[k] := fun hp => by
        have := (hS d.a).2 (.step ((hS d.b).1 hu) ⟨k, d, fl[k], hd, hfk, .inr ⟨rfl, rfl, hp⟩⟩)
        rw [hb] at this; cases this
      simp at hq; omega
theorem isMax_one {ds : List Q3} {src t t' : Int} {S S' : Int → Bool} (h : IsMax ds src t S) (h' : IsMax ds src t' S') : t = t' ∧ S = S' := by
  have e : t = t' := Int.le_antisymm (isMax_le h' h) (isMax_le h h')
  subst e
  refine ⟨rfl, funext fun v => ?_⟩
  rw [Bool.eq_iff_iff]
  exact ⟨isMax_sub h' h v, isMax_sub h h' v⟩
open Classical in
noncomputable def mflow (ds : List Q3) (src : Int) : Int := if h : ∃ t S, IsMax ds src t S then h.choose else 0
open Classical in
noncomputable def mside (ds : List Q3) (src : Int) : Int → Bool := if h : ∃ S t, IsMax ds src t S then h.choose else fun _ => false
theorem isMax_flow {ds : List Q3} {src t : Int} {S : Int → Bool} (h : IsMax ds src t S) : t = mflow ds src ∧ S = mside ds src := by
  have h1 : ∃ t S, IsMax ds src t S := ⟨t, S, h⟩
  have h2 : ∃ S t, IsMax ds src t S := ⟨S, t, h⟩
  unfold mflow mside
  rw [dif_pos h1, dif_pos h2]
  exact ⟨(isMax_one h h1.choose_spec.choose_spec).1, (isMax_one h h2.choose_spec.choose_spec).2⟩

/-! ### a list of junctions that were reached, in this order, each by a ditch from an earlier one -/
theorem pigeon : ∀ (J : Nat) (L : List Int), L.Nodup → (∀ v ∈ L, 0 ≤ v ∧ v < (J : Int)) → L.length ≤ J := by
  intro J
  induction J with
  | zero =>
    intro L _ h
    cases L with
    | nil => simp
    | cons v L => have := h v (by simp); omega
  | succ J ih =>
    intro L hn h
    by_cases hJ : (J : Int) ∈ L
    · have h1 := ih (L.erase (J : Int)) (hn.erase _) (fun v hv => by
        have h2 := (hn.mem_erase_iff).1 hv
        have := h v h2.2
        have h3 := h2.1
        omega)
      rw [List.length_erase_of_mem hJ] at h1
      omega
    · have := ih L hn (fun v hv => by
        have h1 := h v hv
        have h2 : v ≠ (J : Int) := fun e => hJ (e ▸ hv)
        omega)
      omega
structure Tree (ds : List Q3) (fl : List Int) (src : Int) (L : List Int) (how : Int → Nat) : Prop where
  head : L[0]? = some src
  nodup : L.Nodup
  up : ∀ (i : Nat) v, 0 < i → L[i]? = some v → ∃ d f u, ds[how v]? = some d ∧ fl[how v]? = some f ∧ (∃ j : Nat, j < i ∧ L[j]? = some u) ∧ ((d.a = u ∧ d.b = v ∧ f < d.c) ∨ (d.b = u ∧ d.a = v ∧ 0 < f))
section
variable {ds : List Q3} {fl : List Int} {src : Int} {L : List Int} {how : Int → Nat}
theorem Tree.pos (_h : Tree ds fl src L how) {i j : Nat} {v : Int} (hi : L[i]? = some v) (hj : L[j]? = some v) : i = j := by
  obtain ⟨h1, e1⟩ := List.getElem?_eq_some_iff.1 hi
  obtain ⟨h2, e2⟩ := List.getElem?_eq_some_iff.1 hj
  have hp := List.pairwise_iff_getElem.1 _h.nodup
  rcases Nat.lt_trichotomy i j with h | h | h
  · exact absurd (e1.trans e2.symm) (hp i j h1 h2 h)
  · exact h
  · exact absurd (e2.trans e1.symm) (hp j i h2 h1 h)
theorem Tree.start (ds : List Q3) (fl : List Int) (src : Int) (how : Int → Nat) : Tree ds fl src [src] how :=
  ⟨rfl, by simp, fun i v hi hv => by
    have : i < 1 := (List.getElem?_eq_some_iff.1 hv).1
    omega⟩
theorem Tree.more (h : Tree ds fl src L how) {k : Nat} {d : Q3} {f u v : Int} (hd : ds[k]? = some d) (hf : fl[k]? = some f) (hu : u ∈ L) (hv : v ∉ L)
    (hc : (d.a = u ∧ d.b = v ∧ f < d.c) ∨ (d.b = u ∧ d.a = v ∧ 0 < f)) : Tree ds fl src (L ++ [v]) (fun x => if x = v then k else how x) := by
  have hl : 0 < L.length := (List.getElem?_eq_some_iff.1 h.head).1
  refine ⟨by rw [List.getElem?_append_left hl]; exact h.head, ?_, fun i x hi hx => ?_⟩
  · refine List.nodup_append.2 ⟨h.nodup, by simp, fun a ha b hb e => ?_⟩
    simp only [List.mem_singleton] at hb
    subst hb; subst e; exact hv ha
  · rcases Nat.lt_or_ge i L.length with h1 | h1
    · rw [List.getElem?_append_left h1] at hx
      have hxv : x ≠ v := fun e => hv (e ▸ List.mem_of_getElem? hx)
      obtain ⟨d', f', u', a, b, ⟨j, hj, hju⟩, c⟩ := h.up i x hi hx
      simp only [if_neg hxv]
      exact ⟨d', f', u', a, b, ⟨j, hj, by rw [List.getElem?_append_left (by omega)]; exact hju⟩, c⟩
    · have hlen := (List.getElem?_eq_some_iff.1 hx).1
      simp at hlen
      have hi' : i = L.length := by omega
      subst hi'
      have : x = v := by simpa using hx.symm
      subst this
      obtain ⟨j, hj, e⟩ := List.mem_iff_getElem.1 hu
      simp only [if_true]
      exact ⟨d, f, u, hd, hf, ⟨j, hj, by rw [List.getElem?_append_left hj, List.getElem?_eq_getElem hj, e]⟩, hc⟩
theorem Tree.rch (h : Tree ds fl src L how) : ∀ (i : Nat) v, L[i]? = some v → Rch ds fl src v := by
  intro i
  induction i using Nat.strongRecOn with
  | _ i ih =>
    intro v hv
    rcases Nat.eq_zero_or_pos i with h0 | h0
    · subst h0
      rw [h.head] at hv; injection hv with hv; subst hv; exact .refl
    · obtain ⟨d, f, u, a, b, ⟨j, hj, hju⟩, c⟩ := h.up i v h0 hv
      exact .step (ih j hj u hju) ⟨how v, d, f, a, b, c⟩
/-- a list that is closed is all that can be reached -/
theorem Tree.all (h : Tree ds fl src L how) (hc : ∀ u v, u ∈ L → Res ds fl u v → v ∈ L) (v : Int) : v ∈ L ↔ Rch ds fl src v := by
  constructor
  · intro hv
    obtain ⟨i, hi, e⟩ := List.mem_iff_getElem.1 hv
    exact h.rch i v (by rw [List.getElem?_eq_getElem hi, e])
  · exact rch_in (S := fun v => v ∈ L) (List.mem_of_getElem? h.head) hc
theorem Tree.src_in (h : Tree ds fl src L how) : src ∈ L := List.mem_of_getElem? h.head

/-- one more flows on the way from place i of the list to the outlet -/
structure Going (ds : List Q3) (fl : List Int) (src : Int) (L : List Int) (how : Int → Nat) (t : Int) (i : Nat) (at_ : Int) (gl : List Int) : Prop where
  here : L[i]? = some at_
  len : gl.length = ds.length
  bnd : ∀ (k : Nat) d f, ds[k]? = some d → gl[k]? = some f → 0 ≤ f ∧ f ≤ d.c
  bal : ∀ φ : Int → Int, pot φ ds gl = t * (φ src - φ 0) + (φ at_ - φ 0)
  old : ∀ (j : Nat) v, 0 < j → j ≤ i → L[j]? = some v → gl[how v]? = fl[how v]?
theorem Going.start {t : Int} (hf : IsFlow ds src fl t) {i : Nat} (h0 : L[i]? = some 0) : Going ds fl src L how t i 0 fl :=
  ⟨h0, hf.len, hf.bnd, fun φ => by rw [hf.bal]; omega, fun _ _ _ _ _ => rfl⟩
theorem Going.done {t : Int} {at_ : Int} {gl : List Int} (h : Tree ds fl src L how) (g : Going ds fl src L how t 0 at_ gl) : IsFlow ds src gl (t + 1) := by
  have e : at_ = src := by have := g.here; rw [h.head] at this; injection this with this; exact this.symm
  subst e
  exact ⟨g.len, g.bnd, fun φ => by rw [g.bal, Int.add_mul]; omega⟩
theorem Going.at_src {t : Int} {at_ : Int} {gl : List Int} {i : Nat} (h : Tree ds fl src L how) (g : Going ds fl src L how t i at_ gl) : at_ = src ↔ i = 0 := by
  constructor
  · intro e; subst e; exact h.pos g.here h.head
  · intro e; subst e; have := g.here; rw [h.head] at this; injection this with this; exact this.symm
theorem Going.next {t : Int} {at_ : Int} {gl : List Int} {i : Nat} (h : Tree ds fl src L how) (g : Going ds fl src L how t i at_ gl) (hne : ∀ (k : Nat) d, ds[k]? = some d → d.a ≠ d.b) (hi : 0 < i) :
    ∃ d f, ds[how at_]? = some d ∧ gl[how at_]? = some f ∧ 0 ≤ f ∧ f ≤ d.c ∧
      ((d.b = at_ ∧ d.a ≠ at_ ∧ f < d.c ∧ ∃ j, j < i ∧ Going ds fl src L how t j d.a (gl.set (how at_) (f + 1))) ∨
       (d.b ≠ at_ ∧ d.a = at_ ∧ 0 < f ∧ ∃ j, j < i ∧ Going ds fl src L how t j d.b (gl.set (how at_) (f - 1)))) := by
  obtain ⟨d, f, u, hd, hf, ⟨j, hj, hju⟩, hc⟩ := h.up i at_ hi g.here
  have hg : gl[how at_]? = some f := by rw [g.old i at_ hi (Nat.le_refl _) g.here]; exact hf
  have hb := g.bnd _ d f hd hg
  have hab := hne _ d hd
  have keep : ∀ (x : Int) (j' : Nat) v, 0 < j' → j' ≤ j → L[j']? = some v → (gl.set (how at_) x)[how v]? = fl[how v]? := by
    intro x j' v h1 h2 hv
    have hk : how at_ ≠ how v := fun e => by
      obtain ⟨d', f', u', a, b, ⟨j'', hj'', hu''⟩, c⟩ := h.up j' v h1 hv
      rw [← e, hd] at a; injection a with a; subst a
      have n1 : v ≠ at_ := fun e => by subst e; have := h.pos hv g.here; omega
      have n2 : u' ≠ at_ := fun e => by subst e; have := h.pos hu'' g.here; omega
      rcases hc with ⟨a1, a2, _⟩ | ⟨a1, a2, _⟩ <;> rcases c with ⟨c1, c2, _⟩ | ⟨c1, c2, _⟩ <;> omega
    rw [List.getElem?_set_ne hk]
    exact g.old j' v h1 (by omega) hv
  have bnd' : ∀ x, 0 ≤ x → x ≤ d.c → ∀ (k : Nat) d' f', ds[k]? = some d' → (gl.set (how at_) x)[k]? = some f' → 0 ≤ f' ∧ f' ≤ d'.c := by
    intro x h1 h2 k d' f' a b
    by_cases hk : how at_ = k
    · subst hk
      rw [hd] at a; injection a with a; subst a
      rw [List.getElem?_set_self (List.getElem?_eq_some_iff.1 hg).1] at b; injection b with b; subst b
      exact ⟨h1, h2⟩
    · rw [List.getElem?_set_ne hk] at b; exact g.bnd k d' f' a b
  refine ⟨d, f, hd, hg, hb.1, hb.2, ?_⟩
  rcases hc with ⟨a1, a2, a3⟩ | ⟨a1, a2, a3⟩
  · refine .inl ⟨a2, fun e => hab (e.trans a2.symm), a3, j, hj, by rw [a1]; exact hju, by rw [List.length_set]; exact g.len, bnd' _ (by omega) (by omega), fun φ => ?_, keep _⟩
    rw [pot_set φ ds gl _ d f _ hd hg, g.bal, a2, show f + 1 - f = 1 from by omega]; omega
  · refine .inr ⟨fun e => hab (a2.trans e.symm), a2, a3, j, hj, by rw [a1]; exact hju, by rw [List.length_set]; exact g.len, bnd' _ (by omega) (by omega), fun φ => ?_, keep _⟩
    rw [pot_set φ ds gl _ d f _ hd hg, g.bal, a2, show f - 1 - f = -1 from by omega]; omega
end

end Go.Proofs.Ytogjkcakoahpiaa

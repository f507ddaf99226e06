/- Walks over functions of this seat, by contract. Conditions: those that each theorem states. -/
import Derived.Test.YtjnbdmpgkbbmmaaDoorD1
import Derived.Test.YtjnbdmpgkbbmmaaDoorLft
import Derived.Test.YtjnbdmpgkbbmmaaDoorShelf
import Derived.Laws.Concat
namespace Go.Proofs.YtjnbdmpgkbbmmaaDoor
open Go.RowKit Go.Sort

def billOk (q : Q4) : Bool := inR q.a 0 39 && inR q.b 0 100000 && inR q.c 0 1000000000 && inR q.d 0 q.c
def dayLe (p q : Q4) : Bool := decide (p.b ≤ q.b)
def billsOk (es : List Q4) : Bool := okList billOk dayLe es && decide (es.length ≤ 100)
theorem billOk_iff {q : Q4} : billOk q = true ↔ (0 ≤ q.a ∧ q.a ≤ 39) ∧ (0 ≤ q.b ∧ q.b ≤ 100000) ∧ (0 ≤ q.c ∧ q.c ≤ 1000000000) ∧ 0 ≤ q.d ∧ q.d ≤ q.c := by
  simp [billOk, inR_iff, and_assoc]
theorem billsOk_iff {es : List Q4} : billsOk es = true ↔ okList billOk dayLe es = true ∧ es.length ≤ 100 := by simp [billsOk]
theorem spec_l20One (q : Q4) (w : World) : Calls Tryd.prog 37 #[.agg #[.int .i64 q.a, .int .i64 q.b, .int .i64 q.c, .int .i64 q.d]] w fun e w' => e = .returned (.bool (billOk q)) ∧ Below w.heap.size w w' := by
  go_enter Tryd.func37, Tryd.ntmps37
  go_wp2_with (first
    | (go_at_call 61; refine (spec_l20Owner _ _).mono ?_; rintro e w' ⟨rfl, rfl⟩)
    | (go_at_call 62; refine (spec_l02Day _ _).mono ?_; rintro e w' ⟨rfl, rfl⟩)
    | (go_at_call 63; refine (spec_l00In _ _ _ _).mono ?_; rintro e w' ⟨rfl, rfl⟩))
  all_goals (go_ret; exact ⟨ret_bool (by simp_all [billOk]), below_al (Below.refl _ _) _⟩)
theorem spec_l20One_at (q : Q4) (r : Bool) (h : billOk q = r) (w : World) : Calls Tryd.prog 37 #[.agg #[.int .i64 q.a, .int .i64 q.b, .int .i64 q.c, .int .i64 q.d]] w fun e w' => e = .returned (.bool r) ∧ Below w.heap.size w w' := h ▸ spec_l20One q w
theorem impl_isBill (q : Q4) (w : World) : Calls Tryd.prog 39 #[.agg #[.int .i64 q.a, .int .i64 q.b, .int .i64 q.c, .int .i64 q.d]] w fun e w' => e = .returned (.bool (billOk q)) ∧ Below w.heap.size w w' := by
  go_enter Tryd.func39, Tryd.ntmps39
  go_wp2_with (first
    | (go_at_call 65; refine (impl_isOwner _ _).mono ?_; rintro e w' ⟨rfl, rfl⟩)
    | (go_at_call 66; refine (impl_ValidDay _ _).mono ?_; rintro e w' ⟨rfl, rfl⟩)
    | (go_at_call 67; refine (impl_isShared _ _).mono ?_; rintro e w' ⟨rfl, rfl⟩)
    | (go_at_call 68; refine (impl_in _ _ _ _).mono ?_; rintro e w' ⟨rfl, rfl⟩))
  all_goals (go_ret; exact ⟨ret_bool (by simp_all [billOk]), below_al (Below.refl _ _) _⟩)
def parcelOk (q : Q4) : Bool := inR q.a 1 9999 && inR q.b 0 39 && inR q.c 1 10000000 && inR q.d 0 3
def idLt (p q : Q4) : Bool := decide (p.a < q.a)
def parcelsOk (es : List Q4) : Bool := okList parcelOk idLt es && decide (es.length ≤ 60)
theorem parcelOk_iff {q : Q4} : parcelOk q = true ↔ (1 ≤ q.a ∧ q.a ≤ 9999) ∧ (0 ≤ q.b ∧ q.b ≤ 39) ∧ (1 ≤ q.c ∧ q.c ≤ 10000000) ∧ 0 ≤ q.d ∧ q.d ≤ 3 := by
  simp [parcelOk, inR_iff, and_assoc]
theorem parcelsOk_iff {es : List Q4} : parcelsOk es = true ↔ okList parcelOk idLt es = true ∧ es.length ≤ 60 := by simp [parcelsOk]
theorem parcels_all {es : List Q4} (h : parcelsOk es = true) : es.length ≤ 60 ∧ ∀ e ∈ es, parcelOk e = true := by
  obtain ⟨h1, h2⟩ := parcelsOk_iff.1 h
  refine ⟨h2, fun e he => ?_⟩
  obtain ⟨k, hk, rfl⟩ := List.mem_iff_getElem.1 he
  exact (okList_iff.1 h1).1 k _ (List.getElem?_eq_getElem hk)
theorem spec_l19One (b o : Nat) (q : Q4) (w : World) (c0 : w.cell? ⟨b, o, none⟩ = some (.int .i64 q.a)) (c1 : w.cell? ⟨b, o + 1, none⟩ = some (.int .i64 q.b)) (c2 : w.cell? ⟨b, o + 2, none⟩ = some (.int .i64 q.c)) (c3 : w.cell? ⟨b, o + 3, none⟩ = some (.int .i64 q.d)) :
    Calls Tryd.prog 41 #[.pointer (some ⟨b, o, none⟩)] w fun e w' => e = .returned (.bool (parcelOk q)) ∧ w = w' := by
  go_enter Tryd.func41, Tryd.ntmps41
  go_wp2_with (first
    | (go_at_call 70; refine (spec_l19Id _ _).mono ?_; rintro e w' ⟨rfl, rfl⟩)
    | (go_at_call 71; refine (spec_l19Owner _ _).mono ?_; rintro e w' ⟨rfl, rfl⟩)
    | (go_at_call 63; refine (spec_l00In _ _ _ _).mono ?_; rintro e w' ⟨rfl, rfl⟩))
  all_goals (go_ret; exact ⟨ret_bool (by simp_all [parcelOk]), rfl⟩)
theorem spec_l19One_r (b o : Nat) (q : Q4) (r : Bool) (hr : parcelOk q = r) (w : World) (c0 : w.cell? ⟨b, o, none⟩ = some (.int .i64 q.a)) (c1 : w.cell? ⟨b, o + 1, none⟩ = some (.int .i64 q.b)) (c2 : w.cell? ⟨b, o + 2, none⟩ = some (.int .i64 q.c)) (c3 : w.cell? ⟨b, o + 3, none⟩ = some (.int .i64 q.d)) :
    Calls Tryd.prog 41 #[.pointer (some ⟨b, o, none⟩)] w fun e w' => e = .returned (.bool r) ∧ Below w.heap.size w w' := by
  subst hr; exact calls_below (spec_l19One b o q w c0 c1 c2 c3)
theorem impl_isParcel (q : Q4) (w : World) : Calls Tryd.prog 43 #[.agg #[.int .i64 q.a, .int .i64 q.b, .int .i64 q.c, .int .i64 q.d]] w fun e w' => e = .returned (.bool (parcelOk q)) ∧ Below w.heap.size w w' := by
  go_enter Tryd.func43, Tryd.ntmps43
  go_wp2_with (first
    | (go_at_call 72; refine (impl_isParcelId _ _).mono ?_; rintro e w' ⟨rfl, rfl⟩)
    | (go_at_call 65; refine (impl_isOwner _ _).mono ?_; rintro e w' ⟨rfl, rfl⟩)
    | (go_at_call 73; refine (impl_isParcelArea _ _).mono ?_; rintro e w' ⟨rfl, rfl⟩)
    | (go_at_call 68; refine (impl_in _ _ _ _).mono ?_; rintro e w' ⟨rfl, rfl⟩))
  all_goals (go_ret; exact ⟨ret_bool (by simp_all [parcelOk]), below_al (Below.refl _ _) _⟩)
def Sm (n : Nat) (s : ByteArray) : Prop := s.size ≤ n
theorem sm_lit {n : Nat} (s : ByteArray) (h : s.size ≤ n) : Sm n s := h
theorem sm_dec {n : Int} (h0 : -9223372036854775808 ≤ n) (h1 : n ≤ 9223372036854775807) : Sm 21 (bs (Lib.itoa n)) := by
  unfold Sm; rw [bs_size]; exact Lib.itoa_length_le n h0 h1
theorem sm_app {m n : Nat} {a b : ByteArray} (ha : Sm m a) (hb : Sm n b) : Sm (m + n) (a ++ b) := by
  unfold Sm at *; rw [ByteArray.size_append]; omega
theorem add_eq (P : Program) {m n : Nat} {a b : ByteArray} (ha : Sm m a) (hb : Sm n b) (h : m + n ≤ 100000000 := by decide) (W : World) : (Op.stringOp .add a b).run P W = .ok (.string (a ++ b)) W :=
  run_string_add_sum (w := W) a b (by unfold Sm at *; omega)
theorem spec_l01Dec (n : Int) (h0 : -9223372036854775808 ≤ n) (h1 : n ≤ 9223372036854775807) (w : World) : Calls Tryd.prog 64 #[.int .i64 n] w fun e w' => e = .returned (.string (bs (Lib.itoa n))) ∧ Below w.heap.size w w' := by
  by_cases hn : n < 0
  · obtain ⟨u, rfl⟩ : ∃ u : Nat, n = -(u : Int) := ⟨n.natAbs, by omega⟩
    rw [Lib.itoa_neg u (by omega)]
    exact spec_l01Dec_neg u (by omega) (by omega) w
  · obtain ⟨u, rfl⟩ : ∃ u : Nat, n = (u : Int) := ⟨n.toNat, by omega⟩
    rw [Lib.itoa_nonneg u]
    exact spec_l01Dec_pos u (by omega) w
theorem grow_below (w : World) (k : Nat) (os : Array Obj) : Below w.heap.size w (grow (w.drewN k) os) := by
  have h1 : Below w.heap.size w (w.drewN k) := below_drN (Below.refl _ _) k
  have h2 := below_regrown (w.drewN k) (w.drewN k).drawn os
  have h3 : redrawn (w.drewN k) (w.drewN k).drawn = w.drewN k := by rfl
  rw [h3] at h2
  exact below_then h1 h2
theorem impl_Decimal (n : Int) (h0 : -9223372036854775808 ≤ n) (h1 : n ≤ 9223372036854775807) (w : World) (htab : Lib.TabIs Tryd.prog w "internal/strconv.uint64pow10" .u64 Lib.pow10Tab) :
    Calls Tryd.prog 40 #[.int .i64 n] w fun e w' => e = .returned (.string (bs (Lib.itoa n))) ∧ Below w.heap.size w w' := by
  go_enter Tryd.func40, Tryd.ntmps40
  go_wp2_with (go_at_call 69; refine (Tryd.strconv_FormatInt_10 n h0 h1 _ htab).mono ?_; rintro e w' ⟨rfl, k, os, rfl⟩)
  go_ret
  exact ⟨rfl, grow_below w k os⟩
def billTxt (q : Q4) : ByteArray := (⟨#[111, 119, 110, 101, 114, 32]⟩ : ByteArray) ++ (bs (Lib.itoa q.a)) ++ (⟨#[32, 100, 97, 121, 32]⟩ : ByteArray) ++ (bs (Lib.itoa q.b)) ++ (⟨#[32, 97, 109, 111, 117, 110, 116, 32]⟩ : ByteArray) ++ (bs (Lib.itoa q.c)) ++ (⟨#[32, 112, 97, 105, 100, 32]⟩ : ByteArray) ++ (bs (Lib.itoa q.d))
def parcelTxt (q : Q4) : ByteArray := (⟨#[35]⟩ : ByteArray) ++ (bs (Lib.itoa q.a)) ++ (⟨#[32, 111, 119, 110, 101, 114, 32]⟩ : ByteArray) ++ (bs (Lib.itoa q.b)) ++ (⟨#[32, 97, 114, 101, 97, 32]⟩ : ByteArray) ++ (bs (Lib.itoa q.c)) ++ (⟨#[32, 99, 108, 97, 115, 115, 32]⟩ : ByteArray) ++ (bs (Lib.itoa q.d))
def billOut (q : Q4) : ByteArray := if billOk q = true then billTxt q else ⟨#[]⟩
def parcelOut (q : Q4) : ByteArray := if parcelOk q = true then parcelTxt q else ⟨#[]⟩

set_option maxHeartbeats 1000000 in
theorem spec_l20Text (q : Q4) (w : World) (hq : billOk q = true) : Calls Tryd.prog 38 #[.agg #[.int .i64 q.a, .int .i64 q.b, .int .i64 q.c, .int .i64 q.d]] w fun e w' => e = .returned (.string (billTxt q)) ∧ Below w.heap.size w w' := by
  obtain ⟨⟨a1, a2⟩, ⟨b1, b2⟩, ⟨c1, c2⟩, d1, d2⟩ := billOk_iff.1 hq
  have bx := box4c w (.int .i64 q.a) (.int .i64 q.b) (.int .i64 q.c) (.int .i64 q.d) 25
  have x0 := fun d os => (bx d os).1
  have x1 := fun d os => (bx d os).2.1
  have x2 := fun d os => (bx d os).2.2.1
  have x3 := fun d os => (bx d os).2.2.2
  have q1 := add_eq Tryd.prog (a := (⟨#[111, 119, 110, 101, 114, 32]⟩ : ByteArray)) (b := (bs (Lib.itoa q.a))) ((sm_lit _ (by decide) : Sm 6 _)) ((sm_dec (by omega) (by omega) : Sm 21 _))
  have q2 := add_eq Tryd.prog (a := ((⟨#[111, 119, 110, 101, 114, 32]⟩ : ByteArray) ++ (bs (Lib.itoa q.a)))) (b := (⟨#[32, 100, 97, 121, 32]⟩ : ByteArray)) (sm_app ((sm_lit _ (by decide) : Sm 6 _)) ((sm_dec (by omega) (by omega) : Sm 21 _))) ((sm_lit _ (by decide) : Sm 5 _))
  have q3 := add_eq Tryd.prog (a := (((⟨#[111, 119, 110, 101, 114, 32]⟩ : ByteArray) ++ (bs (Lib.itoa q.a))) ++ (⟨#[32, 100, 97, 121, 32]⟩ : ByteArray))) (b := (bs (Lib.itoa q.b))) (sm_app (sm_app ((sm_lit _ (by decide) : Sm 6 _)) ((sm_dec (by omega) (by omega) : Sm 21 _))) ((sm_lit _ (by decide) : Sm 5 _))) ((sm_dec (by omega) (by omega) : Sm 21 _))
  have q4 := add_eq Tryd.prog (a := ((((⟨#[111, 119, 110, 101, 114, 32]⟩ : ByteArray) ++ (bs (Lib.itoa q.a))) ++ (⟨#[32, 100, 97, 121, 32]⟩ : ByteArray)) ++ (bs (Lib.itoa q.b)))) (b := (⟨#[32, 97, 109, 111, 117, 110, 116, 32]⟩ : ByteArray)) (sm_app (sm_app (sm_app ((sm_lit _ (by decide) : Sm 6 _)) ((sm_dec (by omega) (by omega) : Sm 21 _))) ((sm_lit _ (by decide) : Sm 5 _))) ((sm_dec (by omega) (by omega) : Sm 21 _))) ((sm_lit _ (by decide) : Sm 8 _))
  have q5 := add_eq Tryd.prog (a := (((((⟨#[111, 119, 110, 101, 114, 32]⟩ : ByteArray) ++ (bs (Lib.itoa q.a))) ++ (⟨#[32, 100, 97, 121, 32]⟩ : ByteArray)) ++ (bs (Lib.itoa q.b))) ++ (⟨#[32, 97, 109, 111, 117, 110, 116, 32]⟩ : ByteArray))) (b := (bs (Lib.itoa q.c))) (sm_app (sm_app (sm_app (sm_app ((sm_lit _ (by decide) : Sm 6 _)) ((sm_dec (by omega) (by omega) : Sm 21 _))) ((sm_lit _ (by decide) : Sm 5 _))) ((sm_dec (by omega) (by omega) : Sm 21 _))) ((sm_lit _ (by decide) : Sm 8 _))) ((sm_dec (by omega) (by omega) : Sm 21 _))
  have q6 := add_eq Tryd.prog (a := ((((((⟨#[111, 119, 110, 101, 114, 32]⟩ : ByteArray) ++ (bs (Lib.itoa q.a))) ++ (⟨#[32, 100, 97, 121, 32]⟩ : ByteArray)) ++ (bs (Lib.itoa q.b))) ++ (⟨#[32, 97, 109, 111, 117, 110, 116, 32]⟩ : ByteArray)) ++ (bs (Lib.itoa q.c)))) (b := (⟨#[32, 112, 97, 105, 100, 32]⟩ : ByteArray)) (sm_app (sm_app (sm_app (sm_app (sm_app ((sm_lit _ (by decide) : Sm 6 _)) ((sm_dec (by omega) (by omega) : Sm 21 _))) ((sm_lit _ (by decide) : Sm 5 _))) ((sm_dec (by omega) (by omega) : Sm 21 _))) ((sm_lit _ (by decide) : Sm 8 _))) ((sm_dec (by omega) (by omega) : Sm 21 _))) ((sm_lit _ (by decide) : Sm 6 _))
  have q7 := add_eq Tryd.prog (a := (((((((⟨#[111, 119, 110, 101, 114, 32]⟩ : ByteArray) ++ (bs (Lib.itoa q.a))) ++ (⟨#[32, 100, 97, 121, 32]⟩ : ByteArray)) ++ (bs (Lib.itoa q.b))) ++ (⟨#[32, 97, 109, 111, 117, 110, 116, 32]⟩ : ByteArray)) ++ (bs (Lib.itoa q.c))) ++ (⟨#[32, 112, 97, 105, 100, 32]⟩ : ByteArray))) (b := (bs (Lib.itoa q.d))) (sm_app (sm_app (sm_app (sm_app (sm_app (sm_app ((sm_lit _ (by decide) : Sm 6 _)) ((sm_dec (by omega) (by omega) : Sm 21 _))) ((sm_lit _ (by decide) : Sm 5 _))) ((sm_dec (by omega) (by omega) : Sm 21 _))) ((sm_lit _ (by decide) : Sm 8 _))) ((sm_dec (by omega) (by omega) : Sm 21 _))) ((sm_lit _ (by decide) : Sm 6 _))) ((sm_dec (by omega) (by omega) : Sm 21 _))
  clear bx hq
  go_enter Tryd.func38, Tryd.ntmps38
  go_wp2_with fail
  refine wp_region_quiet_below (by kernel_rfl) (by kernel_rfl) ?_
  repeat (go_big_quiet_step (exact Calls.regrown_of (spec_l01Dec _ (by omega) (by omega) _)))
  refine wpQuiet_nil ?_
  intro wq hwq
  have hbq := below_one (below_of_class hwq)
  clear hwq
  go_wp2
  go_ret
  exact ⟨rfl, hbq⟩

set_option maxHeartbeats 1000000 in
theorem spec_l19Text (b o : Nat) (q : Q4) (w : World) (hq : parcelOk q = true) (c0 : w.cell? ⟨b, o, none⟩ = some (.int .i64 q.a)) (c1 : w.cell? ⟨b, o + 1, none⟩ = some (.int .i64 q.b)) (c2 : w.cell? ⟨b, o + 2, none⟩ = some (.int .i64 q.c)) (c3 : w.cell? ⟨b, o + 3, none⟩ = some (.int .i64 q.d)) :
    Calls Tryd.prog 42 #[.pointer (some ⟨b, o, none⟩)] w fun e w' => e = .returned (.string (parcelTxt q)) ∧ Below w.heap.size w w' := by
  obtain ⟨⟨a1, a2⟩, ⟨b1, b2⟩, ⟨e1, e2⟩, d1, d2⟩ := parcelOk_iff.1 hq
  have x0 := fun d os => cell_regrown c0 d os
  have x1 := fun d os => cell_regrown c1 d os
  have x2 := fun d os => cell_regrown c2 d os
  have x3 := fun d os => cell_regrown c3 d os
  have q1 := add_eq Tryd.prog (a := (⟨#[35]⟩ : ByteArray)) (b := (bs (Lib.itoa q.a))) ((sm_lit _ (by decide) : Sm 1 _)) ((sm_dec (by omega) (by omega) : Sm 21 _))
  have q2 := add_eq Tryd.prog (a := ((⟨#[35]⟩ : ByteArray) ++ (bs (Lib.itoa q.a)))) (b := (⟨#[32, 111, 119, 110, 101, 114, 32]⟩ : ByteArray)) (sm_app ((sm_lit _ (by decide) : Sm 1 _)) ((sm_dec (by omega) (by omega) : Sm 21 _))) ((sm_lit _ (by decide) : Sm 7 _))
  have q3 := add_eq Tryd.prog (a := (((⟨#[35]⟩ : ByteArray) ++ (bs (Lib.itoa q.a))) ++ (⟨#[32, 111, 119, 110, 101, 114, 32]⟩ : ByteArray))) (b := (bs (Lib.itoa q.b))) (sm_app (sm_app ((sm_lit _ (by decide) : Sm 1 _)) ((sm_dec (by omega) (by omega) : Sm 21 _))) ((sm_lit _ (by decide) : Sm 7 _))) ((sm_dec (by omega) (by omega) : Sm 21 _))
  have q4 := add_eq Tryd.prog (a := ((((⟨#[35]⟩ : ByteArray) ++ (bs (Lib.itoa q.a))) ++ (⟨#[32, 111, 119, 110, 101, 114, 32]⟩ : ByteArray)) ++ (bs (Lib.itoa q.b)))) (b := (⟨#[32, 97, 114, 101, 97, 32]⟩ : ByteArray)) (sm_app (sm_app (sm_app ((sm_lit _ (by decide) : Sm 1 _)) ((sm_dec (by omega) (by omega) : Sm 21 _))) ((sm_lit _ (by decide) : Sm 7 _))) ((sm_dec (by omega) (by omega) : Sm 21 _))) ((sm_lit _ (by decide) : Sm 6 _))
  have q5 := add_eq Tryd.prog (a := (((((⟨#[35]⟩ : ByteArray) ++ (bs (Lib.itoa q.a))) ++ (⟨#[32, 111, 119, 110, 101, 114, 32]⟩ : ByteArray)) ++ (bs (Lib.itoa q.b))) ++ (⟨#[32, 97, 114, 101, 97, 32]⟩ : ByteArray))) (b := (bs (Lib.itoa q.c))) (sm_app (sm_app (sm_app (sm_app ((sm_lit _ (by decide) : Sm 1 _)) ((sm_dec (by omega) (by omega) : Sm 21 _))) ((sm_lit _ (by decide) : Sm 7 _))) ((sm_dec (by omega) (by omega) : Sm 21 _))) ((sm_lit _ (by decide) : Sm 6 _))) ((sm_dec (by omega) (by omega) : Sm 21 _))
  have q6 := add_eq Tryd.prog (a := ((((((⟨#[35]⟩ : ByteArray) ++ (bs (Lib.itoa q.a))) ++ (⟨#[32, 111, 119, 110, 101, 114, 32]⟩ : ByteArray)) ++ (bs (Lib.itoa q.b))) ++ (⟨#[32, 97, 114, 101, 97, 32]⟩ : ByteArray)) ++ (bs (Lib.itoa q.c)))) (b := (⟨#[32, 99, 108, 97, 115, 115, 32]⟩ : ByteArray)) (sm_app (sm_app (sm_app (sm_app (sm_app ((sm_lit _ (by decide) : Sm 1 _)) ((sm_dec (by omega) (by omega) : Sm 21 _))) ((sm_lit _ (by decide) : Sm 7 _))) ((sm_dec (by omega) (by omega) : Sm 21 _))) ((sm_lit _ (by decide) : Sm 6 _))) ((sm_dec (by omega) (by omega) : Sm 21 _))) ((sm_lit _ (by decide) : Sm 7 _))
  have q7 := add_eq Tryd.prog (a := (((((((⟨#[35]⟩ : ByteArray) ++ (bs (Lib.itoa q.a))) ++ (⟨#[32, 111, 119, 110, 101, 114, 32]⟩ : ByteArray)) ++ (bs (Lib.itoa q.b))) ++ (⟨#[32, 97, 114, 101, 97, 32]⟩ : ByteArray)) ++ (bs (Lib.itoa q.c))) ++ (⟨#[32, 99, 108, 97, 115, 115, 32]⟩ : ByteArray))) (b := (bs (Lib.itoa q.d))) (sm_app (sm_app (sm_app (sm_app (sm_app (sm_app ((sm_lit _ (by decide) : Sm 1 _)) ((sm_dec (by omega) (by omega) : Sm 21 _))) ((sm_lit _ (by decide) : Sm 7 _))) ((sm_dec (by omega) (by omega) : Sm 21 _))) ((sm_lit _ (by decide) : Sm 6 _))) ((sm_dec (by omega) (by omega) : Sm 21 _))) ((sm_lit _ (by decide) : Sm 7 _))) ((sm_dec (by omega) (by omega) : Sm 21 _))
  clear hq
  go_enter Tryd.func42, Tryd.ntmps42
  go_wp2_with fail
  refine wp_region_quiet_below (by kernel_rfl) (by kernel_rfl) ?_
  repeat (go_big_quiet_step (exact Calls.regrown_of (spec_l01Dec _ (by omega) (by omega) _)))
  refine wpQuiet_nil ?_
  intro wq hwq
  have hbq := below_of_class hwq
  clear hwq
  go_wp2
  go_ret
  exact ⟨rfl, hbq⟩

set_option maxHeartbeats 400000 in
theorem spec_BillText (q : Q4) (w : World) : Calls Tryd.prog 11 #[.agg #[.int .i64 q.a, .int .i64 q.b, .int .i64 q.c, .int .i64 q.d]] w fun e w' => e = .returned (.string (billOut q)) ∧ Below w.heap.size w w' := by
  have hb0 := below_al (Below.refl _ w) (.cells #[.int .i64 q.a, .int .i64 q.b, .int .i64 q.c, .int .i64 q.d] 25)
  rcases Bool.eq_false_or_eq_true (billOk q) with g | g
  · rw [billOut, if_pos g]
    go_enter Tryd.func11, Tryd.ntmps11
    go_wp2_with (first
      | (go_at_call 37; refine (spec_l20One q _).mono ?_; rintro e w1 ⟨rfl, hb1⟩; rw [g]; obtain ⟨y0, y1, y2, y3⟩ := box4k hb1)
      | (go_at_call 38; refine (spec_l20Text q _ g).mono ?_; rintro e w2 ⟨rfl, hb2⟩))
    go_ret
    exact ⟨rfl, below_then hb0 (below_then hb1 hb2)⟩
  · rw [billOut, if_neg (by simp [g])]
    go_enter Tryd.func11, Tryd.ntmps11
    go_wp2_with (go_at_call 37; refine (spec_l20One q _).mono ?_; rintro e w1 ⟨rfl, hb1⟩; rw [g])
    go_ret
    exact ⟨rfl, below_then hb0 hb1⟩
set_option maxHeartbeats 400000 in
theorem spec_ParcelText (q : Q4) (w : World) : Calls Tryd.prog 14 #[.agg #[.int .i64 q.a, .int .i64 q.b, .int .i64 q.c, .int .i64 q.d]] w fun e w' => e = .returned (.string (parcelOut q)) ∧ Below w.heap.size w w' := by
  have hb0 := below_al (Below.refl _ w) (.cells #[.int .i64 q.a, .int .i64 q.b, .int .i64 q.c, .int .i64 q.d] 31)
  obtain ⟨y0, y1, y2, y3⟩ := box4k (Below.refl _ (w.alloc (.cells #[.int .i64 q.a, .int .i64 q.b, .int .i64 q.c, .int .i64 q.d] 31)))
  rcases Bool.eq_false_or_eq_true (parcelOk q) with g | g
  · rw [parcelOut, if_pos g]
    go_enter Tryd.func14, Tryd.ntmps14
    go_wp2_with (first
      | (go_at_call 41; refine (spec_l19One _ _ q _ y0 y1 y2 y3).mono ?_; rintro e w1 ⟨rfl, rfl⟩; rw [g])
      | (go_at_call 42; refine (spec_l19Text _ _ q _ g y0 y1 y2 y3).mono ?_; rintro e w2 ⟨rfl, hb2⟩))
    go_ret
    exact ⟨rfl, below_then hb0 hb2⟩
  · rw [parcelOut, if_neg (by simp [g])]
    go_enter Tryd.func14, Tryd.ntmps14
    go_wp2_with (go_at_call 41; refine (spec_l19One _ _ q _ y0 y1 y2 y3).mono ?_; rintro e w1 ⟨rfl, rfl⟩; rw [g])
    go_ret
    exact ⟨rfl, hb0⟩

set_option maxHeartbeats 1000000 in
theorem impl_BillText (q : Q4) (w : World) (htab : Lib.TabIs Tryd.prog w "internal/strconv.uint64pow10" .u64 Lib.pow10Tab) : Calls Tryd.prog 13 #[.agg #[.int .i64 q.a, .int .i64 q.b, .int .i64 q.c, .int .i64 q.d]] w fun e w' => e = .returned (.string (billOut q)) ∧ Below w.heap.size w w' := by
  have hb0 := below_al (Below.refl _ w) (.cells #[.int .i64 q.a, .int .i64 q.b, .int .i64 q.c, .int .i64 q.d] 25)
  rcases Bool.eq_false_or_eq_true (billOk q) with g | g
  · rw [billOut, if_pos g]
    obtain ⟨⟨a1, a2⟩, ⟨b1, b2⟩, ⟨c1, c2⟩, d1, d2⟩ := billOk_iff.1 g
    have q1 := add_eq Tryd.prog (a := (⟨#[111, 119, 110, 101, 114, 32]⟩ : ByteArray)) (b := (bs (Lib.itoa q.a))) ((sm_lit _ (by decide) : Sm 6 _)) ((sm_dec (by omega) (by omega) : Sm 21 _))
    have q2 := add_eq Tryd.prog (a := ((⟨#[111, 119, 110, 101, 114, 32]⟩ : ByteArray) ++ (bs (Lib.itoa q.a)))) (b := (⟨#[32, 100, 97, 121, 32]⟩ : ByteArray)) (sm_app ((sm_lit _ (by decide) : Sm 6 _)) ((sm_dec (by omega) (by omega) : Sm 21 _))) ((sm_lit _ (by decide) : Sm 5 _))
    have q3 := add_eq Tryd.prog (a := (((⟨#[111, 119, 110, 101, 114, 32]⟩ : ByteArray) ++ (bs (Lib.itoa q.a))) ++ (⟨#[32, 100, 97, 121, 32]⟩ : ByteArray))) (b := (bs (Lib.itoa q.b))) (sm_app (sm_app ((sm_lit _ (by decide) : Sm 6 _)) ((sm_dec (by omega) (by omega) : Sm 21 _))) ((sm_lit _ (by decide) : Sm 5 _))) ((sm_dec (by omega) (by omega) : Sm 21 _))
    have q4 := add_eq Tryd.prog (a := ((((⟨#[111, 119, 110, 101, 114, 32]⟩ : ByteArray) ++ (bs (Lib.itoa q.a))) ++ (⟨#[32, 100, 97, 121, 32]⟩ : ByteArray)) ++ (bs (Lib.itoa q.b)))) (b := (⟨#[32, 97, 109, 111, 117, 110, 116, 32]⟩ : ByteArray)) (sm_app (sm_app (sm_app ((sm_lit _ (by decide) : Sm 6 _)) ((sm_dec (by omega) (by omega) : Sm 21 _))) ((sm_lit _ (by decide) : Sm 5 _))) ((sm_dec (by omega) (by omega) : Sm 21 _))) ((sm_lit _ (by decide) : Sm 8 _))
    have q5 := add_eq Tryd.prog (a := (((((⟨#[111, 119, 110, 101, 114, 32]⟩ : ByteArray) ++ (bs (Lib.itoa q.a))) ++ (⟨#[32, 100, 97, 121, 32]⟩ : ByteArray)) ++ (bs (Lib.itoa q.b))) ++ (⟨#[32, 97, 109, 111, 117, 110, 116, 32]⟩ : ByteArray))) (b := (bs (Lib.itoa q.c))) (sm_app (sm_app (sm_app (sm_app ((sm_lit _ (by decide) : Sm 6 _)) ((sm_dec (by omega) (by omega) : Sm 21 _))) ((sm_lit _ (by decide) : Sm 5 _))) ((sm_dec (by omega) (by omega) : Sm 21 _))) ((sm_lit _ (by decide) : Sm 8 _))) ((sm_dec (by omega) (by omega) : Sm 21 _))
    have q6 := add_eq Tryd.prog (a := ((((((⟨#[111, 119, 110, 101, 114, 32]⟩ : ByteArray) ++ (bs (Lib.itoa q.a))) ++ (⟨#[32, 100, 97, 121, 32]⟩ : ByteArray)) ++ (bs (Lib.itoa q.b))) ++ (⟨#[32, 97, 109, 111, 117, 110, 116, 32]⟩ : ByteArray)) ++ (bs (Lib.itoa q.c)))) (b := (⟨#[32, 112, 97, 105, 100, 32]⟩ : ByteArray)) (sm_app (sm_app (sm_app (sm_app (sm_app ((sm_lit _ (by decide) : Sm 6 _)) ((sm_dec (by omega) (by omega) : Sm 21 _))) ((sm_lit _ (by decide) : Sm 5 _))) ((sm_dec (by omega) (by omega) : Sm 21 _))) ((sm_lit _ (by decide) : Sm 8 _))) ((sm_dec (by omega) (by omega) : Sm 21 _))) ((sm_lit _ (by decide) : Sm 6 _))
    have q7 := add_eq Tryd.prog (a := (((((((⟨#[111, 119, 110, 101, 114, 32]⟩ : ByteArray) ++ (bs (Lib.itoa q.a))) ++ (⟨#[32, 100, 97, 121, 32]⟩ : ByteArray)) ++ (bs (Lib.itoa q.b))) ++ (⟨#[32, 97, 109, 111, 117, 110, 116, 32]⟩ : ByteArray)) ++ (bs (Lib.itoa q.c))) ++ (⟨#[32, 112, 97, 105, 100, 32]⟩ : ByteArray))) (b := (bs (Lib.itoa q.d))) (sm_app (sm_app (sm_app (sm_app (sm_app (sm_app ((sm_lit _ (by decide) : Sm 6 _)) ((sm_dec (by omega) (by omega) : Sm 21 _))) ((sm_lit _ (by decide) : Sm 5 _))) ((sm_dec (by omega) (by omega) : Sm 21 _))) ((sm_lit _ (by decide) : Sm 8 _))) ((sm_dec (by omega) (by omega) : Sm 21 _))) ((sm_lit _ (by decide) : Sm 6 _))) ((sm_dec (by omega) (by omega) : Sm 21 _))
    go_enter Tryd.func13, Tryd.ntmps13
    go_wp2_with (go_at_call 39; refine (impl_isBill q _).mono ?_; rintro e w1 ⟨rfl, hb1⟩; rw [g]; obtain ⟨y0, y1, y2, y3⟩ := box4k hb1)
    have x0 := fun d os => cell_regrown y0 d os
    have x1 := fun d os => cell_regrown y1 d os
    have x2 := fun d os => cell_regrown y2 d os
    have x3 := fun d os => cell_regrown y3 d os
    have ht1 := tab_on htab (below_then hb0 hb1)
    refine wp_region_quiet_below (by kernel_rfl) (by kernel_rfl) ?_
    repeat (go_big_quiet_step (exact Calls.regrown_of (impl_Decimal _ (by omega) (by omega) _ (tab_on ht1 (below_regrown _ _ _)))))
    refine wpQuiet_nil ?_
    intro wq hwq
    have hbq := below_of_class hwq
    clear hwq y0 y1 y2 y3 x0 x1 x2 x3
    go_wp2
    go_ret
    exact ⟨rfl, below_then hb0 (below_then hb1 hbq)⟩
  · rw [billOut, if_neg (by simp [g])]
    go_enter Tryd.func13, Tryd.ntmps13
    go_wp2_with (go_at_call 39; refine (impl_isBill q _).mono ?_; rintro e w1 ⟨rfl, hb1⟩; rw [g])
    go_ret
    exact ⟨rfl, below_then hb0 hb1⟩

set_option maxHeartbeats 1000000 in
theorem impl_ParcelText (q : Q4) (w : World) (htab : Lib.TabIs Tryd.prog w "internal/strconv.uint64pow10" .u64 Lib.pow10Tab) : Calls Tryd.prog 16 #[.agg #[.int .i64 q.a, .int .i64 q.b, .int .i64 q.c, .int .i64 q.d]] w fun e w' => e = .returned (.string (parcelOut q)) ∧ Below w.heap.size w w' := by
  have hb0 := below_al (Below.refl _ w) (.cells #[.int .i64 q.a, .int .i64 q.b, .int .i64 q.c, .int .i64 q.d] 31)
  rcases Bool.eq_false_or_eq_true (parcelOk q) with g | g
  · rw [parcelOut, if_pos g]
    obtain ⟨⟨a1, a2⟩, ⟨b1, b2⟩, ⟨c1, c2⟩, d1, d2⟩ := parcelOk_iff.1 g
    have q1 := add_eq Tryd.prog (a := (⟨#[35]⟩ : ByteArray)) (b := (bs (Lib.itoa q.a))) ((sm_lit _ (by decide) : Sm 1 _)) ((sm_dec (by omega) (by omega) : Sm 21 _))
    have q2 := add_eq Tryd.prog (a := ((⟨#[35]⟩ : ByteArray) ++ (bs (Lib.itoa q.a)))) (b := (⟨#[32, 111, 119, 110, 101, 114, 32]⟩ : ByteArray)) (sm_app ((sm_lit _ (by decide) : Sm 1 _)) ((sm_dec (by omega) (by omega) : Sm 21 _))) ((sm_lit _ (by decide) : Sm 7 _))
    have q3 := add_eq Tryd.prog (a := (((⟨#[35]⟩ : ByteArray) ++ (bs (Lib.itoa q.a))) ++ (⟨#[32, 111, 119, 110, 101, 114, 32]⟩ : ByteArray))) (b := (bs (Lib.itoa q.b))) (sm_app (sm_app ((sm_lit _ (by decide) : Sm 1 _)) ((sm_dec (by omega) (by omega) : Sm 21 _))) ((sm_lit _ (by decide) : Sm 7 _))) ((sm_dec (by omega) (by omega) : Sm 21 _))
    have q4 := add_eq Tryd.prog (a := ((((⟨#[35]⟩ : ByteArray) ++ (bs (Lib.itoa q.a))) ++ (⟨#[32, 111, 119, 110, 101, 114, 32]⟩ : ByteArray)) ++ (bs (Lib.itoa q.b)))) (b := (⟨#[32, 97, 114, 101, 97, 32]⟩ : ByteArray)) (sm_app (sm_app (sm_app ((sm_lit _ (by decide) : Sm 1 _)) ((sm_dec (by omega) (by omega) : Sm 21 _))) ((sm_lit _ (by decide) : Sm 7 _))) ((sm_dec (by omega) (by omega) : Sm 21 _))) ((sm_lit _ (by decide) : Sm 6 _))
    have q5 := add_eq Tryd.prog (a := (((((⟨#[35]⟩ : ByteArray) ++ (bs (Lib.itoa q.a))) ++ (⟨#[32, 111, 119, 110, 101, 114, 32]⟩ : ByteArray)) ++ (bs (Lib.itoa q.b))) ++ (⟨#[32, 97, 114, 101, 97, 32]⟩ : ByteArray))) (b := (bs (Lib.itoa q.c))) (sm_app (sm_app (sm_app (sm_app ((sm_lit _ (by decide) : Sm 1 _)) ((sm_dec (by omega) (by omega) : Sm 21 _))) ((sm_lit _ (by decide) : Sm 7 _))) ((sm_dec (by omega) (by omega) : Sm 21 _))) ((sm_lit _ (by decide) : Sm 6 _))) ((sm_dec (by omega) (by omega) : Sm 21 _))
    have q6 := add_eq Tryd.prog (a := ((((((⟨#[35]⟩ : ByteArray) ++ (bs (Lib.itoa q.a))) ++ (⟨#[32, 111, 119, 110, 101, 114, 32]⟩ : ByteArray)) ++ (bs (Lib.itoa q.b))) ++ (⟨#[32, 97, 114, 101, 97, 32]⟩ : ByteArray)) ++ (bs (Lib.itoa q.c)))) (b := (⟨#[32, 99, 108, 97, 115, 115, 32]⟩ : ByteArray)) (sm_app (sm_app (sm_app (sm_app (sm_app ((sm_lit _ (by decide) : Sm 1 _)) ((sm_dec (by omega) (by omega) : Sm 21 _))) ((sm_lit _ (by decide) : Sm 7 _))) ((sm_dec (by omega) (by omega) : Sm 21 _))) ((sm_lit _ (by decide) : Sm 6 _))) ((sm_dec (by omega) (by omega) : Sm 21 _))) ((sm_lit _ (by decide) : Sm 7 _))
    have q7 := add_eq Tryd.prog (a := (((((((⟨#[35]⟩ : ByteArray) ++ (bs (Lib.itoa q.a))) ++ (⟨#[32, 111, 119, 110, 101, 114, 32]⟩ : ByteArray)) ++ (bs (Lib.itoa q.b))) ++ (⟨#[32, 97, 114, 101, 97, 32]⟩ : ByteArray)) ++ (bs (Lib.itoa q.c))) ++ (⟨#[32, 99, 108, 97, 115, 115, 32]⟩ : ByteArray))) (b := (bs (Lib.itoa q.d))) (sm_app (sm_app (sm_app (sm_app (sm_app (sm_app ((sm_lit _ (by decide) : Sm 1 _)) ((sm_dec (by omega) (by omega) : Sm 21 _))) ((sm_lit _ (by decide) : Sm 7 _))) ((sm_dec (by omega) (by omega) : Sm 21 _))) ((sm_lit _ (by decide) : Sm 6 _))) ((sm_dec (by omega) (by omega) : Sm 21 _))) ((sm_lit _ (by decide) : Sm 7 _))) ((sm_dec (by omega) (by omega) : Sm 21 _))
    go_enter Tryd.func16, Tryd.ntmps16
    go_wp2_with (go_at_call 43; refine (impl_isParcel q _).mono ?_; rintro e w1 ⟨rfl, hb1⟩; rw [g]; obtain ⟨y0, y1, y2, y3⟩ := box4k hb1)
    have x0 := fun d os => cell_regrown y0 d os
    have x1 := fun d os => cell_regrown y1 d os
    have x2 := fun d os => cell_regrown y2 d os
    have x3 := fun d os => cell_regrown y3 d os
    have ht1 := tab_on htab (below_then hb0 hb1)
    refine wp_region_quiet_below (by kernel_rfl) (by kernel_rfl) ?_
    repeat (go_big_quiet_step (exact Calls.regrown_of (impl_Decimal _ (by omega) (by omega) _ (tab_on ht1 (below_regrown _ _ _)))))
    refine wpQuiet_nil ?_
    intro wq hwq
    have hbq := below_of_class hwq
    clear hwq y0 y1 y2 y3 x0 x1 x2 x3
    go_wp2
    go_ret
    exact ⟨rfl, below_then hb0 (below_then hb1 hbq)⟩
  · rw [parcelOut, if_neg (by simp [g])]
    go_enter Tryd.func16, Tryd.ntmps16
    go_wp2_with (go_at_call 43; refine (impl_isParcel q _).mono ?_; rintro e w1 ⟨rfl, hb1⟩; rw [g])
    go_ret
    exact ⟨rfl, below_then hb0 hb1⟩

end Go.Proofs.YtjnbdmpgkbbmmaaDoor

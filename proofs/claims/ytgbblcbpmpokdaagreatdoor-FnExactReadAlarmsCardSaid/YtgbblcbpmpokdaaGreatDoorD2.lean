/- Walks over functions of this seat, by contract. Conditions: those that each theorem states. -/
import Derived.Test.YtgbblcbpmpokdaaGreatDoorD1
import Derived.Test.YtgbblcbpmpokdaaGreatDoorLft
import Derived.Test.YtgbblcbpmpokdaaGreatDoorShelf
import Derived.Laws.Concat
namespace Go.Proofs.YtgbblcbpmpokdaaGreatDoor
open Go.RowKit Go.Sort

def billOk (q : Q4) : Bool := inR q.a 0 39 && inR q.b 0 100000 && inR q.c 0 1000000000 && inR q.d 0 q.c
def dayLe (p q : Q4) : Bool := decide (p.b ≤ q.b)
def billsOk (es : List Q4) : Bool := okList billOk dayLe es && decide (es.length ≤ 100)
theorem billOk_iff {q : Q4} : billOk q = true ↔ (0 ≤ q.a ∧ q.a ≤ 39) ∧ (0 ≤ q.b ∧ q.b ≤ 100000) ∧ (0 ≤ q.c ∧ q.c ≤ 1000000000) ∧ 0 ≤ q.d ∧ q.d ≤ q.c := by
  simp [billOk, inR_iff, and_assoc]
theorem billsOk_iff {es : List Q4} : billsOk es = true ↔ okList billOk dayLe es = true ∧ es.length ≤ 100 := by simp [billsOk]
def parcelOk (q : Q4) : Bool := inR q.a 1 9999 && inR q.b 0 39 && inR q.c 1 10000000 && inR q.d 0 3
def idLt (p q : Q4) : Bool := decide (p.a < q.a)
def parcelsOk (es : List Q4) : Bool := okList parcelOk idLt es && decide (es.length ≤ 60)
theorem parcelOk_iff {q : Q4} : parcelOk q = true ↔ (1 ≤ q.a ∧ q.a ≤ 9999) ∧ (0 ≤ q.b ∧ q.b ≤ 39) ∧ (1 ≤ q.c ∧ q.c ≤ 10000000) ∧ 0 ≤ q.d ∧ q.d ≤ 3 := by
  simp [parcelOk, inR_iff, and_assoc]
theorem parcelsOk_iff {es : List Q4} : parcelsOk es = true ↔ okList parcelOk idLt es = true ∧ es.length ≤ 60 := by simp [parcelsOk]
theorem parcels_all {es : List Q4} (h : parcelsOk es = true) : es.length ≤ 60 ∧ ∀ e ∈ es, parcelOk e = true := by
  obtain ⟨h1, h2⟩ := parcelsOk_iff.1 h
  refine ⟨h2, fun e he => ?_⟩
  obtain ⟨k, hk, rfl⟩ := List.mem_iff_getElem.1 he
  exact (okList_iff.1 h1).1 k _ (List.getElem?_eq_getElem hk)
def Sm (n : Nat) (s : ByteArray) : Prop := s.size ≤ n
theorem sm_lit {n : Nat} (s : ByteArray) (h : s.size ≤ n) : Sm n s := h
theorem sm_dec {n : Int} (h0 : -9223372036854775808 ≤ n) (h1 : n ≤ 9223372036854775807) : Sm 21 (bs (Lib.itoa n)) := by
  unfold Sm; rw [bs_size]; exact Lib.itoa_length_le n h0 h1
theorem sm_app {m n : Nat} {a b : ByteArray} (ha : Sm m a) (hb : Sm n b) : Sm (m + n) (a ++ b) := by
  unfold Sm at *; rw [ByteArray.size_append]; omega
theorem add_eq (P : Program) {m n : Nat} {a b : ByteArray} (ha : Sm m a) (hb : Sm n b) (h : m + n ≤ 100000000 := by decide) (W : World) : (Op.stringOp .add a b).run P W = .ok (.string (a ++ b)) W :=
  run_string_add_sum (w := W) a b (by unfold Sm at *; omega)
theorem spec_l01Dec (n : Int) (h0 : -9223372036854775808 ≤ n) (h1 : n ≤ 9223372036854775807) (w : World) : Calls Tryz.prog 32 #[.int .i64 n] w fun e w' => e = .returned (.string (bs (Lib.itoa n))) ∧ Below w.heap.size w w' := by
  by_cases hn : n < 0
  · obtain ⟨u, rfl⟩ : ∃ u : Nat, n = -(u : Int) := ⟨n.natAbs, by omega⟩
    rw [Lib.itoa_neg u (by omega)]
    exact spec_l01Dec_neg u (by omega) (by omega) w
  · obtain ⟨u, rfl⟩ : ∃ u : Nat, n = (u : Int) := ⟨n.toNat, by omega⟩
    rw [Lib.itoa_nonneg u]
    exact spec_l01Dec_pos u (by omega) w
theorem grow_below (w : World) (k : Nat) (os : Array Obj) : Below w.heap.size w (grow (w.drewN k) os) := by
  have h1 : Below w.heap.size w (w.drewN k) := below_drN (Below.refl _ _) k
  have h2 := below_regrown (w.drewN k) (w.drewN k).drawn os
  have h3 : redrawn (w.drewN k) (w.drewN k).drawn = w.drewN k := by rfl
  rw [h3] at h2
  exact below_then h1 h2
theorem impl_Decimal (n : Int) (h0 : -9223372036854775808 ≤ n) (h1 : n ≤ 9223372036854775807) (w : World) (htab : Lib.TabIs Tryz.prog w "internal/strconv.uint64pow10" .u64 Lib.pow10Tab) :
    Calls Tryz.prog 47 #[.int .i64 n] w fun e w' => e = .returned (.string (bs (Lib.itoa n))) ∧ Below w.heap.size w w' := by
  go_enter Tryz.func47, Tryz.ntmps47
  go_wp2_with (go_at_call 61; refine (Tryz.strconv_FormatInt_10 n h0 h1 _ htab).mono ?_; rintro e w' ⟨rfl, k, os, rfl⟩)
  go_ret
  exact ⟨rfl, grow_below w k os⟩
def billTxt (q : Q4) : ByteArray := (⟨#[111, 119, 110, 101, 114, 32]⟩ : ByteArray) ++ (bs (Lib.itoa q.a)) ++ (⟨#[32, 100, 97, 121, 32]⟩ : ByteArray) ++ (bs (Lib.itoa q.b)) ++ (⟨#[32, 97, 109, 111, 117, 110, 116, 32]⟩ : ByteArray) ++ (bs (Lib.itoa q.c)) ++ (⟨#[32, 112, 97, 105, 100, 32]⟩ : ByteArray) ++ (bs (Lib.itoa q.d))
def parcelTxt (q : Q4) : ByteArray := (⟨#[35]⟩ : ByteArray) ++ (bs (Lib.itoa q.a)) ++ (⟨#[32, 111, 119, 110, 101, 114, 32]⟩ : ByteArray) ++ (bs (Lib.itoa q.b)) ++ (⟨#[32, 97, 114, 101, 97, 32]⟩ : ByteArray) ++ (bs (Lib.itoa q.c)) ++ (⟨#[32, 99, 108, 97, 115, 115, 32]⟩ : ByteArray) ++ (bs (Lib.itoa q.d))
def billOut (q : Q4) : ByteArray := if billOk q = true then billTxt q else ⟨#[]⟩
def parcelOut (q : Q4) : ByteArray := if parcelOk q = true then parcelTxt q else ⟨#[]⟩


end Go.Proofs.YtgbblcbpmpokdaaGreatDoor

/- Walks over functions of this seat, by contract. Conditions: those that each theorem states. -/
import Derived.Test.YtgbblcbpmpokdaaGreatDoorV3
namespace Go.Proofs.YtgbblcbpmpokdaaGreatDoor
open Go.RowKit Go.Sort

theorem ne_t {a : UInt8} {b : Nat} (h : a.toNat ≠ b) : ((a.toNat : Int) != b) = true := by simp; omega
theorem ne_f {a : UInt8} {b : Nat} (h : a.toNat = b) : ((a.toNat : Int) != b) = false := by simp; omega
theorem eq_t {a : UInt8} {b : Nat} (h : a.toNat = b) : ((a.toNat : Int) == b) = true := by simp; omega
theorem eq_f {a : UInt8} {b : Nat} (h : a.toNat ≠ b) : ((a.toNat : Int) == b) = false := by simp; omega
theorem spec_ReadLevel (l : List UInt8) (w : World) (hl : l.length ≤ 1048576) : Calls Tryz.prog 10 #[.string (bs l)] w fun e w' => e = .returned (.tuple #[.int .i64 ((rl l).getD 0), .bool (rl l).isSome]) ∧ Below w.heap.size w w' := by
  have hls : (bs l).toList = l := bs_toList _
  by_cases h6 : l.length < 6
  · exact spec_rl1 l l.length w (bs_size l) (Lib.hid (rl_short h6)) (by omega)
  obtain ⟨x0, t, rfl⟩ : ∃ x0 t, l = x0 :: t := by
    cases l with
    | nil => simp at h6
    | cons a b => exact ⟨_, _, rfl⟩
  obtain ⟨mid, xl, rfl⟩ : ∃ mid xl, t = mid ++ [xl] := by
    rcases List.eq_nil_or_concat t with h | ⟨a, b, h⟩
    · subst h; simp at h6
    · exact ⟨a, b, by rw [h, List.concat_eq_append]⟩
  obtain ⟨N, hN⟩ : ∃ N, mid.length + 1 = N := ⟨_, rfl⟩
  have hlen : (x0 :: (mid ++ [xl])).length = N + 1 := by simp; omega
  have hsz : (bs (x0 :: (mid ++ [xl]))).size = N + 1 := by rw [bs_size, hlen]
  have hg0 : ∀ h, (bs (x0 :: (mid ++ [xl])))[0]'h = x0 := fun _ => rfl
  have hgN : ∀ h, (bs (x0 :: (mid ++ [xl])))[N]'h = xl := fun h => by
    rw [bs_get]
    have : (x0 :: (mid ++ [xl]))[N]? = some xl := by rw [← hN]; simp
    exact (List.getElem?_eq_some_iff.1 this).2
  have hex : (bs (x0 :: (mid ++ [xl]))).extract 1 N = bs mid := by rw [extract_bs, ← hN]; simp
  have h6' : ¬ (N : Int) + 1 < 6 := by omega
  have hNb : N ≤ 1048576 := by omega
  have hF : LF (x0 :: (mid ++ [xl])) mid x0 xl N := ⟨hsz, hg0, hgN, hex, hls, hNb⟩
  by_cases h109 : xl.toNat = 109
  case neg => exact spec_rl2 _ mid x0 xl N w hF (Lib.hid (rl_none fun n p x y m _ e _ _ _ _ _ _ _ _ => by subst e; exact h109 rfl)) h6' (ne_t h109)
  have hm := ne_f h109
  have hxl : xl = 109 := UInt8.toNat_inj.1 (by rw [h109]; rfl)
  have hmid : mid.length ≤ 1048576 := by omega
  obtain ⟨ws, hws⟩ : ∃ ws, spl 46 mid = ws := ⟨_, rfl⟩
  have hc := fun W => spec_l01Split mid 46 46 (by decide) W hmid
  rw [hws] at hc
  have HC := Lib.hid hc
  clear hc
  have key : ∀ (sg : Bool), (if sg then x0.toNat = 43 else x0.toNat = 45) → Calls Tryz.prog 10 #[.string (bs (x0 :: (mid ++ [xl])))] w fun e w' => e = .returned (.tuple #[.int .i64 ((rl (x0 :: (mid ++ [xl]))).getD 0), .bool (rl (x0 :: (mid ++ [xl]))).isSome]) ∧ Below w.heap.size w w' := by
    intro sg hsg
    by_cases hw2 : ws.length = 2
    case neg =>
      have HR := Lib.hid (rl_none (x0 := x0) (xl := xl) (mid := mid) fun n p x y m _ _ e _ _ _ _ _ _ _ => by rw [hws] at e; rw [e] at hw2; exact hw2 rfl)
      cases sg with
      | true => exact spec_rlp4 _ mid x0 xl N w hF HR h6' hm ⟨ne_f hsg, eq_f (by rw [hsg]; decide)⟩ ws hw2 HC
      | false => exact spec_rlm4 _ mid x0 xl N w hF HR h6' hm ⟨ne_t (by rw [hsg]; decide), ne_f hsg, eq_t hsg⟩ ws hw2 HC
    obtain ⟨p, q, rfl⟩ := two_of hw2
    have hpl : p.length ≤ 1048576 := by have := spl_long (c := 46) (l := mid) (x := p) (by rw [hws]; simp); omega
    by_cases hq2 : q.length = 2
    case neg =>
      have HR := Lib.hid (rl_none (x0 := x0) (xl := xl) (mid := mid) fun n p' x y m _ _ e _ _ _ _ _ _ _ => by
        rw [hws] at e; injection e with _ e; injection e with e _; rw [e] at hq2; exact hq2 rfl)
      cases sg with
      | true => exact spec_rlp5 _ mid x0 xl N w hF HR h6' hm ⟨ne_f hsg, eq_f (by rw [hsg]; decide)⟩ p q _ rfl (by rw [bs_size]; omega) HC
      | false => exact spec_rlm5 _ mid x0 xl N w hF HR h6' hm ⟨ne_t (by rw [hsg]; decide), ne_f hsg, eq_t hsg⟩ p q _ rfl (by rw [bs_size]; omega) HC
    obtain ⟨x, y, rfl⟩ := two_of hq2
    rcases Bool.eq_false_or_eq_true (inR (x.toNat : Int) 48 57) with gx | gx
    case inr =>
      have HR := Lib.hid (rl_none (x0 := x0) (xl := xl) (mid := mid) fun n p' x' y' m _ _ e _ _ ex _ _ _ _ => by
        rw [hws] at e; injection e with _ e; injection e with e _; injection e with e _; rw [← e, gx] at ex; cases ex)
      cases sg with
      | true => exact spec_rlp6 _ mid x0 xl N w hF HR h6' hm ⟨ne_f hsg, eq_f (by rw [hsg]; decide)⟩ p x y gx HC
      | false => exact spec_rlm6 _ mid x0 xl N w hF HR h6' hm ⟨ne_t (by rw [hsg]; decide), ne_f hsg, eq_t hsg⟩ p x y gx HC
    rcases Bool.eq_false_or_eq_true (inR (y.toNat : Int) 48 57) with gy | gy
    case inr =>
      have HR := Lib.hid (rl_none (x0 := x0) (xl := xl) (mid := mid) fun n p' x' y' m _ _ e _ _ _ ex _ _ _ => by
        rw [hws] at e; injection e with _ e; injection e with e _; injection e with _ e; injection e with e _; rw [← e, gy] at ex; cases ex)
      cases sg with
      | true => exact spec_rlp7 _ mid x0 xl N w hF HR h6' hm ⟨ne_f hsg, eq_f (by rw [hsg]; decide)⟩ p x y gx gy HC
      | false => exact spec_rlm7 _ mid x0 xl N w hF HR h6' hm ⟨ne_t (by rw [hsg]; decide), ne_f hsg, eq_t hsg⟩ p x y gx gy HC
    cases hnm : nmF p with
    | none =>
      have hM := fun W => spec_l01Number p W hpl
      rw [hnm] at hM
      have HM := Lib.hid hM
      have HR := Lib.hid (rl_none (x0 := x0) (xl := xl) (mid := mid) fun n p' x' y' m _ _ e ex _ _ _ _ _ _ => by
        rw [hws] at e; injection e with e _; rw [← e, hnm] at ex; cases ex)
      cases sg with
      | true => exact spec_rlp8 _ mid x0 xl N w hF HR h6' hm ⟨ne_f hsg, eq_f (by rw [hsg]; decide)⟩ p x y gx gy HC HM
      | false => exact spec_rlm8 _ mid x0 xl N w hF HR h6' hm ⟨ne_t (by rw [hsg]; decide), ne_f hsg, eq_t hsg⟩ p x y gx gy HC HM
    | some m =>
      have hM := fun W => spec_l01Number p W hpl
      rw [hnm] at hM
      have HM := Lib.hid hM
      rcases Bool.eq_false_or_eq_true (inR m 0 20) with hin | hin
      case inr =>
        have HR := Lib.hid (rl_none (x0 := x0) (xl := xl) (mid := mid) fun n p' x' y' m' _ _ e ex ei _ _ _ _ _ => by
          rw [hws] at e; injection e with e _; rw [← e, hnm] at ex; injection ex with ex; rw [← ex, hin] at ei; cases ei)
        cases sg with
        | true => exact spec_rlp9 _ mid x0 xl N w hF HR h6' hm ⟨ne_f hsg, eq_f (by rw [hsg]; decide)⟩ p x y m hin gx gy HC HM
        | false => exact spec_rlm9 _ mid x0 xl N w hF HR h6' hm ⟨ne_t (by rw [hsg]; decide), ne_f hsg, eq_t hsg⟩ p x y m hin gx gy HC HM
      have hfin := fun h => rl_fin (x0 := x0) (xl := xl) hws hnm h
      obtain ⟨n, hn⟩ : ∃ n, lvN x0 m x y = n := ⟨_, rfl⟩
      rw [hn] at hfin
      have hnp : sg = true → 100 * m + 10 * ((x.toNat : Int) - 48) + ((y.toNat : Int) - 48) = n := fun h => by
        subst h; rw [← hn, lvN, if_neg (fun e => by subst e; exact absurd hsg (by decide))]
      have hnm' : sg = false → 100 * m + 10 * ((x.toNat : Int) - 48) + ((y.toNat : Int) - 48) = -n := fun h => by
        subst h; rw [← hn, lvN, if_pos (UInt8.toNat_inj.1 (by rw [show x0.toNat = 45 from hsg]; rfl))]; omega
      rcases Bool.eq_false_or_eq_true (lvl n) with hv | hv
      case inr =>
        have HR := Lib.hid (hfin fun h => by rw [hv] at h; cases h.1)
        cases sg with
        | true => exact spec_rlpa _ mid x0 xl N w hF HR h6' hm ⟨ne_f hsg, eq_f (by rw [hsg]; decide)⟩ p x y m n hin (hnp rfl) hv gx gy HC HM
        | false => exact spec_rlma _ mid x0 xl N w hF HR h6' hm ⟨ne_t (by rw [hsg]; decide), ne_f hsg, eq_t hsg⟩ p x y m n hin (hnm' rfl) hv gx gy HC HM
      have hse := str_eq (lvL n) (x0 :: (mid ++ [xl]))
      by_cases heq : lvL n = x0 :: (mid ++ [xl])
      · have HR := Lib.hid ((rl_iff _ n).2 ⟨hv, heq.symm⟩)
        rw [decide_eq_true heq] at hse
        cases sg with
        | true => exact spec_rlpc _ mid x0 xl N w hF h6' hm ⟨ne_f hsg, eq_f (by rw [hsg]; decide)⟩ p x y m n hin (hnp rfl) hv HR gx gy HC HM (Lib.hid hse)
        | false => exact spec_rlmc _ mid x0 xl N w hF h6' hm ⟨ne_t (by rw [hsg]; decide), ne_f hsg, eq_t hsg⟩ p x y m n hin (hnm' rfl) hv HR gx gy HC HM (Lib.hid hse)
      · have HR := Lib.hid (hfin fun h => heq h.2)
        rw [decide_eq_false heq] at hse
        cases sg with
        | true => exact spec_rlpb _ mid x0 xl N w hF HR h6' hm ⟨ne_f hsg, eq_f (by rw [hsg]; decide)⟩ p x y m n hin (hnp rfl) hv gx gy HC HM (Lib.hid hse)
        | false => exact spec_rlmb _ mid x0 xl N w hF HR h6' hm ⟨ne_t (by rw [hsg]; decide), ne_f hsg, eq_t hsg⟩ p x y m n hin (hnm' rfl) hv gx gy HC HM (Lib.hid hse)
  by_cases h43 : x0.toNat = 43
  · exact key true h43
  by_cases h45 : x0.toNat = 45
  · exact key false h45
  exact spec_rl3 _ mid x0 xl N w hF (Lib.hid (rl_none fun n p x y m e _ _ _ _ _ _ _ _ _ => by
    rcases e with e | e
    · subst e; exact h43 rfl
    · subst e; exact h45 rfl)) h6' hm (ne_t h43) (ne_t h45)

end Go.Proofs.YtgbblcbpmpokdaaGreatDoor

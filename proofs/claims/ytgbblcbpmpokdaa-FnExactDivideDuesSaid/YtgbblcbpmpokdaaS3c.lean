/- Walks over functions of this seat, by contract. Conditions: those that each theorem states. -/
import Derived.Test.YtgbblcbpmpokdaaS3
import Derived.Test.YtgbblcbpmpokdaaS3b
namespace Go.Proofs.Ytgbblcbpmpokdaa
open Go.RowKit Go.Sort

theorem symMerge {α : Type} [Inhabited α] (enc : α → Value) (lt : α → α → Bool) (R V : α → α → Prop) (o : Ord lt R V) (g : Nat) (lb : Array Value) (sf : Nat) (sb : Array Value) (blk off : Nat)
    (eg : ∀ args w, (callFunc g args).run Try.prog w = .ok (.enter g args) w) :
    ∀ (N a m b : Nat) (d : Array α) (w : World), b - a < N → LessReads Try.prog g lb enc lt blk off d.size w → SwapSwaps Try.prog sf sb enc blk off d.size → Holds enc w blk off d → blk < w.heap.size → a < m → m < b → b ≤ d.size → d.size < 4611686018427387904 →
      Srt R d a m → Srt R d m b → Crs V d a m b →
      Calls Try.prog 119 #[.agg #[.func (.func g) #[] lb, .func (.func sf) #[] sb], .int .i64 a, .int .i64 m, .int .i64 b] w fun e w' => e = .returned (.tuple #[]) ∧ ∃ d', Mrg R d d' a b ∧ SW enc w blk off d' w' := by
  intro N
  induction N with
  | zero => intro _ _ _ _ _ h; exact absurd h (Nat.not_lt_zero _)
  | succ N ih =>
    intro a m b d w hN hless hswap hH hblk h1 h2 h3 hsz hl hr hx
    by_cases k1 : m = a + 1
    · exact symMerge_l enc lt R V o g lb sf sb blk off eg a m b d w hless hswap hH hblk h1 h2 h3 hsz hr hx k1
    by_cases k2 : b = m + 1
    · exact symMerge_r enc lt R V o g lb sf sb blk off eg a m b d w hless hswap hH hblk h1 h2 h3 hsz hl hx k1 k2
    rcases Nat.lt_or_ge ((a + b) / 2) m with hm | hm
    · exact symMerge_lo enc lt R V o g lb sf sb blk off eg N ih a m b d w hN hless hswap hH hblk h1 h2 h3 hsz hl hr hx k1 k2 hm
    · exact symMerge_hi enc lt R V o g lb sf sb blk off eg N ih a m b d w hN hless hswap hH hblk h1 h2 h3 hsz hl hr hx k1 k2 hm

end Go.Proofs.Ytgbblcbpmpokdaa

/- A log's spots as an iterator, in the form that the rule for ranges asks. No condition. -/
import Derived.Test.YtpckkajodpiiaaaE11
namespace Go.Proofs.Ytpckkajodpiiaaa
open Go.RowKit Go.Shelf
set_option linter.unusedVariables false
set_option linter.unusedSimpArgs false

/-- The captured log is kept. -/
def KeepL (e2 : Option TypeId) (Bn : Nat) (i t : Int) (A : Option Addr) (N c : Nat) (ps : List EP) (W W' : World) : Prop :=
  (Blk W Bn 79 #[.int .u64 i, .int .u64 t, .slice A N c] ∧ SeesE W e2 A N ps) → (Blk W' Bn 79 #[.int .u64 i, .int .u64 t, .slice A N c] ∧ SeesE W' e2 A N ps)
def spotEnc (i t : Int) (l : List Ent) (N m : Nat) : Array Value := #[.int .i64 ((N : Int) - m), atV (spotN i t l (N - m))]

theorem spots_stops {e2 : Option TypeId} (n : Nat) (hn : 1 ≤ n) (Bn : Nat) (i t : Int) (A : Option Addr) (N c : Nat) (ps : List EP) (hN : N ≤ 1000000000) (hi0 : 0 ≤ i) (hi1 : i < 18446744073709551616) (w : World)
    (hI : Blk w Bn 79 #[.int .u64 i, .int .u64 t, .slice A N c] ∧ SeesE w e2 A N ps) :
    SeqStopsK Fence.wide n Try.prog 71 #[.pointer (some ⟨Bn, 0, none⟩)] (spotEnc i t (es ps) N) (KeepL e2 Bn i t A N c ps) (fun ys => ys = List.range (N + 1)) (fun pre => ∃ m, m ≤ N ∧ pre = List.range (m + 1)) (N + 1) w := by
  intro l J Jx W hW hJ hJx hY h0
  have := spots1_in n hn l Bn i t A N c ps hN hi0 hi1 (fun m W => J (List.range m) W) (fun m W => Jx (List.range (m + 1)) W) (KeepL e2 Bn i t A N c ps) (fun _ _ h hh => h hh)
    (fun m A' B' h hb => hJ _ _ _ none h (grown_below hb none) (fun r e => by cases e))
    (fun m W1 h hm => by
      have := hY (List.range m) m W1 h (by simp; omega)
      rwa [← List.range_succ] at this) W ⟨hI.1.below hW, hI.2.below hW⟩ h0
  refine this.mono ?_
  rintro e W' ⟨h1, h2 | ⟨m, hm, h2⟩⟩
  · exact ⟨h1, .inl ⟨_, rfl, h2⟩⟩
  · exact ⟨h1, .inr ⟨_, ⟨m, hm, rfl⟩, h2⟩⟩
end Go.Proofs.Ytpckkajodpiiaaa

/-
  The walk of HeapLists.
-/
import Derived.Test.YtjaabbjobnfmmaaWorksB
namespace Go.Proofs.Ytjaabbjobnfmmaa
open Go.RowKit

set_option maxHeartbeats 400000 in
theorem lists_walk (a : Option Addr) (b off cap : Nat) (l : List Dd) (w : World) (h : DeedsIn w a b off l) (hs : l.length < 4398046511104) :
    Calls Try.prog 3 #[.slice a l.length cap] w fun e w' => e = .returned (.bool true) ∧ Fr0 w w' := by
  have h1 := play_any a b off cap l w h
  have h2 : ∀ W, Fr0 w W → Calls Try.prog 17 #[.slice a l.length cap] W fun e w' => e = .returned (.tuple #[.int .i64 (hplay [] 0 l).1, .int .i64 (hplay [] 0 l).2]) ∧ Fr0 W w' := fun W hW => by
    have := refPlay_any a b off cap l W (h.fr hW (fun h => h)) hs
    rwa [← play_same l 0 [] [] same_nil] at this
  generalize (hplay [] 0 l).1 = x at h1 h2
  generalize (hplay [] 0 l).2 = y at h1 h2
  clear h
  go_enter Try.func3, Try.ntmps3
  go_wp2_with (first
    | (go_at_call 16; refine h1.mono ?_; rintro e w1 ⟨rfl, hf1⟩)
    | (go_at_call 17; refine (h2 _ hf1).mono ?_; rintro e w2 ⟨rfl, hf2⟩)
    | (go_at_call 18; refine (works_any _).mono ?_; rintro e w3 ⟨rfl, hf3⟩))
  go_ret
  exact ⟨rfl, (hf1.trans0 hf2).trans0 hf3⟩
end Go.Proofs.Ytjaabbjobnfmmaa

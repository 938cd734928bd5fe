/-
  HeapLists returns true for every list of deeds, and its argument reads afterwards as it read before: heap.Play answers as the document's Play does. No condition.
-/
import Derived.Test.YtjaabbjobnfmmaaWorksB
import Derived.Test.YtjaabbjobnfmmaaOpen
import Derived.ChangeOld
import Derived.OpenShut
namespace Go.Proofs.Ytjaabbjobnfmmaa
open Go.ChangeShapes Go.WideShapes Go.ChangeAt Go.RowKit

set_option maxHeartbeats 400000 in
theorem heapLists_walk (a : Option Addr) (b off cap : Nat) (l : List Dd) (w : World) (h : DeedsIn w a b off l) (hs : l.length < 4398046511104) :
    Calls Try.prog 3 #[.slice a l.length cap] w fun e w' => e = .returned (.bool true) ∧ Fr0 w w' := by
  have h1 := play_any a b off cap l w h
  have h2 : ∀ W, Fr0 w W → Calls Try.prog 17 #[.slice a l.length cap] W fun e w' => e = .returned (.tuple #[.int .i64 (hplay [] 0 l).1, .int .i64 (hplay [] 0 l).2]) ∧ Fr0 W w' := fun W hW => by
    have := refPlay_any a b off cap l W (h.fr hW (fun h => h)) hs
    rwa [← play_same l 0 [] [] same_nil] at this
  generalize (hplay [] 0 l).1 = x at h1 h2
  generalize (hplay [] 0 l).2 = y at h1 h2
  clear h
  go_enter Try.func3, Try.ntmps3
  go_wp2_with (first
    | (go_at_call 16; refine h1.mono ?_; rintro e w1 ⟨rfl, hf1⟩)
    | (go_at_call 17; refine (h2 _ hf1).mono ?_; rintro e w2 ⟨rfl, hf2⟩)
    | (go_at_call 18; refine (works_any _).mono ?_; rintro e w3 ⟨rfl, hf3⟩))
  go_ret
  exact ⟨rfl, (hf1.trans0 hf2).trans0 hf3⟩

theorem ownKnob' : ownKnob Try.prog.godebug = none := by kernel_rfl

set_option maxRecDepth 100000 in
theorem heapLists_lifted (os : Os) (started : os.Started) (H : Type) (enc : TypeId × Value → H) :
    ReturnsInHanded {} Try.checked os 3 .any (Rows.heapListsSpec.pre6 enc Try.prog Try.f3 Rows.heapListsRow.domain false) (Rows.heapListsSpec.post enc Try.prog Try.f3 false true false false) := by
  refine returnsInHanded_of_change_sized (C := Try.checked) ownKnob' started (by kernel_rfl) Try.func3
    (ChangeSpec.witness6 (enc := enc) (C := Try.checked) false ⟨#[], #[.slice none 0 0], []⟩ 8 (by kernel_rfl) (by kernel_rfl) (by kernel_rfl) (by kernel_rfl)) ?_
  intro W base args ds gs before hval0 hW _ hsz0 _
  have hsz : (DataW.weightsEach Try.prog (Try.f3.params.toList ++ Rows.heapListsSpec.plain.varTypes Try.prog) (ds ++ gs)).all (· ≤ reachBytes) = true := hsz0
  clear hsz0
  have hval : ∀ (j : Nat) t v, Try.f3.params[j]? = some t → args[j]? = some v → Value.okWide Try.prog W .any base t v := hval0
  have hW' := hW
  obtain ⟨p, q, hA0, hV, rfl, _, _⟩ := hW
  have hA : DataW.TrodAll enc Try.prog W 0 (fun _ => true) true Try.f3.params.toList args.toList ds p := hA0
  rw [Try.params3] at hA hval hsz
  obtain ⟨v0, d0, rfl, rfl, h0⟩ := trodAll_one hA
  obtain ⟨rfl, rfl⟩ := trodVars_none hV
  obtain ⟨a0, len, cap, rfl⟩ := okWide_slice Try.underlying22 (hval 0 22 v0 rfl rfl)
  have h0k := h0
  clear hA0 hval0
  simp only [List.append_nil] at hW'
  have hlt : ∀ x ∈ p, x.block < W.heap.size := fun x hx => by simpa using hW'.lt x hx
  have hreach : len * 32 ≤ 140737488351232 := reach_deeds h0 hsz
  obtain ⟨b, off, l, rfl, hD⟩ := open_deeds h0 hreach
  refine (heapLists_walk a0 b off cap l W hD (by omega)).mono fun e W' ⟨he, hf⟩ => ?_
  subst he
  have bel := hf.toBelow
  exact ⟨_, rfl, _, _, _, [], p, [], hW', trodAll_mk1 (shut_bool Try.underlying4 _), trodAll_mk1 (Below.trod laidOut (by kernel_rfl) (of_decide_eq_true (by kernel_rfl)) h0k bel hlt), rfl, bel.frame _, fun h => by cases h⟩

theorem heapLists_holds : Rows.HeapListsSaid :=
  OpenClaim.holds_of_wide 3 Try.f3 rfl rfl rfl rfl rfl rfl rfl ⟨rfl, rfl, rfl, rfl, rfl⟩ rfl rfl rfl rfl rfl (by kernel_rfl) Try.func3 (by kernel_rfl)
    (of_decide_eq_true (by kernel_rfl)) (by unfold Func.isWrapper; first | (rw [if_pos (by decide +kernel)]; kernel_rfl) | (rw [if_neg (by decide +kernel)]; exact ⟨rfl, rfl⟩))
    (fun os started H enc _ => heapLists_lifted os started H enc)
#print axioms heapLists_holds
end Go.Proofs.Ytjaabbjobnfmmaa

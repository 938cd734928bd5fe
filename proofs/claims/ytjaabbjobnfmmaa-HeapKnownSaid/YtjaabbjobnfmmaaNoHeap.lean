/-
  Heaps that are none: what the methods answer.
-/
import Derived.Test.YtjaabbjobnfmmaaHeapC
namespace Go.Proofs.Ytjaabbjobnfmmaa
open Go.RowKit

/-- A pointer to no heap: nil, or a heap without its map. -/
def NoHeap (w : World) (v : Value) : Prop := v = .pointer none ∨ ∃ p, v = .pointer (some ⟨p, 0, none⟩) ∧ w.heap[p]? = some (.cells #[.map none] 44 (0, 0))
theorem NoHeap.fr0 {w w' : World} {v : Value} (h : NoHeap w v) (hf : Fr0 w w') : NoHeap w' v := by
  rcases h with h | ⟨p, h1, h2⟩
  · exact .inl h
  · exact .inr ⟨p, h1, hf.at h2 (fun h => h)⟩

set_option maxHeartbeats 400000 in
theorem noNone_any (v : Value) (w : World) (h : NoHeap w v) : Calls Try.prog 44 #[v] w fun e w' => e = .returned (.bool true) ∧ w = w' := by
  have he := fun (w : World) (r : Option Nat) => run_eql_map_nil (P := Try.prog) w 42 30 69 r Try.underlying42
  rcases h with rfl | ⟨p, rfl, hp⟩
  · go_enter Try.func44, Try.ntmps44
    go_wp2
    go_ret
    exact ⟨rfl, rfl⟩
  · have hc : w.cell? ⟨p, 0, none⟩ = some (.map none) := cell_of_block hp 0
    clear hp
    go_enter Try.func44, Try.ntmps44
    go_wp2
    go_ret
    exact ⟨rfl, rfl⟩

set_option maxHeartbeats 400000 in
theorem noHas_any (v : Value) (x : Ob) (w : World) (h : NoHeap w v) : Calls Try.prog 24 #[v, .agg #[.int .i64 x.c, .int .i64 x.s, .int .i64 x.o]] w fun e w' => e = .returned (.bool false) ∧ Fr0 w w' := by
  have HN := fun o => noNone_any v (w.alloc o) (h.fr0 (fr0_alloc w o))
  clear h
  go_enter Try.func24, Try.ntmps24
  go_wp2_with (go_at_call 44; refine (HN _).mono ?_; rintro e w' ⟨rfl, rfl⟩)
  go_ret
  exact ⟨rfl, fr0_alloc _ _⟩

set_option maxHeartbeats 400000 in
theorem noDo_any (v : Value) (k : Int) (x : Ob) (w : World) (h : NoHeap w v) : Calls Try.prog 22 #[v, .agg #[.int .i64 k, .int .i64 x.c, .int .i64 x.s, .int .i64 x.o]] w fun e w' => e = .returned (.int .i64 1) ∧ Fr0 w w' := by
  have HN := fun o => noNone_any v (w.alloc o) (h.fr0 (fr0_alloc w o))
  clear h
  go_enter Try.func22, Try.ntmps22
  go_wp2_with (go_at_call 44; refine (HN _).mono ?_; rintro e w' ⟨rfl, rfl⟩)
  go_ret
  exact ⟨rfl, fr0_alloc _ _⟩

set_option maxHeartbeats 400000 in
theorem noOut_any (v : Value) (w : World) (h : NoHeap w v) : Calls Try.prog 23 #[v] w fun e w' => e = .returned (.slice none 0 0) ∧ w = w' := by
  have HN := noNone_any v w h
  clear h
  go_enter Try.func23, Try.ntmps23
  go_wp2_with (go_at_call 44; refine HN.mono ?_; rintro e w' ⟨rfl, rfl⟩)
  go_ret
  exact ⟨rfl, rfl⟩

set_option maxHeartbeats 400000 in
theorem noMany_any (v : Value) (c : Int) (w : World) (h : NoHeap w v) : Calls Try.prog 25 #[v, .int .i64 c] w fun e w' => e = .returned (.int .i64 0) ∧ w = w' := by
  have HN := noNone_any v w h
  clear h
  go_enter Try.func25, Try.ntmps25
  go_wp2_with (go_at_call 44; refine HN.mono ?_; rintro e w' ⟨rfl, rfl⟩)
  go_ret
  exact ⟨rfl, rfl⟩
end Go.Proofs.Ytjaabbjobnfmmaa

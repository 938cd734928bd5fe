/-
  OrderKnown's histories, in plain Lean; slices of slices of numbers; parts of a slice.
-/
import Derived.Test.YtjaabbjobnfmmaaOrderExactW
import Derived.Test.YtjaabbjobnfmmaaOrderLinesW
namespace Go.Proofs.Ytjaabbjobnfmmaa
open Go.RowKit

/-- Histories that may not be. -/
def badsL : List Sp := [⟨⟨0, zob⟩, 0, 0⟩, spx 0 0 0, spx 5 0 0, spx 1 (-1) 0, spx 1 3 2, spx 1 0 (-2), spx 1 9007199254740992 (-1), spx 1 0 9007199254740992, spx 2 0 0]
theorem badsL_chk : ∀ x ∈ badsL, chk [x] = 2 := by decide
theorem badsL_wf : ∀ x ∈ badsL, x.wf := by
  intro x hx
  simp only [badsL, List.mem_cons, List.not_mem_nil, or_false] at hx
  rcases hx with rfl | rfl | rfl | rfl | rfl | rfl | rfl | rfl | rfl
  · exact ⟨⟨by decide, by decide, by decide, by decide⟩, by decide, by decide⟩
  all_goals exact spx_wf (by decide) (by decide) (by decide)

/-- Too many calls. -/
def mnyF (i : Nat) : Sp := spx (1 + 2 * ((i % 2 : Nat) : Int)) i ((i : Int) + 3)
def mnyL (n : Nat) : List Sp := (List.range n).map mnyF
theorem mnyL_len (n : Nat) : (mnyL n).length = n := by simp [mnyL]
theorem mnyL_snoc (n : Nat) : mnyL (n + 1) = mnyL n ++ [mnyF n] := by simp [mnyL, List.range_succ]
theorem mnyL_wf (n : Nat) (hn : n ≤ 1000) : ∀ x ∈ mnyL n, x.wf := by
  intro x hx
  obtain ⟨i, hi, rfl⟩ := List.mem_map.1 hx
  have hi := List.mem_range.1 hi
  exact spx_wf (WalkArith.wf_i64 (n := 1 + 2 * ((i % 2 : Nat) : Int)) ⟨by omega, by omega⟩) (WalkArith.wf_i64 (n := (i : Int)) ⟨by omega, by omega⟩) (WalkArith.wf_i64 (n := (i : Int) + 3) ⟨by omega, by omega⟩)

theorem spansOwn {w : World} {B : Nat} {v : Value} {l : List Sp} (h : OwnS w B v l) (hw : ∀ d ∈ l, d.wf) (hs : l.length ≤ 100000) : ∃ a b cap, v = .slice a l.length cap ∧ SpansIn w a b 0 l ∧ l.length ≤ cap ∧ (a = none → cap = 0) := by
  obtain ⟨a, g, cap, rfl, ha, h1, h2, h3, h4, h5, h7⟩ := own_form h
  exact ⟨a, g, cap, rfl, ⟨ha, fun j hj => by rw [Nat.zero_add]; exact h5 j hj, fun h => (h4 h).2.2, hw, by omega⟩, h1, fun ha => (h7 ha).2⟩

/-- One call of a slice. -/
theorem slice_one {b n k : Nat} (hk : k < n) (W : World) :
    (Instr.slice 45 (.slice (some ⟨b, 0, none⟩) n n) (some (.int .i64 k)) (some (.int .i64 ((k : Int) + 1))) none).run Try.prog W = .ok (.slice (some ⟨b, k * 6, none⟩) 1 (n - k)) W := by
  have e1 : ((k : Int) + 1).toNat = k + 1 := by omega
  have e2 : ¬ n = k := by omega
  have e3 : k + 1 - k = 1 := by omega
  have hu := run_underlying (P := Try.prog) (w := W) Try.underlying45
  simp [Instr.slice, hu, Instr.sliceBounds, Instr.sliceBound, asIntOf, e1, e2, e3, Addr.add]
  rw [if_pos ⟨by omega, by omega⟩]
  by_cases h0 : k * 6 = 0
  · rw [if_pos h0, h0]
  · rw [if_neg h0]
theorem SpansIn.one {w : World} {b : Nat} {l : List Sp} (h : SpansIn w (some ⟨b, 0, none⟩) b 0 l) (k : Nat) (hk : k < l.length) : SpansIn w (some ⟨b, k * 6, none⟩) b (k * 6) [l[k]] := by
  refine ⟨fun _ => rfl, fun j hj => ?_, fun _ => h.lt (by omega), fun d hd => by rw [List.mem_singleton.1 hd]; exact h.wf _ (List.getElem_mem hk), by simp⟩
  have hj6 : j < 6 := by simpa using hj
  have := h.cells (k * 6 + j) (by omega)
  rw [Nat.zero_add] at this
  rw [this, flat_get enc6 l k hk j hj6]
  simp [flat]

/-- A slice of slices of numbers: each of its nine. -/
def Ords (w : World) (ob : Nat) : Prop := ∀ j, j < 9 → ∃ (a : Option Addr) (b cap : Nat) (o : List Int), w.cell? ⟨ob, j, none⟩ = some (.slice a o.length cap) ∧ NumsIn w a b 0 o ∧ o.length ≤ cap
theorem Ords.fr0 {w w' : World} {ob : Nat} (h : Ords w ob) (hf : Fr0 w w') : Ords w' ob := by
  intro j hj
  obtain ⟨a, b, cap, o, h1, h2, h3⟩ := h j hj
  exact ⟨a, b, cap, o, (hf.cell (p := ⟨ob, j, none⟩) (World.block_lt_of_cell? w _ h1) id).trans h1, h2.fr0 hf, h3⟩
theorem size46 (W : World) : (sizeOf 46).run Try.prog W = .ok 1 W := by go_simp
theorem index58 (ob j : Nat) (hj : j < 9) (W : World) : (Instr.indexAt 58 (.slice (some ⟨ob, 0, none⟩) 9 9) (.int .i64 j)).run Try.prog W = .ok (.pointer (some ⟨ob, j, none⟩)) W := by
  have := index_of0 (n := 9) (a := some ⟨ob, 0, none⟩) Try.underlying58 W (size46 W) (fun _ => rfl) 9 j hj
  simpa using this

def mostS : Sp := ⟨⟨2, zob⟩, 9007199254740991, 9007199254740991⟩
theorem known_most : linesM 0 [0] [mostS] = true := by decide
theorem known_none : linesM 0 [] [] = true := by decide
theorem known_pend : linesM 0 [] [spx 1 0 (-1), spx 4 2 (-1)] = true := by decide
theorem known_many : chk (mnyL 257) = 5 := by unfold chk; rw [mnyL_len]; rfl
theorem SpansIn.nil (w : World) : SpansIn w none 0 0 [] := ⟨by simp, by simp, by simp, by simp, by simp⟩
/-- The nine orders, made. -/
def ordsW (w : World) : World := ((((((((w.alloc (.cells #[.int .i64 0] 3)).alloc (.cells #[.int .i64 1] 3)).alloc (.cells #[.int .i64 0, .int .i64 1] 3)).alloc (.cells #[.int .i64 1, .int .i64 0] 3)).alloc (.cells #[.int .i64 0, .int .i64 0] 3)).alloc (.cells #[.int .i64 (-1)] 3)).alloc (.cells #[.int .i64 2] 3)).alloc (.cells #[.int .i64 0, .int .i64 1, .int .i64 2] 3)).alloc (.cells #[.slice none 0 0, .slice (some ⟨w.heap.size, 0, none⟩) 1 1, .slice (some ⟨w.heap.size + 1, 0, none⟩) 1 1, .slice (some ⟨w.heap.size + 1 + 1, 0, none⟩) 2 2, .slice (some ⟨w.heap.size + 1 + 1 + 1, 0, none⟩) 2 2, .slice (some ⟨w.heap.size + 1 + 1 + 1 + 1, 0, none⟩) 2 2, .slice (some ⟨w.heap.size + 1 + 1 + 1 + 1 + 1, 0, none⟩) 1 1, .slice (some ⟨w.heap.size + 1 + 1 + 1 + 1 + 1 + 1, 0, none⟩) 1 1, .slice (some ⟨w.heap.size + 1 + 1 + 1 + 1 + 1 + 1 + 1, 0, none⟩) 3 3] 46)
theorem ordsW_is (w : World) : Ords (ordsW w) (w.heap.size + 1 + 1 + 1 + 1 + 1 + 1 + 1 + 1) ∧ Fr0 w (ordsW w) := by
  unfold ordsW
  have h0 := nums_block [0] (alloc_block w (.cells #[.int .i64 0] 3)) (by decide)
  have g1 : Fr0 w (w.alloc (.cells #[.int .i64 0] 3)) := fr0_alloc _ _
  have s1 : (w.alloc (.cells #[.int .i64 0] 3)).heap.size = w.heap.size + 1 := by simp
  generalize w.alloc (.cells #[.int .i64 0] 3) = w1 at h0 g1 s1 ⊢
  have f1 : Fr0 w w1 := g1
  have h1 := nums_block [1] (alloc_block w1 (.cells #[.int .i64 1] 3)) (by decide)
  rw [s1] at h1
  have g2 : Fr0 w1 (w1.alloc (.cells #[.int .i64 1] 3)) := fr0_alloc _ _
  have s2 : (w1.alloc (.cells #[.int .i64 1] 3)).heap.size = w.heap.size + 1 + 1 := by simp [s1]
  generalize w1.alloc (.cells #[.int .i64 1] 3) = w2 at h1 g2 s2 ⊢
  have h0 := h0.fr0 g2
  have f2 : Fr0 w w2 := f1.trans0 g2
  have h2 := nums_block [0, 1] (alloc_block w2 (.cells #[.int .i64 0, .int .i64 1] 3)) (by decide)
  rw [s2] at h2
  have g3 : Fr0 w2 (w2.alloc (.cells #[.int .i64 0, .int .i64 1] 3)) := fr0_alloc _ _
  have s3 : (w2.alloc (.cells #[.int .i64 0, .int .i64 1] 3)).heap.size = w.heap.size + 1 + 1 + 1 := by simp [s2]
  generalize w2.alloc (.cells #[.int .i64 0, .int .i64 1] 3) = w3 at h2 g3 s3 ⊢
  have h0 := h0.fr0 g3
  have h1 := h1.fr0 g3
  have f3 : Fr0 w w3 := f2.trans0 g3
  have h3 := nums_block [1, 0] (alloc_block w3 (.cells #[.int .i64 1, .int .i64 0] 3)) (by decide)
  rw [s3] at h3
  have g4 : Fr0 w3 (w3.alloc (.cells #[.int .i64 1, .int .i64 0] 3)) := fr0_alloc _ _
  have s4 : (w3.alloc (.cells #[.int .i64 1, .int .i64 0] 3)).heap.size = w.heap.size + 1 + 1 + 1 + 1 := by simp [s3]
  generalize w3.alloc (.cells #[.int .i64 1, .int .i64 0] 3) = w4 at h3 g4 s4 ⊢
  have h0 := h0.fr0 g4
  have h1 := h1.fr0 g4
  have h2 := h2.fr0 g4
  have f4 : Fr0 w w4 := f3.trans0 g4
  have h4 := nums_block [0, 0] (alloc_block w4 (.cells #[.int .i64 0, .int .i64 0] 3)) (by decide)
  rw [s4] at h4
  have g5 : Fr0 w4 (w4.alloc (.cells #[.int .i64 0, .int .i64 0] 3)) := fr0_alloc _ _
  have s5 : (w4.alloc (.cells #[.int .i64 0, .int .i64 0] 3)).heap.size = w.heap.size + 1 + 1 + 1 + 1 + 1 := by simp [s4]
  generalize w4.alloc (.cells #[.int .i64 0, .int .i64 0] 3) = w5 at h4 g5 s5 ⊢
  have h0 := h0.fr0 g5
  have h1 := h1.fr0 g5
  have h2 := h2.fr0 g5
  have h3 := h3.fr0 g5
  have f5 : Fr0 w w5 := f4.trans0 g5
  have h5 := nums_block [(-1)] (alloc_block w5 (.cells #[.int .i64 (-1)] 3)) (by decide)
  rw [s5] at h5
  have g6 : Fr0 w5 (w5.alloc (.cells #[.int .i64 (-1)] 3)) := fr0_alloc _ _
  have s6 : (w5.alloc (.cells #[.int .i64 (-1)] 3)).heap.size = w.heap.size + 1 + 1 + 1 + 1 + 1 + 1 := by simp [s5]
  generalize w5.alloc (.cells #[.int .i64 (-1)] 3) = w6 at h5 g6 s6 ⊢
  have h0 := h0.fr0 g6
  have h1 := h1.fr0 g6
  have h2 := h2.fr0 g6
  have h3 := h3.fr0 g6
  have h4 := h4.fr0 g6
  have f6 : Fr0 w w6 := f5.trans0 g6
  have h6 := nums_block [2] (alloc_block w6 (.cells #[.int .i64 2] 3)) (by decide)
  rw [s6] at h6
  have g7 : Fr0 w6 (w6.alloc (.cells #[.int .i64 2] 3)) := fr0_alloc _ _
  have s7 : (w6.alloc (.cells #[.int .i64 2] 3)).heap.size = w.heap.size + 1 + 1 + 1 + 1 + 1 + 1 + 1 := by simp [s6]
  generalize w6.alloc (.cells #[.int .i64 2] 3) = w7 at h6 g7 s7 ⊢
  have h0 := h0.fr0 g7
  have h1 := h1.fr0 g7
  have h2 := h2.fr0 g7
  have h3 := h3.fr0 g7
  have h4 := h4.fr0 g7
  have h5 := h5.fr0 g7
  have f7 : Fr0 w w7 := f6.trans0 g7
  have h7 := nums_block [0, 1, 2] (alloc_block w7 (.cells #[.int .i64 0, .int .i64 1, .int .i64 2] 3)) (by decide)
  rw [s7] at h7
  have g8 : Fr0 w7 (w7.alloc (.cells #[.int .i64 0, .int .i64 1, .int .i64 2] 3)) := fr0_alloc _ _
  have s8 : (w7.alloc (.cells #[.int .i64 0, .int .i64 1, .int .i64 2] 3)).heap.size = w.heap.size + 1 + 1 + 1 + 1 + 1 + 1 + 1 + 1 := by simp [s7]
  generalize w7.alloc (.cells #[.int .i64 0, .int .i64 1, .int .i64 2] 3) = w8 at h7 g8 s8 ⊢
  have h0 := h0.fr0 g8
  have h1 := h1.fr0 g8
  have h2 := h2.fr0 g8
  have h3 := h3.fr0 g8
  have h4 := h4.fr0 g8
  have h5 := h5.fr0 g8
  have h6 := h6.fr0 g8
  have f8 : Fr0 w w8 := f7.trans0 g8
  have hb := alloc_block w8 (.cells #[.slice none 0 0, .slice (some ⟨w.heap.size, 0, none⟩) 1 1, .slice (some ⟨w.heap.size + 1, 0, none⟩) 1 1, .slice (some ⟨w.heap.size + 1 + 1, 0, none⟩) 2 2, .slice (some ⟨w.heap.size + 1 + 1 + 1, 0, none⟩) 2 2, .slice (some ⟨w.heap.size + 1 + 1 + 1 + 1, 0, none⟩) 2 2, .slice (some ⟨w.heap.size + 1 + 1 + 1 + 1 + 1, 0, none⟩) 1 1, .slice (some ⟨w.heap.size + 1 + 1 + 1 + 1 + 1 + 1, 0, none⟩) 1 1, .slice (some ⟨w.heap.size + 1 + 1 + 1 + 1 + 1 + 1 + 1, 0, none⟩) 3 3] 46)
  rw [s8] at hb
  have g9 := fr0_alloc w8 (.cells #[.slice none 0 0, .slice (some ⟨w.heap.size, 0, none⟩) 1 1, .slice (some ⟨w.heap.size + 1, 0, none⟩) 1 1, .slice (some ⟨w.heap.size + 1 + 1, 0, none⟩) 2 2, .slice (some ⟨w.heap.size + 1 + 1 + 1, 0, none⟩) 2 2, .slice (some ⟨w.heap.size + 1 + 1 + 1 + 1, 0, none⟩) 2 2, .slice (some ⟨w.heap.size + 1 + 1 + 1 + 1 + 1, 0, none⟩) 1 1, .slice (some ⟨w.heap.size + 1 + 1 + 1 + 1 + 1 + 1, 0, none⟩) 1 1, .slice (some ⟨w.heap.size + 1 + 1 + 1 + 1 + 1 + 1 + 1, 0, none⟩) 3 3] 46)
  refine ⟨fun j hj => ?_, f8.trans0 g9⟩
  have hcases : j = 0 ∨ j = 1 ∨ j = 2 ∨ j = 3 ∨ j = 4 ∨ j = 5 ∨ j = 6 ∨ j = 7 ∨ j = 8 := by omega
  rcases hcases with rfl | rfl | rfl | rfl | rfl | rfl | rfl | rfl | rfl
  · exact ⟨none, 0, 0, [], cell_of_block hb 0, NumsIn.nil _, Nat.le_refl _⟩
  · exact ⟨_, _, 1, [0], cell_of_block hb 1, h0.fr0 g9, by decide⟩
  · exact ⟨_, _, 1, [1], cell_of_block hb 2, h1.fr0 g9, by decide⟩
  · exact ⟨_, _, 2, [0, 1], cell_of_block hb 3, h2.fr0 g9, by decide⟩
  · exact ⟨_, _, 2, [1, 0], cell_of_block hb 4, h3.fr0 g9, by decide⟩
  · exact ⟨_, _, 2, [0, 0], cell_of_block hb 5, h4.fr0 g9, by decide⟩
  · exact ⟨_, _, 1, [(-1)], cell_of_block hb 6, h5.fr0 g9, by decide⟩
  · exact ⟨_, _, 1, [2], cell_of_block hb 7, h6.fr0 g9, by decide⟩
  · exact ⟨_, _, 3, [0, 1, 2], cell_of_block hb 8, h7.fr0 g9, by decide⟩
end Go.Proofs.Ytjaabbjobnfmmaa

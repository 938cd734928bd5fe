/-
  The law's works: the chapter's histories.
-/
import Derived.Test.YtjaabbjobnfmmaaLines
namespace Go.Proofs.Ytjaabbjobnfmmaa
open Go.RowKit

theorem nums_block {w : World} {b : Nat} (o : List Int) (h : w.heap[b]? = some (.cells (o.map fun i => Value.int .i64 i).toArray 3 (0, 0))) (hs : o.length ≤ 1000) : NumsIn w (some ⟨b, 0, none⟩) b 0 o :=
  ⟨fun _ => rfl, fun j hj => by rw [Nat.zero_add, cell_of_block h]; simp [hj], fun _ => lt_of_block h, by omega⟩
theorem spans_block {w : World} {b : Nat} (l : List Sp) (h : w.heap[b]? = some (.cells (flat Sp.enc l).toArray 50 (0, 0))) (hw : ∀ x ∈ l, x.wf) (hs : l.length ≤ 1000) : SpansIn w (some ⟨b, 0, none⟩) b 0 l :=
  ⟨fun _ => rfl, fun j hj => by rw [Nat.zero_add, cell_of_block h]; simp, fun _ => lt_of_block h, hw, by omega⟩
theorem spx_wf {k f t : Int} (h1 : (Lit.int .i64 k).wf = true) (h2 : (Lit.int .i64 f).wf = true) (h3 : (Lit.int .i64 t).wf = true) : (spx k f t).wf := ⟨⟨h1, show (Lit.int .i64 1).wf = true by decide, show (Lit.int .i64 0).wf = true by decide, show (Lit.int .i64 0).wf = true by decide⟩, h2, h3⟩

set_option maxRecDepth 100000 in
set_option maxHeartbeats 40000000 in
theorem works28_any (w : World) : Calls Try.prog 31 #[] w fun e w' => e = .returned (.bool true) ∧ Fr0 w w' := by
  have HF := hid (Fr.refl (fun _ => False) w)
  go_enter Try.func31, Try.ntmps31
  have HN := hid (alloc_block w (.cells #[.int .i64 0, .int .i64 1] 3))
  have HF := hid (HF.out.alloc (.cells #[.int .i64 0, .int .i64 1] 3))
  go_wp2_with fail
  refine (span_any 1 0 4 _).mono ?_
  rintro e w1 ⟨rfl, hf⟩
  have HF := hid (HF.out.trans0 hf)
  have HN := hid (hf.at HN.out id)
  clear hf
  go_wp2_with fail
  refine (span_any 3 2 3 _).mono ?_
  rintro e w2 ⟨rfl, hf⟩
  have HF := hid (HF.out.trans0 hf)
  have HN := hid (hf.at HN.out id)
  clear hf
  have HS := hid (alloc_block w2 (.cells #[.int .i64 1, .int .i64 1, .int .i64 0, .int .i64 0, .int .i64 0, .int .i64 4, .int .i64 3, .int .i64 1, .int .i64 0, .int .i64 0, .int .i64 2, .int .i64 3] 50))
  have HF := hid (HF.out.alloc (.cells #[.int .i64 1, .int .i64 1, .int .i64 0, .int .i64 0, .int .i64 0, .int .i64 4, .int .i64 3, .int .i64 1, .int .i64 0, .int .i64 0, .int .i64 2, .int .i64 3] 50))
  have HN := hid ((fr0_alloc w2 (.cells #[.int .i64 1, .int .i64 1, .int .i64 0, .int .i64 0, .int .i64 0, .int .i64 4, .int .i64 3, .int .i64 1, .int .i64 0, .int .i64 0, .int .i64 2, .int .i64 3] 50)).at HN.out id)
  go_wp2_with fail
  refine (lines_any 0 _ _ 0 2 [spx 1 0 4, spx 3 2 3] _ _ 0 2 [0, 1] _ (spans_block [spx 1 0 4, spx 3 2 3] HS.out (by intro x hx; simp only [List.mem_cons, List.not_mem_nil, or_false] at hx; rcases hx with rfl | rfl <;> exact spx_wf (by decide) (by decide) (by decide)) (by decide)) (nums_block [0, 1] HN.out (by decide)) work1).mono ?_
  rintro e w3 ⟨rfl, hf⟩
  have HF := hid (HF.out.trans0 hf)
  clear hf HS HN
  go_wp2_with fail
  refine (span_any 3 0 4 _).mono ?_
  rintro e w4 ⟨rfl, hf⟩
  have HF := hid (HF.out.trans0 hf)
  clear hf
  go_wp2_with fail
  refine (span_any 1 5 6 _).mono ?_
  rintro e w5 ⟨rfl, hf⟩
  have HF := hid (HF.out.trans0 hf)
  clear hf
  have HS := hid (alloc_block w5 (.cells #[.int .i64 3, .int .i64 1, .int .i64 0, .int .i64 0, .int .i64 0, .int .i64 4, .int .i64 1, .int .i64 1, .int .i64 0, .int .i64 0, .int .i64 5, .int .i64 6] 50))
  have HF := hid (HF.out.alloc (.cells #[.int .i64 3, .int .i64 1, .int .i64 0, .int .i64 0, .int .i64 0, .int .i64 4, .int .i64 1, .int .i64 1, .int .i64 0, .int .i64 0, .int .i64 5, .int .i64 6] 50))
  go_wp2_with fail
  refine (lines_any 270 _ _ 0 2 [spx 3 0 4, spx 1 5 6] _ _ 0 0 [] _ (spans_block [spx 3 0 4, spx 1 5 6] HS.out (by intro x hx; simp only [List.mem_cons, List.not_mem_nil, or_false] at hx; rcases hx with rfl | rfl <;> exact spx_wf (by decide) (by decide) (by decide)) (by decide)) (NumsIn.nil _) work2).mono ?_
  rintro e w6 ⟨rfl, hf⟩
  have HF := hid (HF.out.trans0 hf)
  clear hf HS
  have HN := hid (alloc_block w6 (.cells #[.int .i64 0, .int .i64 2, .int .i64 1] 3))
  have HF := hid (HF.out.alloc (.cells #[.int .i64 0, .int .i64 2, .int .i64 1] 3))
  go_wp2_with fail
  refine (span_any 1 0 1 _).mono ?_
  rintro e w7 ⟨rfl, hf⟩
  have HF := hid (HF.out.trans0 hf)
  have HN := hid (hf.at HN.out id)
  clear hf
  go_wp2_with fail
  refine (span_any 1 2 3 _).mono ?_
  rintro e w8 ⟨rfl, hf⟩
  have HF := hid (HF.out.trans0 hf)
  have HN := hid (hf.at HN.out id)
  clear hf
  go_wp2_with fail
  refine (span_any 3 1 (-1) _).mono ?_
  rintro e w9 ⟨rfl, hf⟩
  have HF := hid (HF.out.trans0 hf)
  have HN := hid (hf.at HN.out id)
  clear hf
  have HS := hid (alloc_block w9 (.cells #[.int .i64 1, .int .i64 1, .int .i64 0, .int .i64 0, .int .i64 0, .int .i64 1, .int .i64 1, .int .i64 1, .int .i64 0, .int .i64 0, .int .i64 2, .int .i64 3, .int .i64 3, .int .i64 1, .int .i64 0, .int .i64 0, .int .i64 1, .int .i64 (-1)] 50))
  have HF := hid (HF.out.alloc (.cells #[.int .i64 1, .int .i64 1, .int .i64 0, .int .i64 0, .int .i64 0, .int .i64 1, .int .i64 1, .int .i64 1, .int .i64 0, .int .i64 0, .int .i64 2, .int .i64 3, .int .i64 3, .int .i64 1, .int .i64 0, .int .i64 0, .int .i64 1, .int .i64 (-1)] 50))
  have HN := hid ((fr0_alloc w9 (.cells #[.int .i64 1, .int .i64 1, .int .i64 0, .int .i64 0, .int .i64 0, .int .i64 1, .int .i64 1, .int .i64 1, .int .i64 0, .int .i64 0, .int .i64 2, .int .i64 3, .int .i64 3, .int .i64 1, .int .i64 0, .int .i64 0, .int .i64 1, .int .i64 (-1)] 50)).at HN.out id)
  go_wp2_with fail
  refine (lines_any 0 _ _ 0 3 [spx 1 0 1, spx 1 2 3, spx 3 1 (-1)] _ _ 0 3 [0, 2, 1] _ (spans_block [spx 1 0 1, spx 1 2 3, spx 3 1 (-1)] HS.out (by intro x hx; simp only [List.mem_cons, List.not_mem_nil, or_false] at hx; rcases hx with rfl | rfl | rfl <;> exact spx_wf (by decide) (by decide) (by decide)) (by decide)) (nums_block [0, 2, 1] HN.out (by decide)) work3).mono ?_
  rintro e w10 ⟨rfl, hf⟩
  have HF := hid (HF.out.trans0 hf)
  clear hf HS HN
  go_wp2_with fail
  refine (span_any 1 0 1 _).mono ?_
  rintro e w11 ⟨rfl, hf⟩
  have HF := hid (HF.out.trans0 hf)
  clear hf
  go_wp2_with fail
  refine (span_any 4 2 3 _).mono ?_
  rintro e w12 ⟨rfl, hf⟩
  have HF := hid (HF.out.trans0 hf)
  clear hf
  have HS := hid (alloc_block w12 (.cells #[.int .i64 1, .int .i64 1, .int .i64 0, .int .i64 0, .int .i64 0, .int .i64 1, .int .i64 4, .int .i64 1, .int .i64 0, .int .i64 0, .int .i64 2, .int .i64 3] 50))
  have HF := hid (HF.out.alloc (.cells #[.int .i64 1, .int .i64 1, .int .i64 0, .int .i64 0, .int .i64 0, .int .i64 1, .int .i64 4, .int .i64 1, .int .i64 0, .int .i64 0, .int .i64 2, .int .i64 3] 50))
  go_wp2_with fail
  refine (lines_any 270 _ _ 0 2 [spx 1 0 1, spx 4 2 3] _ _ 0 0 [] _ (spans_block [spx 1 0 1, spx 4 2 3] HS.out (by intro x hx; simp only [List.mem_cons, List.not_mem_nil, or_false] at hx; rcases hx with rfl | rfl <;> exact spx_wf (by decide) (by decide) (by decide)) (by decide)) (NumsIn.nil _) work4).mono ?_
  rintro e w13 ⟨rfl, hf⟩
  have HF := hid (HF.out.trans0 hf)
  clear hf HS
  have HN := hid (alloc_block w13 (.cells #[.int .i64 1, .int .i64 0] 3))
  have HF := hid (HF.out.alloc (.cells #[.int .i64 1, .int .i64 0] 3))
  go_wp2_with fail
  refine (span_any 1 0 2 _).mono ?_
  rintro e w14 ⟨rfl, hf⟩
  have HF := hid (HF.out.trans0 hf)
  have HN := hid (hf.at HN.out id)
  clear hf
  go_wp2_with fail
  refine (span_any 4 0 5 _).mono ?_
  rintro e w15 ⟨rfl, hf⟩
  have HF := hid (HF.out.trans0 hf)
  have HN := hid (hf.at HN.out id)
  clear hf
  have HS := hid (alloc_block w15 (.cells #[.int .i64 1, .int .i64 1, .int .i64 0, .int .i64 0, .int .i64 0, .int .i64 2, .int .i64 4, .int .i64 1, .int .i64 0, .int .i64 0, .int .i64 0, .int .i64 5] 50))
  have HF := hid (HF.out.alloc (.cells #[.int .i64 1, .int .i64 1, .int .i64 0, .int .i64 0, .int .i64 0, .int .i64 2, .int .i64 4, .int .i64 1, .int .i64 0, .int .i64 0, .int .i64 0, .int .i64 5] 50))
  have HN := hid ((fr0_alloc w15 (.cells #[.int .i64 1, .int .i64 1, .int .i64 0, .int .i64 0, .int .i64 0, .int .i64 2, .int .i64 4, .int .i64 1, .int .i64 0, .int .i64 0, .int .i64 0, .int .i64 5] 50)).at HN.out id)
  go_wp2_with fail
  refine (lines_any 0 _ _ 0 2 [spx 1 0 2, spx 4 0 5] _ _ 0 2 [1, 0] _ (spans_block [spx 1 0 2, spx 4 0 5] HS.out (by intro x hx; simp only [List.mem_cons, List.not_mem_nil, or_false] at hx; rcases hx with rfl | rfl <;> exact spx_wf (by decide) (by decide) (by decide)) (by decide)) (nums_block [1, 0] HN.out (by decide)) work5).mono ?_
  rintro e w16 ⟨rfl, hf⟩
  have HF := hid (HF.out.trans0 hf)
  clear hf HS HN
  go_wp2
  go_ret
  exact ⟨rfl, HF.out⟩
end Go.Proofs.Ytjaabbjobnfmmaa

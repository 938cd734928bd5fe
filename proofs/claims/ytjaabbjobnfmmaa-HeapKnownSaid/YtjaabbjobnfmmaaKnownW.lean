/-
  The walk of HeapKnown.
-/
import Derived.Test.YtjaabbjobnfmmaaNoHeap
import Derived.Test.YtjaabbjobnfmmaaPlaysW
import Derived.Test.YtjaabbjobnfmmaaTurnsW
import Derived.Test.YtjaabbjobnfmmaaListsW
import Derived.StillTailTactics
namespace Go.Proofs.Ytjaabbjobnfmmaa
open Go.RowKit

/-- The five objects of HeapKnown. -/
def five : List Ob := [⟨0, 0, 0⟩, ⟨1, 0, 0⟩, ⟨0, 1, 0⟩, ⟨0, 0, 1⟩, ⟨-1, 4611686018427387904, -4611686018427387904⟩]

theorem index37 (g k : Nat) (hk : k < 5) (W : World) : (Instr.indexAt 37 (.slice (some ⟨g, 0, none⟩) 5 5) (.int .i64 k)).run Try.prog W = .ok (.pointer (some ⟨g, k * 3, none⟩)) W :=
  index_of0 (n := 5) (a := some ⟨g, 0, none⟩) Try.underlying37 W (size30' W) (fun _ => rfl) 5 k hk

def FiveAt (w : World) (g : Nat) : Prop := w.heap[g]? = some (.cells (flat Ob.enc five).toArray 30 (0, 0))

theorem FiveAt.cells {w : World} {g : Nat} (h : FiveAt w g) :
    (w.cell? ⟨g, 0, none⟩ = some (.int .i64 0) ∧ w.cell? ⟨g, 1, none⟩ = some (.int .i64 0) ∧ w.cell? ⟨g, 2, none⟩ = some (.int .i64 0)) ∧
    (w.cell? ⟨g, 3, none⟩ = some (.int .i64 1) ∧ w.cell? ⟨g, 4, none⟩ = some (.int .i64 0) ∧ w.cell? ⟨g, 5, none⟩ = some (.int .i64 0)) ∧
    (w.cell? ⟨g, 6, none⟩ = some (.int .i64 0) ∧ w.cell? ⟨g, 7, none⟩ = some (.int .i64 1) ∧ w.cell? ⟨g, 8, none⟩ = some (.int .i64 0)) ∧
    (w.cell? ⟨g, 9, none⟩ = some (.int .i64 0) ∧ w.cell? ⟨g, 10, none⟩ = some (.int .i64 0) ∧ w.cell? ⟨g, 11, none⟩ = some (.int .i64 1)) ∧
    (w.cell? ⟨g, 12, none⟩ = some (.int .i64 (-1)) ∧ w.cell? ⟨g, 13, none⟩ = some (.int .i64 4611686018427387904) ∧ w.cell? ⟨g, 14, none⟩ = some (.int .i64 (-4611686018427387904))) :=
  ⟨⟨cell_of_block h 0, cell_of_block h 1, cell_of_block h 2⟩, ⟨cell_of_block h 3, cell_of_block h 4, cell_of_block h 5⟩, ⟨cell_of_block h 6, cell_of_block h 7, cell_of_block h 8⟩, ⟨cell_of_block h 9, cell_of_block h 10, cell_of_block h 11⟩, ⟨cell_of_block h 12, cell_of_block h 13, cell_of_block h 14⟩⟩

theorem wf_of {d : Dd} (hk : -1 ≤ d.k ∧ d.k ≤ 6) (hx : (Lit.int .i64 d.x.c).wf = true ∧ (Lit.int .i64 d.x.s).wf = true ∧ (Lit.int .i64 d.x.o).wf = true) : d.wf := by
  refine ⟨?_, hx⟩
  simp [Lit.wf, IntKind.min, IntKind.max, IntKind.signed, IntKind.bits]
  omega
theorem six_wf {x y : Int} (hx0 : -1 ≤ x) (hx1 : x ≤ 6) (hy0 : -1 ≤ y) (hy1 : y ≤ 6) {a b c d : Ob} (ha : Ob.wf a) (hb : Ob.wf b) (hc : Ob.wf c) (hd : Ob.wf d) : ∀ e ∈ [(⟨x, a⟩ : Dd), ⟨y, a⟩, ⟨x, b⟩, ⟨1, c⟩, ⟨y, d⟩, ⟨3, a⟩], e.wf := by
  intro e he
  simp at he
  rcases he with rfl | rfl | rfl | rfl | rfl | rfl
  · exact wf_of ⟨hx0, hx1⟩ ha
  · exact wf_of ⟨hy0, hy1⟩ ha
  · exact wf_of ⟨hx0, hx1⟩ hb
  · exact wf_of ⟨by simp, by simp⟩ hc
  · exact wf_of ⟨hy0, hy1⟩ hd
  · exact wf_of ⟨by simp, by simp⟩ ha

/-- The three laws at six deeds in a block. -/
theorem six_any {l : List Dd} (hl : l.length = 6) (hw : ∀ d ∈ l, d.wf) (b : Nat) (w : World) (h : w.heap[b]? = some (.cells (flat Dd.enc l).toArray 32 (0, 0))) :
    (Calls Try.prog 15 #[.slice (some ⟨b, 0, none⟩) 6 6] w fun e w' => e = .returned (.bool true) ∧ Fr0 w w') ∧
    (Calls Try.prog 3 #[.slice (some ⟨b, 0, none⟩) 6 6] w fun e w' => e = .returned (.bool true) ∧ Fr0 w w') ∧
    (Calls Try.prog 14 #[.slice (some ⟨b, 0, none⟩) 6 6] w fun e w' => e = .returned (.bool true) ∧ Fr0 w w') := by
  have hD := deedsIn_block h hw (by omega)
  have h1 := heapPlays_walk (some ⟨b, 0, none⟩) b 0 6 l w hD
  have h2 := lists_walk (some ⟨b, 0, none⟩) b 0 6 l w hD (by omega)
  have h3 := heapTurns_walk (some ⟨b, 0, none⟩) b 0 6 l w hD (by omega)
  rw [hl] at h1 h2 h3
  exact ⟨h1, h2, h3⟩

set_option maxRecDepth 100000 in
set_option maxHeartbeats 4000000 in
theorem heapKnown_walk (w : World) : Calls Try.prog 6 #[] w fun e w' => e = .returned (.bool true) ∧ Fr0 w w' := by
  go_enter Try.func6, Try.ntmps6
  go_wp2_with fail
  go_loopw [1, 2] (fun v i wr => ∃ k : Nat, i = .int .i64 k ∧ k ≤ 2 ∧ Hid (NoHeap wr v ∧ Fr0 w wr)) (fun _ i _ => 2 - (intOf i).toNat)
  case atStart => exact ⟨0, rfl, Nat.zero_le _, hid ⟨.inl rfl, Fr.refl _ _⟩⟩
  case round =>
    obtain ⟨k, rfl, hk, hR⟩ := hrel
    by_cases hlt : k < 2
    · go_wp2_with fail
      refine (noDo_any _ 0 ⟨0, 0, 0⟩ _ hR.out.1).mono ?_
      rintro e w1 ⟨rfl, hf1⟩
      have H1 := hid (And.intro (hR.out.1.fr0 hf1) (hR.out.2.trans0 hf1))
      clear hf1 hR
      go_wp2_with fail
      refine (noHas_any _ ⟨0, 0, 0⟩ _ H1.out.1).mono ?_
      rintro e w2 ⟨rfl, hf2⟩
      have H2 := hid (And.intro (H1.out.1.fr0 hf2) (H1.out.2.trans0 hf2))
      clear hf2 H1
      go_wp2_with fail
      refine (noOut_any _ _ H2.out.1).mono ?_
      rintro e w3 ⟨rfl, rfl⟩
      go_wp2_with fail
      refine (noMany_any _ 0 _ H2.out.1).mono ?_
      rintro e w3 ⟨rfl, rfl⟩
      go_wp2
      go_roundw
      case rel => exact ⟨k + 1, by go_num, by omega, hid ⟨.inr ⟨_, rfl, alloc_block _ _⟩, H2.out.2.trans0 (fr0_alloc _ _)⟩⟩
      case measure => simp [intOf]; omega
    · go_wp2_with fail
      have HF : Hid (FiveAt (wr.alloc (.cells #[.int .i64 0, .int .i64 0, .int .i64 0, .int .i64 1, .int .i64 0, .int .i64 0, .int .i64 0, .int .i64 1, .int .i64 0, .int .i64 0, .int .i64 0, .int .i64 1, .int .i64 (-1), .int .i64 4611686018427387904, .int .i64 (-4611686018427387904)] 30)) wr.heap.size ∧ Fr0 w (wr.alloc (.cells #[.int .i64 0, .int .i64 0, .int .i64 0, .int .i64 1, .int .i64 0, .int .i64 0, .int .i64 0, .int .i64 1, .int .i64 0, .int .i64 0, .int .i64 0, .int .i64 1, .int .i64 (-1), .int .i64 4611686018427387904, .int .i64 (-4611686018427387904)] 30))) := hid ⟨alloc_block _ _, hR.out.2.trans0 (fr0_alloc _ _)⟩
      clear hR hlt
      generalize wr.heap.size = g at HF ⊢
      go_loopw [4] (fun t4 wr => ∃ x : Int, t4 = .int .i64 x ∧ -1 ≤ x ∧ x ≤ 6 ∧ Hid (FiveAt wr g ∧ Fr0 w wr)) (fun t4 _ => (6 - intOf t4).toNat)
      case atStart => exact ⟨-1, rfl, by omega, by omega, HF⟩
      case round =>
        obtain ⟨x, rfl, hx0, hx1, hR⟩ := hrel
        by_cases hx2 : x < 6
        · go_wp2_with fail
          obtain ⟨wo, rfl⟩ : ∃ wo : World, wo = wr := ⟨_, rfl⟩
          go_loopw [5] (fun t5 wr => ∃ y : Int, t5 = .int .i64 y ∧ -1 ≤ y ∧ y ≤ 6 ∧ Hid (FiveAt wr g ∧ Fr0 w wr)) (fun t5 _ => (6 - intOf t5).toNat)
          case atStart => exact ⟨-1, rfl, by omega, by omega, hR⟩
          case round =>
            obtain ⟨y, rfl, hy0, hy1, hR2⟩ := hrel
            by_cases hy2 : y < 6
            · go_wp2_with fail
              obtain ⟨wp, rfl⟩ : ∃ wp : World, wp = wr := ⟨_, rfl⟩
              go_loopw [6] (fun t6 wr => ∃ c : Nat, t6 = .int .i64 c ∧ c ≤ 5 ∧ Hid (FiveAt wr g ∧ Fr0 w wr)) (fun t6 _ => (5 - intOf t6).toNat)
              case atStart => exact ⟨0, rfl, by omega, hR2⟩
              case round =>
                obtain ⟨c, rfl, hc0, hR3⟩ := hrel
                obtain ⟨⟨c0, c1, c2⟩, ⟨c3, c4, c5⟩, ⟨c6, c7, c8⟩, ⟨c9, c10, c11⟩, ⟨c12, c13, c14⟩⟩ := hR3.out.1.cells
                have hcs : c = 0 ∨ c = 1 ∨ c = 2 ∨ c = 3 ∨ c = 4 ∨ c = 5 := by omega
                rcases hcs with rfl | rfl | rfl | rfl | rfl | rfl
                · have e1 : IntKind.i64.wrap 1 = 1 := by decide
                  have e2 : IntKind.i64.wrap 2 = 2 := by decide
                  have e3 : Int.tmod 1 5 = 1 := by decide
                  have e4 : Int.tmod 2 5 = 2 := by decide
                  go_upto_region 18 with (fail)
                  go_still_tail 37, (by kernel_rfl)
                  change wpList _ _ _ _ _ wr.drew
                  go_wp2_with fail
                  have SIX := hid (fun W hb => six_any (l := [⟨x, ⟨0, 0, 0⟩⟩, ⟨y, ⟨0, 0, 0⟩⟩, ⟨x, ⟨0, 0, 0⟩⟩, ⟨1, ⟨1, 0, 0⟩⟩, ⟨y, ⟨0, 1, 0⟩⟩, ⟨3, ⟨0, 0, 0⟩⟩]) rfl (six_wf hx0 hx1 hy0 hy1 ⟨by decide, by decide, by decide⟩ ⟨by decide, by decide, by decide⟩ ⟨by decide, by decide, by decide⟩ ⟨by decide, by decide, by decide⟩) wr.heap.size W hb)
                  have hf0 := hid ((Fr.refl (fun _ => False) wr).drew.alloc (.cells (flat Dd.enc [⟨x, ⟨0, 0, 0⟩⟩, ⟨y, ⟨0, 0, 0⟩⟩, ⟨x, ⟨0, 0, 0⟩⟩, ⟨1, ⟨1, 0, 0⟩⟩, ⟨y, ⟨0, 1, 0⟩⟩, ⟨3, ⟨0, 0, 0⟩⟩]).toArray 32))
                  clear c0 c1 c2 c3 c4 c5 c6 c7 c8 c9 c10 c11 c12 c13 c14 e1 e2 e3 e4
                  refine (SIX.out _ (alloc_block wr.drew _)).1.mono ?_
                  rintro e wa ⟨rfl, hfa⟩
                  have hba := hid (hfa.at (alloc_block wr.drew _) (fun h => h))
                  go_wp2_with fail
                  refine (SIX.out _ hba.out).2.1.mono ?_
                  rintro e wb ⟨rfl, hfb⟩
                  have hbb := hid (hfb.at hba.out (fun h => h))
                  go_wp2_with fail
                  refine (SIX.out _ hbb.out).2.2.mono ?_
                  rintro e wc ⟨rfl, hfc⟩
                  have HE := hid (show FiveAt wc g ∧ Fr0 w wc from ⟨(((hf0.out.trans0 hfa).trans0 hfb).trans0 hfc).at hR3.out.1 (fun h => h), hR3.out.2.trans0 (((hf0.out.trans0 hfa).trans0 hfb).trans0 hfc)⟩)
                  clear hba hbb SIX hf0
                  go_wp2
                  go_roundw
                  case rel => exact ⟨0 + 1, by go_num, by omega, HE⟩
                  case measure => decide
                · have e1 : IntKind.i64.wrap 2 = 2 := by decide
                  have e2 : IntKind.i64.wrap 3 = 3 := by decide
                  have e3 : Int.tmod 2 5 = 2 := by decide
                  have e4 : Int.tmod 3 5 = 3 := by decide
                  go_upto_region 18 with (fail)
                  go_still_tail 37, (by kernel_rfl)
                  change wpList _ _ _ _ _ wr.drew
                  go_wp2_with fail
                  have SIX := hid (fun W hb => six_any (l := [⟨x, ⟨1, 0, 0⟩⟩, ⟨y, ⟨1, 0, 0⟩⟩, ⟨x, ⟨0, 0, 0⟩⟩, ⟨1, ⟨0, 1, 0⟩⟩, ⟨y, ⟨0, 0, 1⟩⟩, ⟨3, ⟨1, 0, 0⟩⟩]) rfl (six_wf hx0 hx1 hy0 hy1 ⟨by decide, by decide, by decide⟩ ⟨by decide, by decide, by decide⟩ ⟨by decide, by decide, by decide⟩ ⟨by decide, by decide, by decide⟩) wr.heap.size W hb)
                  have hf0 := hid ((Fr.refl (fun _ => False) wr).drew.alloc (.cells (flat Dd.enc [⟨x, ⟨1, 0, 0⟩⟩, ⟨y, ⟨1, 0, 0⟩⟩, ⟨x, ⟨0, 0, 0⟩⟩, ⟨1, ⟨0, 1, 0⟩⟩, ⟨y, ⟨0, 0, 1⟩⟩, ⟨3, ⟨1, 0, 0⟩⟩]).toArray 32))
                  clear c0 c1 c2 c3 c4 c5 c6 c7 c8 c9 c10 c11 c12 c13 c14 e1 e2 e3 e4
                  refine (SIX.out _ (alloc_block wr.drew _)).1.mono ?_
                  rintro e wa ⟨rfl, hfa⟩
                  have hba := hid (hfa.at (alloc_block wr.drew _) (fun h => h))
                  go_wp2_with fail
                  refine (SIX.out _ hba.out).2.1.mono ?_
                  rintro e wb ⟨rfl, hfb⟩
                  have hbb := hid (hfb.at hba.out (fun h => h))
                  go_wp2_with fail
                  refine (SIX.out _ hbb.out).2.2.mono ?_
                  rintro e wc ⟨rfl, hfc⟩
                  have HE := hid (show FiveAt wc g ∧ Fr0 w wc from ⟨(((hf0.out.trans0 hfa).trans0 hfb).trans0 hfc).at hR3.out.1 (fun h => h), hR3.out.2.trans0 (((hf0.out.trans0 hfa).trans0 hfb).trans0 hfc)⟩)
                  clear hba hbb SIX hf0
                  go_wp2
                  go_roundw
                  case rel => exact ⟨1 + 1, by go_num, by omega, HE⟩
                  case measure => decide
                · have e1 : IntKind.i64.wrap 3 = 3 := by decide
                  have e2 : IntKind.i64.wrap 4 = 4 := by decide
                  have e3 : Int.tmod 3 5 = 3 := by decide
                  have e4 : Int.tmod 4 5 = 4 := by decide
                  go_upto_region 18 with (fail)
                  go_still_tail 37, (by kernel_rfl)
                  change wpList _ _ _ _ _ wr.drew
                  go_wp2_with fail
                  have SIX := hid (fun W hb => six_any (l := [⟨x, ⟨0, 1, 0⟩⟩, ⟨y, ⟨0, 1, 0⟩⟩, ⟨x, ⟨0, 0, 0⟩⟩, ⟨1, ⟨0, 0, 1⟩⟩, ⟨y, ⟨-1, 4611686018427387904, -4611686018427387904⟩⟩, ⟨3, ⟨0, 1, 0⟩⟩]) rfl (six_wf hx0 hx1 hy0 hy1 ⟨by decide, by decide, by decide⟩ ⟨by decide, by decide, by decide⟩ ⟨by decide, by decide, by decide⟩ ⟨by decide, by decide, by decide⟩) wr.heap.size W hb)
                  have hf0 := hid ((Fr.refl (fun _ => False) wr).drew.alloc (.cells (flat Dd.enc [⟨x, ⟨0, 1, 0⟩⟩, ⟨y, ⟨0, 1, 0⟩⟩, ⟨x, ⟨0, 0, 0⟩⟩, ⟨1, ⟨0, 0, 1⟩⟩, ⟨y, ⟨-1, 4611686018427387904, -4611686018427387904⟩⟩, ⟨3, ⟨0, 1, 0⟩⟩]).toArray 32))
                  clear c0 c1 c2 c3 c4 c5 c6 c7 c8 c9 c10 c11 c12 c13 c14 e1 e2 e3 e4
                  refine (SIX.out _ (alloc_block wr.drew _)).1.mono ?_
                  rintro e wa ⟨rfl, hfa⟩
                  have hba := hid (hfa.at (alloc_block wr.drew _) (fun h => h))
                  go_wp2_with fail
                  refine (SIX.out _ hba.out).2.1.mono ?_
                  rintro e wb ⟨rfl, hfb⟩
                  have hbb := hid (hfb.at hba.out (fun h => h))
                  go_wp2_with fail
                  refine (SIX.out _ hbb.out).2.2.mono ?_
                  rintro e wc ⟨rfl, hfc⟩
                  have HE := hid (show FiveAt wc g ∧ Fr0 w wc from ⟨(((hf0.out.trans0 hfa).trans0 hfb).trans0 hfc).at hR3.out.1 (fun h => h), hR3.out.2.trans0 (((hf0.out.trans0 hfa).trans0 hfb).trans0 hfc)⟩)
                  clear hba hbb SIX hf0
                  go_wp2
                  go_roundw
                  case rel => exact ⟨2 + 1, by go_num, by omega, HE⟩
                  case measure => decide
                · have e1 : IntKind.i64.wrap 4 = 4 := by decide
                  have e2 : IntKind.i64.wrap 5 = 5 := by decide
                  have e3 : Int.tmod 4 5 = 4 := by decide
                  have e4 : Int.tmod 5 5 = 0 := by decide
                  go_upto_region 18 with (fail)
                  go_still_tail 37, (by kernel_rfl)
                  change wpList _ _ _ _ _ wr.drew
                  go_wp2_with fail
                  have SIX := hid (fun W hb => six_any (l := [⟨x, ⟨0, 0, 1⟩⟩, ⟨y, ⟨0, 0, 1⟩⟩, ⟨x, ⟨0, 0, 0⟩⟩, ⟨1, ⟨-1, 4611686018427387904, -4611686018427387904⟩⟩, ⟨y, ⟨0, 0, 0⟩⟩, ⟨3, ⟨0, 0, 1⟩⟩]) rfl (six_wf hx0 hx1 hy0 hy1 ⟨by decide, by decide, by decide⟩ ⟨by decide, by decide, by decide⟩ ⟨by decide, by decide, by decide⟩ ⟨by decide, by decide, by decide⟩) wr.heap.size W hb)
                  have hf0 := hid ((Fr.refl (fun _ => False) wr).drew.alloc (.cells (flat Dd.enc [⟨x, ⟨0, 0, 1⟩⟩, ⟨y, ⟨0, 0, 1⟩⟩, ⟨x, ⟨0, 0, 0⟩⟩, ⟨1, ⟨-1, 4611686018427387904, -4611686018427387904⟩⟩, ⟨y, ⟨0, 0, 0⟩⟩, ⟨3, ⟨0, 0, 1⟩⟩]).toArray 32))
                  clear c0 c1 c2 c3 c4 c5 c6 c7 c8 c9 c10 c11 c12 c13 c14 e1 e2 e3 e4
                  refine (SIX.out _ (alloc_block wr.drew _)).1.mono ?_
                  rintro e wa ⟨rfl, hfa⟩
                  have hba := hid (hfa.at (alloc_block wr.drew _) (fun h => h))
                  go_wp2_with fail
                  refine (SIX.out _ hba.out).2.1.mono ?_
                  rintro e wb ⟨rfl, hfb⟩
                  have hbb := hid (hfb.at hba.out (fun h => h))
                  go_wp2_with fail
                  refine (SIX.out _ hbb.out).2.2.mono ?_
                  rintro e wc ⟨rfl, hfc⟩
                  have HE := hid (show FiveAt wc g ∧ Fr0 w wc from ⟨(((hf0.out.trans0 hfa).trans0 hfb).trans0 hfc).at hR3.out.1 (fun h => h), hR3.out.2.trans0 (((hf0.out.trans0 hfa).trans0 hfb).trans0 hfc)⟩)
                  clear hba hbb SIX hf0
                  go_wp2
                  go_roundw
                  case rel => exact ⟨3 + 1, by go_num, by omega, HE⟩
                  case measure => decide
                · have e1 : IntKind.i64.wrap 5 = 5 := by decide
                  have e2 : IntKind.i64.wrap 6 = 6 := by decide
                  have e3 : Int.tmod 5 5 = 0 := by decide
                  have e4 : Int.tmod 6 5 = 1 := by decide
                  go_upto_region 18 with (fail)
                  go_still_tail 37, (by kernel_rfl)
                  change wpList _ _ _ _ _ wr.drew
                  go_wp2_with fail
                  have SIX := hid (fun W hb => six_any (l := [⟨x, ⟨-1, 4611686018427387904, -4611686018427387904⟩⟩, ⟨y, ⟨-1, 4611686018427387904, -4611686018427387904⟩⟩, ⟨x, ⟨0, 0, 0⟩⟩, ⟨1, ⟨0, 0, 0⟩⟩, ⟨y, ⟨1, 0, 0⟩⟩, ⟨3, ⟨-1, 4611686018427387904, -4611686018427387904⟩⟩]) rfl (six_wf hx0 hx1 hy0 hy1 ⟨by decide, by decide, by decide⟩ ⟨by decide, by decide, by decide⟩ ⟨by decide, by decide, by decide⟩ ⟨by decide, by decide, by decide⟩) wr.heap.size W hb)
                  have hf0 := hid ((Fr.refl (fun _ => False) wr).drew.alloc (.cells (flat Dd.enc [⟨x, ⟨-1, 4611686018427387904, -4611686018427387904⟩⟩, ⟨y, ⟨-1, 4611686018427387904, -4611686018427387904⟩⟩, ⟨x, ⟨0, 0, 0⟩⟩, ⟨1, ⟨0, 0, 0⟩⟩, ⟨y, ⟨1, 0, 0⟩⟩, ⟨3, ⟨-1, 4611686018427387904, -4611686018427387904⟩⟩]).toArray 32))
                  clear c0 c1 c2 c3 c4 c5 c6 c7 c8 c9 c10 c11 c12 c13 c14 e1 e2 e3 e4
                  refine (SIX.out _ (alloc_block wr.drew _)).1.mono ?_
                  rintro e wa ⟨rfl, hfa⟩
                  have hba := hid (hfa.at (alloc_block wr.drew _) (fun h => h))
                  go_wp2_with fail
                  refine (SIX.out _ hba.out).2.1.mono ?_
                  rintro e wb ⟨rfl, hfb⟩
                  have hbb := hid (hfb.at hba.out (fun h => h))
                  go_wp2_with fail
                  refine (SIX.out _ hbb.out).2.2.mono ?_
                  rintro e wc ⟨rfl, hfc⟩
                  have HE := hid (show FiveAt wc g ∧ Fr0 w wc from ⟨(((hf0.out.trans0 hfa).trans0 hfb).trans0 hfc).at hR3.out.1 (fun h => h), hR3.out.2.trans0 (((hf0.out.trans0 hfa).trans0 hfb).trans0 hfc)⟩)
                  clear hba hbb SIX hf0
                  go_wp2
                  go_roundw
                  case rel => exact ⟨4 + 1, by go_num, by omega, HE⟩
                  case measure => decide
                · go_wp2
                  go_roundw
                  case rel => exact ⟨y + 1, by go_num, by omega, by omega, hR3⟩
                  case measure => simp [intOf]; omega
            · go_wp2
              go_roundw
              case rel => exact ⟨x + 1, by go_num, by omega, by omega, hR2⟩
              case measure => simp [intOf]; omega
        · go_wp2_with (first | (go_at_call 18; refine (works_any _).mono ?_; rintro e w5 ⟨rfl, hf5⟩) | (go_at_call 3; refine (lists_walk none 0 0 0 [] _ ⟨by simp, by simp, by simp, by simp, by simp⟩ (by simp)).mono ?_; rintro e w6 ⟨rfl, hf6⟩))
          go_ret
          exact ⟨by rfl, (hR.out.2.trans0 hf5).trans0 hf6⟩
end Go.Proofs.Ytjaabbjobnfmmaa

/-
  order.Line's memory: its calls, its box, what is done; order.next.
-/
import Derived.Test.YtjaabbjobnfmmaaStab
import Derived.Test.YtjaabbjobnfmmaaSpan
import Derived.Test.YtjaabbjobnfmmaaEntry
import Derived.Deep.RegionHeld3
import Derived.Deep.AppendLies
import Derived.Deep.RegionLaw
namespace Go.Proofs.Ytjaabbjobnfmmaa
open Go.RowKit

/-- A call as it lies in memory. -/
def callO (x : Sp) (i : Nat) (done : Bool) : Obj := .cells #[.int .i64 x.d.k, .int .i64 x.d.x.c, .int .i64 x.d.x.s, .int .i64 x.d.x.o, .int .i64 x.f, .int .i64 x.t, .int .i64 i, .bool done] 80 (0, 0)

theorem info3 : (Try.prog.info? 3).map (fun i => (i.zero, i.size, i.bytes)) = some (some (.int .i64 0), 1, 8) := by kernel_rfl

theorem cells_new1 (w : World) (a : Value) (t : TypeId) : ∀ j u, [a][j]? = some u → (w.alloc (.cells #[a] t)).cell? ((⟨w.heap.size, 0, none⟩ : Addr).add j) = some u := by
  intro j u hu
  exact World.news_of_block (cs := #[a]) (t := t) (fr := (0, 0)) (alloc_block w _) j u hu

def boxO (v0 v1 v2 ov : Value) : Obj := .cells #[v0, v1, v2, ov] 77 (0, 0)

theorem next_end {pm b : Nat} {v0 v1 v2 ov : Value} {x : Sp} {k : Nat} {dn : Bool} {n B : Nat} {xs ys : List Value} {w w1 wa w2 : World} {gg cap : Nat}
    (HH : Hid (w.heap[pm]? = some (boxO v0 v1 v2 ov) ∧ w.heap[b]? = some (callO x k dn) ∧ w.ownsRow B 3 1 ov n xs ∧ (∀ j, ov.ownBlock = some j → j ≠ pm) ∧ (∀ j, ov.ownBlock = some j → j ≠ b)))
    (HF : Hid (Fr (fun i => i = b) w w1)) (H1 : Hid (w1.heap[pm]? = some (boxO v0 v1 v2 ov) ∧ w1.heap[b]? = some (callO x k true) ∧ w1.ownsRow B 3 1 ov n xs))
    (ha : w1.grownBy wa none) (hg : wa.drew.grownBy w2 ov.ownBlock) (ho : w2.ownsRow B 3 1 (.slice (some ⟨gg, 0, none⟩) (n + 1) cap) (n + 1) ys) (hat : ov.ownBlock = some gg ∨ gg = w1.heap.size + 1) :
    (∃ g c', (w2.setCell ⟨pm, 3, none⟩ (.slice (some ⟨gg, 0, none⟩) (n + 1) cap)).heap[pm]? = some (boxO v0 v1 v2 (.slice (some ⟨g, 0, none⟩) (n + 1) c')) ∧ (w2.setCell ⟨pm, 3, none⟩ (.slice (some ⟨gg, 0, none⟩) (n + 1) cap)).ownsRow B 3 1 (.slice (some ⟨g, 0, none⟩) (n + 1) c') (n + 1) ys) ∧
      (w2.setCell ⟨pm, 3, none⟩ (.slice (some ⟨gg, 0, none⟩) (n + 1) cap)).heap[b]? = some (callO x k true) ∧ Fr (fun i => i = pm ∨ i = b ∨ ov.ownBlock = some i) w (w2.setCell ⟨pm, 3, none⟩ (.slice (some ⟨gg, 0, none⟩) (n + 1) cap)) := by
  obtain ⟨hm, hc, hw, hom, hob⟩ := HH.out
  obtain ⟨hm1, hc1, hw1⟩ := H1.out
  have hne : b ≠ pm := by rintro rfl; rw [hm] at hc; simp [boxO, callO] at hc
  have fa : Fr0 w1 wa := (Fr.of_grown ha).mono (fun i _ h => by simp at h)
  have f2 : Fr (fun i => ov.ownBlock = some i) w1 w2 := fa.drew.mono (fun _ _ h => h.elim) |>.trans (Fr.of_grown hg) (fun i _ h => h.symm)
  have hm2 := f2.at hm1 (fun h => hom _ h rfl)
  have hc2 := f2.at hc1 (fun h => hob _ h rfl)
  have hgm : gg ≠ pm := by
    rcases hat with h | h
    · exact hom _ h
    · have := lt_of_block hm1; omega
  have fs : Fr (fun i => i = pm) w2 (w2.setCell ⟨pm, 3, none⟩ (.slice (some ⟨gg, 0, none⟩) (n + 1) cap)) := Fr.setCell (X := fun i => i = pm) (p := ⟨pm, 3, none⟩) (Fr.refl _ w2) (fun _ => rfl) _
  refine ⟨⟨gg, cap, setCell_block hm2 3 _, own_fr ho fs (fun i hi => ?_)⟩, fs.at hc2 hne, ?_⟩
  · have : gg = i := by simpa [Value.ownBlock] using hi
    rw [← this]; exact hgm
  · refine ((HF.out.mono (fun i _ h => .inr (.inl h))).trans f2 (fun i _ h => .inr (.inr h))).trans fs (fun i _ h => .inl h)

set_option maxRecDepth 100000 in
set_option maxHeartbeats 4000000 in
theorem next_cell (pm b : Nat) (v0 v1 v2 ov : Value) (x : Sp) (k : Nat) (dn : Bool) (n B : Nat) (xs : List Value) (w : World)
    (hm : w.heap[pm]? = some (boxO v0 v1 v2 ov)) (hc : w.heap[b]? = some (callO x k dn)) (hown : w.ownsRow B 3 1 ov n xs) (hB : B ≤ w.heap.size) (hn : n ≤ 100000) :
    Calls Try.prog 58 #[.pointer (some ⟨pm, 0, none⟩), .pointer (some ⟨b, 0, none⟩)] w fun e w' => e = .returned (.tuple #[]) ∧
      (∃ g cap, w'.heap[pm]? = some (boxO v0 v1 v2 (.slice (some ⟨g, 0, none⟩) (n + 1) cap)) ∧ w'.ownsRow B 3 1 (.slice (some ⟨g, 0, none⟩) (n + 1) cap) (n + 1) (xs ++ [.int .i64 k])) ∧
      w'.heap[b]? = some (callO x k true) ∧ Fr (fun i => i = pm ∨ i = b ∨ ov.ownBlock = some i) w w' := by
  obtain ⟨i0, hi0, hz0, hz1, hz2⟩ := info_parts info3
  have hne : b ≠ pm := by rintro rfl; rw [hm] at hc; simp [boxO, callO] at hc
  have hom := own_ne hown hm (by decide)
  have hob := own_ne hown hc (by decide)
  have c0 : w.cell? ⟨b, 7, none⟩ = some (.bool dn) := cell_of_block hc 7
  have f0 : w.frozen? ⟨b, 7, none⟩ = false := free_of_block hc 7
  have hm1 : (w.setCell ⟨b, 7, none⟩ (.bool true)).heap[pm]? = some (boxO v0 v1 v2 ov) := (Below.heap_setCell w _ _ pm (fun e => hne e.symm)).trans hm
  have hc1 : (w.setCell ⟨b, 7, none⟩ (.bool true)).heap[b]? = some (callO x k true) := setCell_block hc 7 _
  have hf1 : Fr (fun i => i = b) w (w.setCell ⟨b, 7, none⟩ (.bool true)) := Fr.setCell (X := fun i => i = b) (p := ⟨b, 7, none⟩) (Fr.refl _ w) (fun _ => rfl) _
  have hw1 := own_fr hown hf1 (fun i hi => hob i hi)
  have HH := hid (And.intro hm (And.intro hc (And.intro hown (And.intro hom hob))))
  have HF := hid hf1
  have HZ := hid (And.intro hi0 (And.intro hz0 (And.intro hz1 hz2)))
  have HB := hid hB
  clear hm hc hown hom hob hi0 hz0 hz1 hz2 hB hf1
  go_enter Try.func58, Try.ntmps58
  go_wp2_with fail
  generalize w.setCell ⟨b, 7, none⟩ (.bool true) = w1 at *
  have cm : w1.cell? ⟨pm, 3, none⟩ = some ov := cell_of_block hm1 3
  have fm : w1.frozen? ⟨pm, 3, none⟩ = false := free_of_block hm1 3
  have cb : w1.cell? ⟨b, 6, none⟩ = some (.int .i64 k) := cell_of_block hc1 6
  have lm := lt_of_block hm1
  have lb := lt_of_block hc1
  have em : ov.ownBlock ≠ some pm := fun e => HH.out.2.2.2.1 pm e rfl
  have eb : ov.ownBlock ≠ some b := fun e => HH.out.2.2.2.2 b e rfl
  have fa : ∀ o, (w1.alloc o).drew.cell? ⟨pm, 3, none⟩ = some ov ∧ (w1.alloc o).drew.cell? ⟨b, 6, none⟩ = some (.int .i64 k) ∧ (w1.alloc o).drew.frozen? ⟨pm, 3, none⟩ = false := fun o =>
    ⟨cell_of_block (((Fr.refl (fun _ => False) w1).alloc o).drew.at hm1 id) 3, cell_of_block (((Fr.refl (fun _ => False) w1).alloc o).drew.at hc1 id) 6, free_of_block (((Fr.refl (fun _ => False) w1).alloc o).drew.at hm1 id) 3⟩
  have H1 := hid (And.intro hm1 (And.intro hc1 hw1))
  clear hm1 hc1 hw1 c0 f0
  go_region_law ((refine step_append_lies _ (by rfl) _ _ _ (by rfl) B 3 i0 _ 1 8 Try.underlying46 HZ.out.1 HZ.out.2.1 HZ.out.2.2.1 HZ.out.2.2.2 rfl (by omega) ov n xs (by simp [Act.eval]) ((H1.out.2.2.alloc _).drew) ⟨w1.heap.size, 0, none⟩ 1 1 [.int .i64 k] (by simp [Act.eval]) (by rfl) (World.news_of_block (cs := #[.int .i64 k]) (t := 3) (fr := (0, 0)) (heap_alloc_new w1 _)) (by simp [Value.oneCell']) (by omega) (by simp only [maxLen]; omega) (by omega) (by have := HB.out; have := HF.out.size; simp only [World.drew, World.alloc, Array.size_push]; omega) (w1.heap.size + 1) (by simp) ?_; intro gg cap w2 hown1 hgrow hat hlt; have cm2 : w2.cell? ⟨pm, 3, none⟩ = some ov := (hgrow.cell_far _ (Nat.lt_of_lt_of_le lm (by simp)) (Ne.symm em)).trans (fa _).1; have fm2 : w2.frozen? ⟨pm, 3, none⟩ = false := (hgrow.frozen_far _ (Nat.lt_of_lt_of_le lm (by simp)) (Ne.symm em)).trans (fa _).2.2))
  all_goals
    go_wp2
    go_end0
    refine ⟨rfl, next_end HH HF H1 (World.grownBy_alloc w1 _ none) hgrow hown1 hat⟩
end Go.Proofs.Ytjaabbjobnfmmaa

/-
  The law's small: six calls at most.
-/
import Derived.Test.YtjaabbjobnfmmaaShkLaw
import Derived.Deep.RegionHeld3
import Derived.Deep.DeepCutAuto
import Derived.Deep.RegionWith
namespace Go.Proofs.Ytjaabbjobnfmmaa
open Go.RowKit

/-- A call, brought to be a small one. -/
def smlF (x : Sp) : Sp := ⟨⟨1 + brg x.d.k 4, if 1 + brg x.d.k 4 = 2 then zob else ⟨0, 0, 1 + brg x.d.x.o 2⟩⟩, brg x.f 12, if 0 ≤ x.t then brg x.f 12 + brg x.t 6 else -1⟩
def smlL (l : List Sp) : List Sp := (l.map smlF).take 6

theorem sml_may (x : Sp) : mayB (smlF x) = true := by
  have h1 := brg_range x.d.k 4 (by decide)
  have h3 := brg_range x.f 12 (by decide)
  have h4 := brg_range x.t 6 (by decide)
  unfold mayB kindB timeB smlF
  simp only [Bool.and_eq_true, decide_eq_true_eq]
  refine ⟨⟨by omega, by omega, ?_⟩, by omega, by omega, ?_⟩
  · by_cases h : 1 + brg x.d.k 4 = 2
    · rw [if_pos h]; exact .inr rfl
    · exact .inl h
  · split <;> omega
theorem sml_chk (l : List Sp) : chk (smlL l) = 0 := by
  unfold chk
  have hl : (smlL l).length ≤ 6 := by simp [smlL]; omega
  rw [if_neg (by omega), if_pos]
  rw [List.all_eq_true]
  intro x hx
  obtain ⟨y, _, rfl⟩ := List.mem_map.1 (List.mem_of_mem_take hx)
  exact sml_may y
theorem sml_wf (x : Sp) : (smlF x).wf := by
  have h1 := brg_range x.d.k 4 (by decide)
  have h2 := brg_range x.d.x.o 2 (by decide)
  have h3 := brg_range x.f 12 (by decide)
  have h4 := brg_range x.t 6 (by decide)
  unfold smlF
  refine ⟨⟨WalkArith.wf_i64 (n := 1 + brg x.d.k 4) ⟨by omega, by omega⟩, ?_⟩, WalkArith.wf_i64 (n := brg x.f 12) ⟨by omega, by omega⟩, ?_⟩
  · show Ob.wf (if 1 + brg x.d.k 4 = 2 then zob else ⟨0, 0, 1 + brg x.d.x.o 2⟩)
    split
    · exact ⟨by decide, by decide, by decide⟩
    · exact ⟨show (Lit.int .i64 0).wf = true by decide, show (Lit.int .i64 0).wf = true by decide, WalkArith.wf_i64 (n := 1 + brg x.d.x.o 2) ⟨by omega, by omega⟩⟩
  · refine WalkArith.wf_i64 (n := if 0 ≤ x.t then brg x.f 12 + brg x.t 6 else -1) ?_
    split <;> exact ⟨by omega, by omega⟩

set_option maxHeartbeats 800000 in
theorem bringE (a n : Int) (hn : n = 4 ∨ n = 2 ∨ n = 12 ∨ n = 6) (w : World) : Calls Try.prog 19 #[.int .i64 a, .int .i64 n] w fun e w' => e = .returned (.int .i64 (brg a n)) ∧ w' = w := by
  rcases hn with rfl | rfl | rfl | rfl
  · exact bring4 a w
  · exact bring2 a w
  · exact bring12 a w
  · exact bring6 a w

/-- A call in a box of its own, as far as small makes it. -/
structure SmlRel (w wr : World) (a : Option Addr) (b off : Nat) (l : List Sp) (v : Value) (k : Nat) : Prop where
  own : OwnS wr w.heap.size v ((l.map smlF).take k)
  blt : 0 < l.length → b < w.heap.size
  fr : Fr0 w wr
  spans : SpansIn wr a b off l
theorem sml_len {l : List Sp} {k : Nat} (hk : k ≤ l.length) : ((l.map smlF).take k).length = k := by
  rw [List.length_take, List.length_map]; omega
theorem sml_snoc (l : List Sp) (k : Nat) (hk : k < l.length) : (l.map smlF).take (k + 1) = (l.map smlF).take k ++ [smlF l[k]] := by
  rw [take_snoc' (l.map smlF) k (by simpa using hk)]
  simp
section
variable {w wr w' : World} {a : Option Addr} {b off : Nat} {l : List Sp} {v v' : Value} {k : Nat} {o : Obj} {X : Nat → Prop}
theorem SmlRel.fr0 (h : SmlRel w wr a b off l v k) (hf : Fr0 wr w') : SmlRel w w' a b off l v k :=
  ⟨own_fr0 h.own hf, h.blt, h.fr.trans0 hf, h.spans.fr0 hf⟩
theorem SmlRel.snoc (h : SmlRel w wr a b off l v k) (hk : k < l.length) (hown : w'.ownsRow w.heap.size 50 6 v' (k + 1) (flat Sp.enc ((l.map smlF).take k) ++ (smlF l[k]).enc)) (hg : (wr.alloc o).grownBy w' v.ownBlock) : SmlRel w w' a b off l v' (k + 1) := by
  obtain ⟨f1, f2⟩ := grow_fr h.own h.fr (Nat.le_refl _) hg
  have hb : ∀ i, some i = v.ownBlock → w.heap.size ≤ i := fun i e => (h.own.lt i e.symm).1
  exact ⟨by rw [sml_snoc l k hk]; exact ownS_snoc (by rw [sml_len (by omega)]; exact hown), h.blt, f1, h.spans.frX f2 (fun hl e => by have := hb b e; have := h.blt hl; omega)⟩
end
end Go.Proofs.Ytjaabbjobnfmmaa

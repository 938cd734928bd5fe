/-
  maps.Keys, slices.Collect at the program's map of objects; the order that Out sorts by.
-/
import Derived.Test.YtjaabbjobnfmmaaSeq
import Derived.Test.YtjaabbjobnfmmaaOrd
namespace Go.Proofs.Ytjaabbjobnfmmaa
open Go.RowKit

theorem keys_any (b : Nat) (w : World) :
    Calls Try.prog 50 #[.map (some b)] w fun e w' => e = .returned (.func (.func 71) #[] #[.pointer (some ⟨w.heap.size, 0, none⟩)]) ∧ w' = w.alloc (.cells #[.map (some b)] 42) := by
  go_enter Try.func50, Try.ntmps50
  go_wp2
  go_ret
  exact ⟨rfl, rfl⟩

theorem collect_any (Bm b : Nat) (S : List Ob) (hSl : S.length < 4398046511104) (w : World) (hBm : Bm < w.heap.size) (hm : w.cell? ⟨Bm, 0, none⟩ = some (.map (some b))) (hS : SetIs w b S) :
    Calls Try.prog 69 #[.func (.func 71) #[] #[.pointer (some ⟨Bm, 0, none⟩)]] w fun e w' => ∃ (v : Value) (ss : List Ob), e = .returned v ∧ ss.Perm S ∧ OwnL w' w.heap.size v ss ∧ Below w.heap.size w w' := by
  have H := appendSeq_any Bm b S hSl w hBm hm hS
  clear hS hm
  go_enter Try.func69, Try.ntmps69
  go_wp2_with (go_at_call 76; refine H.mono ?_; rintro e w' ⟨v, ss, rfl, hp, ho, hb⟩)
  go_ret
  exact ⟨v, ss, rfl, hp, ho, hb⟩

theorem cmpI_neg (x y : Int) : cmpI x y < 0 ↔ x < y := by
  unfold cmpI
  split
  · simp_all
  · split <;> omega
theorem cmpI_zero (x y : Int) : cmpI x y = 0 ↔ x = y := by
  unfold cmpI
  split
  · omega
  · split <;> omega
theorem ordI_neg (x y : Ob) : decide (ordI x y < 0) = x.lt y := by
  unfold ordI or3 Ob.lt
  simp only [ne_eq, cmpI_zero]
  by_cases h1 : x.c = y.c
  · by_cases h2 : x.s = y.s
    · simp [h1, h2, cmpI_neg]
    · simp [h1, h2, cmpI_neg]
  · simp [h1, cmpI_neg]

theorem Ob.lt_iff (x y : Ob) : x.lt y = true ↔ x.c < y.c ∨ (x.c = y.c ∧ (x.s < y.s ∨ (x.s = y.s ∧ x.o < y.o))) := by
  unfold Ob.lt
  by_cases h1 : x.c = y.c
  · by_cases h2 : x.s = y.s
    · simp [h1, h2]
    · simp [h1, h2]
  · simp [h1]
theorem Ob.lt_irrefl (x : Ob) : x.lt x = false := by
  rw [← Bool.not_eq_true, Ob.lt_iff]; omega
theorem Ob.lt_trans {x y z : Ob} (h : x.lt y = true) (k : y.lt z = true) : x.lt z = true := by
  rw [Ob.lt_iff] at *; omega
theorem Ob.lt_total {x y : Ob} (h : x ≠ y) (k : x.lt y = false) : y.lt x = true := by
  rw [← Bool.not_eq_true, Ob.lt_iff] at k
  rw [Ob.lt_iff]
  by_cases h1 : x.c = y.c
  · by_cases h2 : x.s = y.s
    · have : x.o ≠ y.o := fun h3 => h (by cases x; cases y; simp_all)
      omega
    · omega
  · omega
theorem Ob.lt_ntrans {x y z : Ob} (h : x.lt y = false) (k : y.lt z = false) : x.lt z = false := by
  rw [← Bool.not_eq_true, Ob.lt_iff] at *; omega

/-- A list in order. -/
def Asc (L : List Ob) : Prop := L.Pairwise (fun x y => x.lt y = true)
theorem Asc.unique {L M : List Ob} (hL : Asc L) (hM : Asc M) (h : L.Perm M) : L = M :=
  h.eq_of_pairwise (fun x y _ _ h1 h2 => by
    have := Ob.lt_trans h1 h2
    rw [Ob.lt_irrefl] at this
    cases this) hL hM
end Go.Proofs.Ytjaabbjobnfmmaa

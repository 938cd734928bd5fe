/-
  The document's heap: what New, ahead and Has do, told by the list of the objects that are out.
-/
import Derived.Test.YtjaabbjobnfmmaaRow
import Derived.Test.YtjaabbjobnfmmaaHeapB
namespace Go.Proofs.Ytjaabbjobnfmmaa
open Go.RowKit

def Ob.enc (x : Ob) : List Value := [.int .i64 x.c, .int .i64 x.s, .int .i64 x.o]
theorem enc3 : ∀ x : Ob, x.enc.length = 3 := fun _ => rfl
theorem enc3_one : ∀ x : Ob, ∀ u ∈ x.enc, u.oneCell' = true := by
  intro x u hu
  simp [Ob.enc] at hu
  rcases hu with rfl | rfl | rfl <;> rfl

/-- The slice v of objects, in the call's own memory from block B on, holds L. -/
def OwnL (w : World) (B : Nat) (v : Value) (L : List Ob) : Prop := w.ownsRow B 30 3 v L.length (flat Ob.enc L)

theorem size30' (W : World) : (sizeOf 30).run Try.prog W = .ok 3 W := by go_simp

/-- What the walk wants of such a slice. -/
theorem OwnL.form {w : World} {B : Nat} {v : Value} {L : List Ob} (h : OwnL w B v L) : ∃ a g cap, v = .slice a L.length cap ∧
    (∀ k, k < L.length → ∀ W, (Instr.indexAt 37 (.slice a L.length cap) (.int .i64 k)).run Try.prog W = .ok (.pointer (some ⟨g, k * 3, none⟩)) W) ∧
    (∀ k (hk : k < L.length), w.cell? ⟨g, k * 3, none⟩ = some (.int .i64 L[k].c) ∧ w.cell? ⟨g, k * 3 + 1, none⟩ = some (.int .i64 L[k].s) ∧ w.cell? ⟨g, k * 3 + 2, none⟩ = some (.int .i64 L[k].o)) ∧
    (∀ i, v.ownBlock = some i → i = g) ∧ (0 < L.length → B ≤ g ∧ g < w.heap.size) := by
  obtain ⟨a, g, cap, rfl, ha, h1, h2, h3, h4, h5, _⟩ := own_form h
  refine ⟨a, g, cap, rfl, fun k hk W => index_of0 Try.underlying37 W (size30' W) ha cap k hk, fun k hk => ?_, h3, fun h => (h4 h).2⟩
  have e := flat_get enc3 L k hk
  exact ⟨(h5 _ (by omega)).trans (e 0 (by omega)), (h5 _ (by omega)).trans (e 1 (by omega)), (h5 _ (by omega)).trans (e 2 (by omega))⟩

/-- The document's heap behind p: its list, in the call's own memory from block B on. -/
def RefIs (w : World) (p B : Nat) (L : List Ob) : Prop := ∃ v, w.heap[p]? = some (.cells #[v] 96 (0, 0)) ∧ OwnL w B v L ∧ (∀ x ∈ L, x.wf) ∧ B ≤ p

theorem RefIs.fr {X : Nat → Prop} {w w' : World} {p B : Nat} {L : List Ob} (h : RefIs w p B L) (hf : Fr X w w') (hX : ∀ i, i < w.heap.size → B ≤ i → ¬ X i) : RefIs w' p B L := by
  obtain ⟨v, h1, h2, h3, h4⟩ := h
  exact ⟨v, hf.at h1 (hX p (lt_of_block h1) h4), own_fr h2 hf (fun i hi => hX i (h2.lt i hi).2 (h2.lt i hi).1), h3, h4⟩
theorem RefIs.fr0 {w w' : World} {p B : Nat} {L : List Ob} (h : RefIs w p B L) (hf : Fr0 w w') : RefIs w' p B L := h.fr hf (fun _ _ _ h => h)

theorem refNew_any (w : World) :
    Calls Try.prog 38 #[] w fun e w' => e = .returned (.pointer (some ⟨w.heap.size, 0, none⟩)) ∧ Fr0 w w' ∧ RefIs w' w.heap.size w.heap.size [] := by
  go_enter Try.func38, Try.ntmps38
  go_wp2
  go_ret
  exact ⟨rfl, fr0_alloc _ _, _, alloc_block _ _, World.ownsRow_nil _ _ _ _, by simp, Nat.le_refl _⟩

/-- Objects are ordered. -/
def Ob.lt (x y : Ob) : Bool := if x.c ≠ y.c then decide (x.c < y.c) else if x.s ≠ y.s then decide (x.s < y.s) else decide (x.o < y.o)

set_option maxHeartbeats 400000 in
theorem ahead_any (x y : Ob) (w : World) :
    Calls Try.prog 75 #[.agg #[.int .i64 x.c, .int .i64 x.s, .int .i64 x.o], .agg #[.int .i64 y.c, .int .i64 y.s, .int .i64 y.o]] w fun e w' => e = .returned (.bool (x.lt y)) ∧ Fr0 w w' := by
  unfold Ob.lt
  by_cases h1 : x.c = y.c
  · have h1' : (x.c != y.c) = false := by simp [h1]
    rw [if_neg (by simp [h1])]
    by_cases h2 : x.s = y.s
    · have h2' : (x.s != y.s) = false := by simp [h2]
      rw [if_neg (by simp [h2])]
      clear h1 h2
      go_enter Try.func75, Try.ntmps75
      go_wp2
      go_ret
      exact ⟨rfl, fr0_alloc2 _ _ _⟩
    · have h2' : (x.s != y.s) = true := by simp [h2]
      rw [if_pos (by simp [h2])]
      clear h1 h2
      go_enter Try.func75, Try.ntmps75
      go_wp2
      go_ret
      exact ⟨rfl, fr0_alloc2 _ _ _⟩
  · have h1' : (x.c != y.c) = true := by simp [h1]
    rw [if_pos (by simp [h1])]
    clear h1
    go_enter Try.func75, Try.ntmps75
    go_wp2
    go_ret
    exact ⟨rfl, fr0_alloc2 _ _ _⟩

set_option maxHeartbeats 400000 in
theorem refHas_any (p B : Nat) (L : List Ob) (hL : L.length ≤ 4398046511104) (x : Ob) (w : World) (h : RefIs w p B L) :
    Calls Try.prog 41 #[.pointer (some ⟨p, 0, none⟩), .agg #[.int .i64 x.c, .int .i64 x.s, .int .i64 x.o]] w fun e w' => e = .returned (.bool (decide (x ∈ L))) ∧ Fr0 w w' := by
  obtain ⟨v, hp, hown, hwf, hB⟩ := h
  obtain ⟨a, g, cap, rfl, hix, hcs, hg, hlt⟩ := hown.form
  have hgd := guard30
  have HP := hid hp
  have HC := hid hcs
  have HG := hid hlt
  clear hown hg hwf hp hcs hlt
  have hpw := lt_of_block HP.out
  go_enter Try.func41, Try.ntmps41
  go_wp2
  go_loopw [5] (fun i wr => ∃ k : Nat, k ≤ L.length ∧ i = .int .i64 k ∧ Fr0 (w.alloc (.cells #[.int .i64 x.c, .int .i64 x.s, .int .i64 x.o] 30)) wr ∧ ∀ j (hj : j < L.length), j < k → L[j] ≠ x)
    (fun i _ => L.length - (intOf i).toNat)
  case atStart => exact ⟨0, Nat.zero_le _, rfl, Fr.refl _ _, fun _ _ h => absurd h (Nat.not_lt_zero _)⟩
  case round =>
    obtain ⟨k, hk, rfl, hF, hne⟩ := hrel
    have hN := hid hne
    clear hne
    obtain ⟨b0, b1, b2⟩ := box3 hF
    have hF' := (fr0_alloc w _).trans0 hF
    have hpc : wr.cell? ⟨p, 0, none⟩ = _ := cell_of_block (hF'.at HP.out (fun h => h)) 0
    simp only [List.getElem?_toArray, List.getElem?_cons_zero] at hpc
    have HF := hid hF
    clear hF hF'
    by_cases hlt : k < L.length
    · have hgl := (HG.out (by omega)).2
      obtain ⟨c0, c1, c2⟩ := HC.out k hlt
      have hF' := (fr0_alloc w (.cells #[.int .i64 x.c, .int .i64 x.s, .int .i64 x.o] 30)).trans0 HF.out
      have c0' : wr.cell? ⟨g, k * 3, none⟩ = _ := (hF'.cell (p := ⟨g, k * 3, none⟩) hgl (fun h => h)).trans c0
      have c1' : wr.cell? ⟨g, k * 3 + 1, none⟩ = _ := (hF'.cell (p := ⟨g, k * 3 + 1, none⟩) hgl (fun h => h)).trans c1
      have c2' : wr.cell? ⟨g, k * 3 + 2, none⟩ = _ := (hF'.cell (p := ⟨g, k * 3 + 2, none⟩) hgl (fun h => h)).trans c2
      have hixk := hix k hlt
      have heq := fun W => eql30 L[k] x W
      clear hF' c0 c1 c2
      by_cases he : L[k] = x
      · rw [decide_eq_true he] at heq
        simp only [Ob.val] at heq
        have HE := hid he
        clear he
        go_wp2
        go_region
        go_wp2
        go_ret
        exact ⟨by rw [decide_eq_true (HE.out ▸ List.getElem_mem hlt)]; rfl, ((fr0_alloc w _).trans0 HF.out).drew⟩
      · rw [decide_eq_false he] at heq
        simp only [Ob.val] at heq
        have HE := hid he
        clear he
        go_wp2
        go_region
        go_wp2
        go_roundw
        case rel => exact ⟨k + 1, by omega, by go_num, HF.out.drew, fun j hj hjk => by
          by_cases e : j = k
          · subst e; exact HE.out
          · exact hN.out j hj (by omega)⟩
        case measure => simp [intOf]; omega
    · go_wp2
      go_ret
      refine ⟨?_, (fr0_alloc w _).trans0 HF.out⟩
      have : x ∉ L := fun hm => by
        obtain ⟨j, hj, e⟩ := List.getElem_of_mem hm
        exact hN.out j hj (by omega) e
      rw [decide_eq_false this]; rfl
end Go.Proofs.Ytjaabbjobnfmmaa

/-
  The document's heap: what New, ahead and Has do, told by the list of the objects that are out. The document's heap: what put does, told by the list of the objects that are out. The document's heap: what drop does, told by the list of the objects that are out. The document's heap: what Do does, told by the list of the objects that are out. The document's heap: Do at every deed, and Play at every list of deeds.
-/
import Derived.Test.YtjaabbjobnfmmaaRow
import Derived.Test.YtjaabbjobnfmmaaGHeap
import Derived.Maps.AppendAt
import Derived.Test.YtjaabbjobnfmmaaExt
namespace Go.Proofs.Ytjaabbjobnfmmaa
open Go.RowKit

def Ob.enc (x : Ob) : List Value := [.int .i64 x.c, .int .i64 x.s, .int .i64 x.o]
theorem enc3 : ∀ x : Ob, x.enc.length = 3 := fun _ => rfl
theorem enc3_one : ∀ x : Ob, ∀ u ∈ x.enc, u.oneCell' = true := by
  intro x u hu
  simp [Ob.enc] at hu
  rcases hu with rfl | rfl | rfl <;> rfl

/-- The slice v of objects, in the call's own memory from block B on, holds L. -/
def OwnL (w : World) (B : Nat) (v : Value) (L : List Ob) : Prop := w.ownsRow B 30 3 v L.length (flat Ob.enc L)

theorem size30' (W : World) : (sizeOf 30).run Try.prog W = .ok 3 W := by go_simp

/-- What the walk wants of such a slice. -/
theorem OwnL.form {w : World} {B : Nat} {v : Value} {L : List Ob} (h : OwnL w B v L) : ∃ a g cap, v = .slice a L.length cap ∧
    (∀ k, k < L.length → ∀ W, (Instr.indexAt 37 (.slice a L.length cap) (.int .i64 k)).run Try.prog W = .ok (.pointer (some ⟨g, k * 3, none⟩)) W) ∧
    (∀ k (hk : k < L.length), w.cell? ⟨g, k * 3, none⟩ = some (.int .i64 L[k].c) ∧ w.cell? ⟨g, k * 3 + 1, none⟩ = some (.int .i64 L[k].s) ∧ w.cell? ⟨g, k * 3 + 2, none⟩ = some (.int .i64 L[k].o)) ∧
    (∀ i, v.ownBlock = some i → i = g) ∧ (0 < L.length → B ≤ g ∧ g < w.heap.size) := by
  obtain ⟨a, g, cap, rfl, ha, h1, h2, h3, h4, h5, _⟩ := own_form h
  refine ⟨a, g, cap, rfl, fun k hk W => index_of0 Try.underlying37 W (size30' W) ha cap k hk, fun k hk => ?_, h3, fun h => (h4 h).2⟩
  have e := flat_get enc3 L k hk
  exact ⟨(h5 _ (by omega)).trans (e 0 (by omega)), (h5 _ (by omega)).trans (e 1 (by omega)), (h5 _ (by omega)).trans (e 2 (by omega))⟩

/-- The document's heap behind p: its list, in the call's own memory from block B on. -/
def RefIs (w : World) (p B : Nat) (L : List Ob) : Prop := ∃ v, w.heap[p]? = some (.cells #[v] 96 (0, 0)) ∧ OwnL w B v L ∧ (∀ x ∈ L, x.wf) ∧ B ≤ p

theorem RefIs.fr {X : Nat → Prop} {w w' : World} {p B : Nat} {L : List Ob} (h : RefIs w p B L) (hf : Fr X w w') (hX : ∀ i, i < w.heap.size → B ≤ i → ¬ X i) : RefIs w' p B L := by
  obtain ⟨v, h1, h2, h3, h4⟩ := h
  exact ⟨v, hf.at h1 (hX p (lt_of_block h1) h4), own_fr h2 hf (fun i hi => hX i (h2.lt i hi).2 (h2.lt i hi).1), h3, h4⟩
theorem RefIs.fr0 {w w' : World} {p B : Nat} {L : List Ob} (h : RefIs w p B L) (hf : Fr0 w w') : RefIs w' p B L := h.fr hf (fun _ _ _ h => h)

theorem refNew_any (w : World) :
    Calls Try.prog 38 #[] w fun e w' => e = .returned (.pointer (some ⟨w.heap.size, 0, none⟩)) ∧ Fr0 w w' ∧ RefIs w' w.heap.size w.heap.size [] := by
  go_enter Try.func38, Try.ntmps38
  go_wp2
  go_ret
  exact ⟨rfl, fr0_alloc _ _, _, alloc_block _ _, World.ownsRow_nil _ _ _ _, by simp, Nat.le_refl _⟩

/-- Objects are ordered. -/
def Ob.lt (x y : Ob) : Bool := if x.c ≠ y.c then decide (x.c < y.c) else if x.s ≠ y.s then decide (x.s < y.s) else decide (x.o < y.o)

set_option maxHeartbeats 400000 in
theorem ahead_any (x y : Ob) (w : World) :
    Calls Try.prog 75 #[.agg #[.int .i64 x.c, .int .i64 x.s, .int .i64 x.o], .agg #[.int .i64 y.c, .int .i64 y.s, .int .i64 y.o]] w fun e w' => e = .returned (.bool (x.lt y)) ∧ Fr0 w w' := by
  unfold Ob.lt
  by_cases h1 : x.c = y.c
  · have h1' : (x.c != y.c) = false := by simp [h1]
    rw [if_neg (by simp [h1])]
    by_cases h2 : x.s = y.s
    · have h2' : (x.s != y.s) = false := by simp [h2]
      rw [if_neg (by simp [h2])]
      clear h1 h2
      go_enter Try.func75, Try.ntmps75
      go_wp2
      go_ret
      exact ⟨rfl, fr0_alloc2 _ _ _⟩
    · have h2' : (x.s != y.s) = true := by simp [h2]
      rw [if_pos (by simp [h2])]
      clear h1 h2
      go_enter Try.func75, Try.ntmps75
      go_wp2
      go_ret
      exact ⟨rfl, fr0_alloc2 _ _ _⟩
  · have h1' : (x.c != y.c) = true := by simp [h1]
    rw [if_pos (by simp [h1])]
    clear h1
    go_enter Try.func75, Try.ntmps75
    go_wp2
    go_ret
    exact ⟨rfl, fr0_alloc2 _ _ _⟩

set_option maxHeartbeats 400000 in
theorem refHas_any (p B : Nat) (L : List Ob) (hL : L.length ≤ 4398046511104) (x : Ob) (w : World) (h : RefIs w p B L) :
    Calls Try.prog 41 #[.pointer (some ⟨p, 0, none⟩), .agg #[.int .i64 x.c, .int .i64 x.s, .int .i64 x.o]] w fun e w' => e = .returned (.bool (decide (x ∈ L))) ∧ Fr0 w w' := by
  obtain ⟨v, hp, hown, hwf, hB⟩ := h
  obtain ⟨a, g, cap, rfl, hix, hcs, hg, hlt⟩ := hown.form
  have hgd := guard30
  have HP := hid hp
  have HC := hid hcs
  have HG := hid hlt
  clear hown hg hwf hp hcs hlt
  have hpw := lt_of_block HP.out
  go_enter Try.func41, Try.ntmps41
  go_wp2
  go_loopw [5] (fun i wr => ∃ k : Nat, k ≤ L.length ∧ i = .int .i64 k ∧ Fr0 (w.alloc (.cells #[.int .i64 x.c, .int .i64 x.s, .int .i64 x.o] 30)) wr ∧ ∀ j (hj : j < L.length), j < k → L[j] ≠ x)
    (fun i _ => L.length - (intOf i).toNat)
  case atStart => exact ⟨0, Nat.zero_le _, rfl, Fr.refl _ _, fun _ _ h => absurd h (Nat.not_lt_zero _)⟩
  case round =>
    obtain ⟨k, hk, rfl, hF, hne⟩ := hrel
    have hN := hid hne
    clear hne
    obtain ⟨b0, b1, b2⟩ := box3 hF
    have hF' := (fr0_alloc w _).trans0 hF
    have hpc : wr.cell? ⟨p, 0, none⟩ = _ := cell_of_block (hF'.at HP.out (fun h => h)) 0
    simp only [List.getElem?_toArray, List.getElem?_cons_zero] at hpc
    have HF := hid hF
    clear hF hF'
    by_cases hlt : k < L.length
    · have hgl := (HG.out (by omega)).2
      obtain ⟨c0, c1, c2⟩ := HC.out k hlt
      have hF' := (fr0_alloc w (.cells #[.int .i64 x.c, .int .i64 x.s, .int .i64 x.o] 30)).trans0 HF.out
      have c0' : wr.cell? ⟨g, k * 3, none⟩ = _ := (hF'.cell (p := ⟨g, k * 3, none⟩) hgl (fun h => h)).trans c0
      have c1' : wr.cell? ⟨g, k * 3 + 1, none⟩ = _ := (hF'.cell (p := ⟨g, k * 3 + 1, none⟩) hgl (fun h => h)).trans c1
      have c2' : wr.cell? ⟨g, k * 3 + 2, none⟩ = _ := (hF'.cell (p := ⟨g, k * 3 + 2, none⟩) hgl (fun h => h)).trans c2
      have hixk := hix k hlt
      have heq := fun W => eql30 L[k] x W
      clear hF' c0 c1 c2
      by_cases he : L[k] = x
      · rw [decide_eq_true he] at heq
        simp only [Ob.val] at heq
        have HE := hid he
        clear he
        go_wp2
        go_region
        go_wp2
        go_ret
        exact ⟨by rw [decide_eq_true (HE.out ▸ List.getElem_mem hlt)]; rfl, ((fr0_alloc w _).trans0 HF.out).drew⟩
      · rw [decide_eq_false he] at heq
        simp only [Ob.val] at heq
        have HE := hid he
        clear he
        go_wp2
        go_region
        go_wp2
        go_roundw
        case rel => exact ⟨k + 1, by omega, by go_num, HF.out.drew, fun j hj hjk => by
          by_cases e : j = k
          · subst e; exact HE.out
          · exact hN.out j hj (by omega)⟩
        case measure => simp [intOf]; omega
    · go_wp2
      go_ret
      refine ⟨?_, (fr0_alloc w _).trans0 HF.out⟩
      have : x ∉ L := fun hm => by
        obtain ⟨j, hj, e⟩ := List.getElem_of_mem hm
        exact hN.out j hj (by omega) e
      rw [decide_eq_false this]; rfl
end Go.Proofs.Ytjaabbjobnfmmaa

namespace Go.Proofs.Ytjaabbjobnfmmaa
open Go.RowKit

theorem info30 : (Try.prog.info? 30).map (fun i => (i.zero, i.size, i.bytes)) = some (some (.agg #[.int .i64 0, .int .i64 0, .int .i64 0]), 3, 24) := by kernel_rfl

/-- Where an object goes among others. -/
def putL (L : List Ob) (x : Ob) : List Ob := L.takeWhile (·.lt x) ++ x :: L.dropWhile (·.lt x)

theorem take_snoc' {α : Type} (L : List α) (k : Nat) (hk : k < L.length) : L.take (k + 1) = L.take k ++ [L[k]] := by
  rw [List.take_succ_eq_append_getElem hk]

theorem putL_at (L : List Ob) (x : Ob) (k : Nat) (hk : k ≤ L.length) (h1 : ∀ j (hj : j < L.length), j < k → L[j].lt x = true) (h2 : ∀ hk : k < L.length, L[k].lt x = false) : putL L x = (L.take k ++ [x]) ++ L.drop k := by
  have e : L.takeWhile (·.lt x) = L.take k ∧ L.dropWhile (·.lt x) = L.drop k := by
    induction L generalizing k with
    | nil => simp
    | cons y L ih =>
      cases k with
      | zero =>
        have := h2 (by simp)
        simp at this
        simp [this]
      | succ k =>
        have h0 := h1 0 (by simp) (by omega)
        simp at h0
        have := ih k (by simpa using hk) (fun j hj hjk => by have := h1 (j + 1) (by simpa using hj) (by omega); simpa using this) (fun hk => by have := h2 (by simpa using hk); simpa using this)
        simp [h0, this]
  rw [putL, e.1, e.2]
  simp

/-- The append's law at this program's objects: one object behind those that are there. -/
theorem own_snoc {w : World} {B : Nat} {v : Value} {L : List Ob} {x : Ob} (h : w.ownsRow B 30 3 v (L.length + 1) (flat Ob.enc L ++ x.enc)) : OwnL w B v (L ++ [x]) := by
  unfold OwnL
  rw [flat_snoc]
  simpa using h

theorem cells_new3 (w : World) (a b c : Value) (t : TypeId) : ∀ j u, [a, b, c][j]? = some u → (w.alloc (.cells #[a, b, c] t)).cell? ((⟨w.heap.size, 0, none⟩ : Addr).add j) = some u := by
  intro j u hu
  rw [Addr.add_lit]
  simp only [Nat.zero_add, World.cell?_alloc_new]
  simpa using hu

/-- What the document's heap behind p holds, as the walk reads it: kept while no elder block changes. -/
structure RefRead (w : World) (p : Nat) (a : Option Addr) (g cap : Nat) (L : List Ob) : Prop where
  ptr : w.heap[p]? = some (.cells #[.slice a L.length cap] 96 (0, 0))
  cells : ∀ j, j < L.length * 3 → w.cell? ⟨g, j, none⟩ = (flat Ob.enc L)[j]?
  lt : 0 < L.length → g < w.heap.size
  addr : 0 < L.length → a = some ⟨g, 0, none⟩
  fits : L.length ≤ cap
  nil : a = none → L.length = 0 ∧ cap = 0

section
variable {w w' : World} {p g cap : Nat} {a : Option Addr} {L : List Ob}
theorem RefRead.fr0 (h : RefRead w p a g cap L) (hf : Fr0 w w') : RefRead w' p a g cap L :=
  ⟨hf.at h.ptr (fun h => h), fun j hj => (hf.cell (p := ⟨g, j, none⟩) (h.lt (by omega)) (fun h => h)).trans (h.cells j hj), fun hl => hf.lt (h.lt hl), h.addr, h.fits, h.nil⟩
theorem RefRead.head (h : RefRead w p a g cap L) : w.cell? ⟨p, 0, none⟩ = some (.slice a L.length cap) := by
  simpa using cell_of_block h.ptr 0
theorem RefRead.index (h : RefRead w p a g cap L) (k : Nat) (hk : k < L.length) (W : World) : (Instr.indexAt 37 (.slice a L.length cap) (.int .i64 k)).run Try.prog W = .ok (.pointer (some ⟨g, k * 3, none⟩)) W :=
  index_of0 Try.underlying37 W (size30' W) h.addr cap k hk
theorem RefRead.elem (h : RefRead w p a g cap L) (k : Nat) (hk : k < L.length) :
    w.cell? ⟨g, k * 3, none⟩ = some (.int .i64 L[k].c) ∧ w.cell? ⟨g, k * 3 + 1, none⟩ = some (.int .i64 L[k].s) ∧ w.cell? ⟨g, k * 3 + 2, none⟩ = some (.int .i64 L[k].o) := by
  have e := flat_get enc3 L k hk
  exact ⟨(h.cells _ (by omega)).trans (e 0 (by omega)), (h.cells _ (by omega)).trans (e 1 (by omega)), (h.cells _ (by omega)).trans (e 2 (by omega))⟩
end

theorem RefIs.read {w : World} {p B : Nat} {L : List Ob} (h : RefIs w p B L) : ∃ a g cap, RefRead w p a g cap L := by
  obtain ⟨v, hp, hown, hwf, hB⟩ := h
  obtain ⟨a, g, cap, rfl, ha, hcap, hcm, _, hgl, hcs, hnone⟩ := own_form hown
  exact ⟨a, g, cap, hp, hcs, fun h => (hgl h).2.2, ha, hcap, hnone⟩

/-- An object in a box of its own, and the box's cells. -/
def BoxAt (w : World) (b : Nat) (x : Ob) : Prop := w.heap[b]? = some (.cells #[.int .i64 x.c, .int .i64 x.s, .int .i64 x.o] 30 (0, 0))
theorem BoxAt.cells {w : World} {b : Nat} {x : Ob} (h : BoxAt w b x) : w.cell? ⟨b, 0, none⟩ = some (.int .i64 x.c) ∧ w.cell? ⟨b, 1, none⟩ = some (.int .i64 x.s) ∧ w.cell? ⟨b, 2, none⟩ = some (.int .i64 x.o) :=
  ⟨cell_of_block h 0, cell_of_block h 1, cell_of_block h 2⟩

/-- How the loop of put stands: k objects have been carried over. -/
structure PutRel (w wr : World) (p : Nat) (a : Option Addr) (g cap : Nat) (L : List Ob) (x : Ob) (v : Value) (k : Nat) : Prop where
  le : k ≤ L.length
  own : OwnL wr (w.heap.size + 1) v (L.take k)
  plt : p < w.heap.size
  glt : 0 < L.length → g < w.heap.size
  fr : Fr0 w wr
  box : BoxAt wr w.heap.size x
  read : RefRead wr p a g cap L
  less : ∀ j (hj : j < L.length), j < k → L[j].lt x = true

section
variable {w wr w' : World} {p g cap : Nat} {a : Option Addr} {L : List Ob} {x : Ob} {v : Value} {k : Nat}
theorem PutRel.fr0 (h : PutRel w wr p a g cap L x v k) (hf : Fr0 wr w') : PutRel w w' p a g cap L x v k :=
  ⟨h.le, own_fr0 h.own hf, h.plt, h.glt, h.fr.trans0 hf, hf.at h.box (fun h => h), h.read.fr0 hf, h.less⟩
theorem PutRel.grown (h : PutRel w wr p a g cap L x v k) {w' : World} {o : Obj} (hg : (wr.alloc o).grownBy w' v.ownBlock) : Fr0 w w' ∧ BoxAt w' w.heap.size x ∧ RefRead w' p a g cap L := by
  have hb : ∀ i, some i = v.ownBlock → w.heap.size < i := fun i e => (h.own.lt i e.symm).1
  have hf : Fr (fun i => some i = v.ownBlock) wr w' := (fr0_alloc wr o |>.mono (fun _ _ h => h.elim)).grown hg (fun _ _ h => h)
  refine ⟨h.fr.trans hf (fun i hi e => by have := hb i e; omega), hf.at h.box (fun e => by have := hb _ e; omega), hf.at h.read.ptr (fun e => by have := hb _ e; have := h.plt; omega), fun j hj => ?_, fun hl => hf.lt (h.read.lt hl), h.read.addr, h.read.fits, h.read.nil⟩
  exact (hf.cell (p := ⟨g, j, none⟩) (h.read.lt (by omega)) (fun e => by have := hb g e; have := h.glt (by omega); omega)).trans (h.read.cells j hj)
theorem PutRel.snoc (h : PutRel w wr p a g cap L x v k) (hk : k < L.length) (hb : L[k].lt x = true) {v' : Value} {w' : World} {o : Obj}
    (hown : w'.ownsRow (w.heap.size + 1) 30 3 v' (k + 1) (flat Ob.enc (L.take k) ++ L[k].enc)) (hg : (wr.alloc o).grownBy w' v.ownBlock) : PutRel w w' p a g cap L x v' (k + 1) := by
  obtain ⟨h1, h2, h3⟩ := h.grown hg
  have hl : (L.take k).length = k := by simp; omega
  refine ⟨by omega, by rw [take_snoc' L k hk]; exact own_snoc (by rw [hl]; exact hown), h.plt, h.glt, h1, h2, h3, fun j hj hjk => ?_⟩
  by_cases e : j = k
  · subst e; exact hb
  · exact h.less j hj (by omega)
end

set_option maxRecDepth 100000 in
set_option maxHeartbeats 800000 in
theorem put_any (p B : Nat) (L : List Ob) (hL : L.length < 4398046511104) (x : Ob) (hx : x.wf) (w : World) (hBw : B ≤ w.heap.size) (h : RefIs w p B L) :
    Calls Try.prog 67 #[.pointer (some ⟨p, 0, none⟩), .agg #[.int .i64 x.c, .int .i64 x.s, .int .i64 x.o]] w fun e w' => e = .returned (.tuple #[]) ∧ Fr (· = p) w w' ∧ RefIs w' p B (putL L x) := by
  obtain ⟨i0, hi, hz0, hz1, hz2⟩ := info_parts info30
  obtain ⟨a, g, cap, hr⟩ := h.read
  have HP := hid h
  have HZ := hid (show Try.prog.info? 30 = some i0 ∧ i0.zero = some (.agg #[.int .i64 0, .int .i64 0, .int .i64 0]) ∧ i0.size = 3 ∧ i0.bytes = 24 from ⟨hi, hz0, hz1, hz2⟩)
  have HR := hid hr
  clear h hz0 hz1 hz2 hi hr
  go_enter Try.func67, Try.ntmps67
  go_wp2
  go_loopw [4, 5] (fun v i wr => ∃ k : Nat, i = .int .i64 k ∧ Hid (PutRel w wr p a g cap L x v k))
    (fun _ i _ => L.length - (intOf i).toNat)
  case atStart => exact ⟨0, rfl, hid ⟨Nat.zero_le _, (World.ownsRow_nil _ _ _ _ : OwnL _ _ _ []), lt_of_block HR.out.ptr, HR.out.lt, fr0_alloc _ _, alloc_block _ _, HR.out.fr0 (fr0_alloc _ _), fun _ _ h => absurd h (Nat.not_lt_zero _)⟩⟩
  case round =>
    obtain ⟨k, rfl, hR⟩ := hrel
    have hk := hR.out.le
    have hpc := hR.out.read.head
    have hFin : ∀ (v1 v2 : Value) (w2 w3 w4 : World) (o : Obj), Hid (PutRel w w2 p a g cap L x v1 k) → (∀ hk : k < L.length, L[k].lt x = false) →
        (w2.alloc o).grownBy w3 v1.ownBlock → ∀ v3 : Value, w3.ownsRow (w.heap.size + 1) 30 3 v3 (k + 1) (flat Ob.enc (L.take k) ++ x.enc) → w4.ownsRow (w.heap.size + 1) 30 3 v2 (k + 1 + (L.length - k)) (flat Ob.enc (L.take k) ++ (x.enc ++ (flat Ob.enc L).drop (k * 3))) →
        w3.grownBy w4 v3.ownBlock → Hid (Fr (· = p) w (w4.setCell ⟨p, 0, none⟩ v2) ∧ RefIs (w4.setCell ⟨p, 0, none⟩ v2) p B (putL L x)) := by
      intro v1 v2 w2 w3 w4 o h hstop hg v3 hown3 hown hg2
      have h := h.out
      obtain ⟨h1, h2, h3⟩ := h.grown hg
      have hb : ∀ i, some i = v3.ownBlock → w.heap.size < i := fun i e => (hown3.lt i e.symm).1
      have hf : Fr0 w w4 := h1.grown hg2 (fun i hi e => by have := hb i e; omega)
      have hp4 : w4.heap[p]? = _ := (Fr.of_grown hg2).at h3.ptr (fun e => by have := hb p e; have := h.plt; omega)
      refine hid ⟨(hf.mono (fun _ _ h => h.elim)).setCell (X := (· = p)) (p := ⟨p, 0, none⟩) (fun _ => rfl) _, v2, ?_, ?_, ?_, ?_⟩
      · have := setCell_block hp4 0 v2
        simpa using this
      · rw [putL_at L x k h.le h.less hstop]
        have e1 : ((L.take k ++ [x]) ++ L.drop k).length = k + 1 + (L.length - k) := by
          have := h.le
          simp; omega
        have e2 : flat Ob.enc ((L.take k ++ [x]) ++ L.drop k) = flat Ob.enc (L.take k) ++ (x.enc ++ (flat Ob.enc L).drop (k * 3)) := by
          rw [flat_append, flat_snoc, flat_drop enc3, List.append_assoc]
        unfold OwnL
        rw [e1, e2]
        have hne := own_ne hown hp4 (by decide)
        have := own_fr hown ((Fr.refl (· = p) w4).setCell (p := ⟨p, 0, none⟩) (fun _ => rfl) v2) (fun i hi e => hne i hi e)
        exact ⟨this.1, by
          rcases this.2 with hn | ⟨g, cap, cur, rfl, hb, rest⟩
          · exact .inl hn
          · exact .inr ⟨g, cap, cur, rfl, by omega, rest⟩⟩
      · intro y hy
        obtain ⟨_, _, _, hwf, _⟩ := HP.out
        rw [putL] at hy
        rcases List.mem_append.1 hy with hy | hy
        · exact hwf y ((List.takeWhile_sublist _).subset hy)
        · rcases List.mem_cons.1 hy with rfl | hy
          · exact hx
          · exact hwf y ((List.dropWhile_sublist _).subset hy)
      · obtain ⟨_, _, _, _, hB⟩ := HP.out
        exact hB
    by_cases hlt : k < L.length
    · have hix := hR.out.read.index k hlt
      obtain ⟨c0, c1, c2⟩ := hR.out.read.elem k hlt
      obtain ⟨b0, b1, b2⟩ := hR.out.box.cells
      have hA := ahead_any L[k] x wr.drew
      generalize hb : L[k].lt x = bb at hA
      have HB := hid hb
      clear hb
      go_wp2
      go_still_tail 16, (by kernel_rfl)
      change wpList _ _ _ _ _ wr.drew
      go_wp2_with fail
      cases bb with
      | true =>
        refine hA.mono ?_
        rintro e w2 ⟨rfl, hf2⟩
        have hR2 := hid (hR.out.fr0 ((Fr.refl _ wr).drew.trans0 hf2))
        clear hR hf2 hA hpc c0 c1 c2 b0 b1 b2
        have hpc := hR2.out.read.head
        obtain ⟨c0, c1, c2⟩ := hR2.out.read.elem k hlt
        have hown := hid hR2.out.own
        go_wp2_with (at_builtin; refine wpList_append_own _ rfl _ _ 37 rfl (w.heap.size + 1) 30 i0 (.agg #[.int .i64 0, .int .i64 0, .int .i64 0]) 3 24 Try.underlying37 HZ.out.1 HZ.out.2.1 HZ.out.2.2.1 HZ.out.2.2.2 rfl (by decide) _ _ _ rfl (hown.out.alloc _) ⟨w2.heap.size, 0, none⟩ 1 1 L[k].enc rfl rfl ?c1 ?c2 ?c3 ?c4 ?c5 ?_)
        case c1 => exact cells_new3 _ _ _ _ _
        case c2 => exact enc3_one _
        case c3 => simp only [maxLen]; simp; omega
        case c4 => simp; omega
        case c5 => have := hR2.out.fr.size; have := lt_of_block hR2.out.box; simp; omega
        intro v' w3 hown' hg _
        have hS := hid (hR2.out.snoc hlt HB.out hown' hg)
        clear hown' hg hown hR2 hpc c0 c1 c2
        go_wp2
        go_roundw
        case rel => exact ⟨k + 1, by go_num, hS⟩
        case measure => simp [intOf]; omega
      | false =>
        refine hA.mono ?_
        rintro e w2 ⟨rfl, hf2⟩
        have hR2 := hid (hR.out.fr0 ((Fr.refl _ wr).drew.trans0 hf2))
        have hstop : Hid (∀ hk : k < L.length, L[k].lt x = false) := hid (fun _ => HB.out)
        clear hR hf2 hA hpc c0 c1 c2 b0 b1 b2 hix HB
        obtain ⟨b0, b1, b2⟩ := hR2.out.box.cells
        have hown := hid hR2.out.own
        have hlen : Hid ((L.take k).length = k) := hid (by simp; omega)
        have hsl := fun W => slice_from (P := Try.prog) (a := a) (n := L.length) (cap := cap) Try.underlying37 W (size30' W) k hk
        have tok : True := trivial
        go_wp2_with (first
          | (at_builtin; have _t := tok; refine wpList_append_own _ rfl (.tmp 36) (.tmp 38) 37 rfl (w.heap.size + 1) 30 i0 (.agg #[.int .i64 0, .int .i64 0, .int .i64 0]) 3 24 Try.underlying37 HZ.out.1 HZ.out.2.1 HZ.out.2.2.1 HZ.out.2.2.2 rfl (by decide) _ _ _ rfl (hown.out.alloc _) ⟨w2.heap.size, 0, none⟩ 1 1 x.enc rfl rfl (cells_new3 _ _ _ _ _) (enc3_one _) (by rw [hlen.out]; simp only [maxLen]; omega) (by rw [hlen.out]; omega) (by have := hR2.out.fr.size; have := lt_of_block hR2.out.box; simp; omega) ?_; rw [hlen.out]; intro v1 w3 hown1 hg1 _; have hT := hid (hR2.out.grown hg1); have hpc3 := hT.out.2.2.head; have hO1 := hid hown1; have hG1 := hid hg1; clear tok hown1 hg1)
          | (at_builtin; refine append_own_any _ rfl (.tmp 41) (.tmp 47) 37 rfl (w.heap.size + 1) 30 i0 (.agg #[.int .i64 0, .int .i64 0, .int .i64 0]) 3 24 Try.underlying37 HZ.out.1 HZ.out.2.1 HZ.out.2.2.1 HZ.out.2.2.2 rfl (by decide) _ _ _ rfl hO1.out (cutA a cap k 3) (L.length - k) (cap - k) ((flat Ob.enc L).drop (k * 3)) rfl (by rw [flat_drop enc3, flat_length enc3]; simp) (fun h => by have := hT.out.2.2.nil (cutA_none h); omega) (cutA_cells (off := 0) hT.out.2.2.addr hT.out.2.2.fits (fun j hj => by rw [Nat.zero_add]; exact hT.out.2.2.cells j hj) (flat_length enc3 L) k hk) (fun u hu => flat_one enc3_one L u (List.drop_subset _ _ hu)) (by simp only [maxLen]; omega) (by omega) (by have := hT.out.1.size; have := lt_of_block hT.out.2.1; omega) ?_; intro v2 w4 hown2 hg2; have hF4 := hid (hFin _ v2 w2 w3 w4 _ hR2 hstop.out hG1.out v1 hO1.out (by simpa using hown2) hg2); have hp4 := (Fr.of_grown hg2).at hT.out.2.2.ptr (fun e => by have := (hO1.out.lt p e.symm).1; have := hR2.out.plt; omega); have hpc4 : w4.cell? ⟨p, 0, none⟩ = _ := cell_of_block hp4 0; have hfz4 : w4.frozen? ⟨p, 0, none⟩ = _ := free_of_block hp4 0; obtain ⟨a2, g2, cap2, hv2, _⟩ := own_form hown2; clear hown2 hg2 hp4; subst hv2))
        go_end0
        exact ⟨rfl, hF4.out.out⟩
    · obtain ⟨b0, b1, b2⟩ := hR.out.box.cells
      have hstop : Hid (∀ hk : k < L.length, L[k].lt x = false) := hid (fun h => absurd h hlt)
      go_wp2
      go_region
      generalize hw2 : wr.drew = w2
      have hR2 : Hid (PutRel w w2 p a g cap L x u4 k) := hid (by rw [← hw2]; exact hR.out.fr0 (Fr.refl _ wr).drew)
      clear hR hpc b0 b1 b2 hw2
      obtain ⟨b0, b1, b2⟩ := hR2.out.box.cells
      have hown := hid hR2.out.own
      have hlen : Hid ((L.take k).length = k) := hid (by simp; omega)
      have hsl := fun W => slice_from (P := Try.prog) (a := a) (n := L.length) (cap := cap) Try.underlying37 W (size30' W) k hk
      have tok : True := trivial
      go_wp2_with (first
        | (at_builtin; have _t := tok; refine wpList_append_own _ rfl (.tmp 36) (.tmp 38) 37 rfl (w.heap.size + 1) 30 i0 (.agg #[.int .i64 0, .int .i64 0, .int .i64 0]) 3 24 Try.underlying37 HZ.out.1 HZ.out.2.1 HZ.out.2.2.1 HZ.out.2.2.2 rfl (by decide) _ _ _ rfl (hown.out.alloc _) ⟨w2.heap.size, 0, none⟩ 1 1 x.enc rfl rfl (cells_new3 _ _ _ _ _) (enc3_one _) (by rw [hlen.out]; simp only [maxLen]; omega) (by rw [hlen.out]; omega) (by have := hR2.out.fr.size; have := lt_of_block hR2.out.box; simp; omega) ?_; rw [hlen.out]; intro v1 w3 hown1 hg1 _; have hT := hid (hR2.out.grown hg1); have hpc3 := hT.out.2.2.head; have hO1 := hid hown1; have hG1 := hid hg1; clear tok hown1 hg1)
        | (at_builtin; refine append_own_any _ rfl (.tmp 41) (.tmp 47) 37 rfl (w.heap.size + 1) 30 i0 (.agg #[.int .i64 0, .int .i64 0, .int .i64 0]) 3 24 Try.underlying37 HZ.out.1 HZ.out.2.1 HZ.out.2.2.1 HZ.out.2.2.2 rfl (by decide) _ _ _ rfl hO1.out (cutA a cap k 3) (L.length - k) (cap - k) ((flat Ob.enc L).drop (k * 3)) rfl (by rw [flat_drop enc3, flat_length enc3]; simp) (fun h => by have := hT.out.2.2.nil (cutA_none h); omega) (cutA_cells (off := 0) hT.out.2.2.addr hT.out.2.2.fits (fun j hj => by rw [Nat.zero_add]; exact hT.out.2.2.cells j hj) (flat_length enc3 L) k hk) (fun u hu => flat_one enc3_one L u (List.drop_subset _ _ hu)) (by simp only [maxLen]; omega) (by omega) (by have := hT.out.1.size; have := lt_of_block hT.out.2.1; omega) ?_; intro v2 w4 hown2 hg2; have hF4 := hid (hFin _ v2 w2 w3 w4 _ hR2 hstop.out hG1.out v1 hO1.out (by simpa using hown2) hg2); have hp4 := (Fr.of_grown hg2).at hT.out.2.2.ptr (fun e => by have := (hO1.out.lt p e.symm).1; have := hR2.out.plt; omega); have hpc4 : w4.cell? ⟨p, 0, none⟩ = _ := cell_of_block hp4 0; have hfz4 : w4.frozen? ⟨p, 0, none⟩ = _ := free_of_block hp4 0; obtain ⟨a2, g2, cap2, hv2, _⟩ := own_form hown2; clear hown2 hg2 hp4; subst hv2))
      go_end0
      exact ⟨rfl, hF4.out.out⟩
end Go.Proofs.Ytjaabbjobnfmmaa

namespace Go.Proofs.Ytjaabbjobnfmmaa
open Go.RowKit

/-- Without an object. -/
def dropL (L : List Ob) (x : Ob) : List Ob := L.filter (fun y => !decide (y = x))

theorem dropL_snoc (L : List Ob) (x : Ob) (k : Nat) (hk : k < L.length) : dropL (L.take (k + 1)) x = dropL (L.take k) x ++ (if L[k] = x then [] else [L[k]]) := by
  unfold dropL
  rw [take_snoc' L k hk, List.filter_append]
  by_cases e : L[k] = x <;> simp [e]

/-- How the loop of drop stands: k objects have been looked at. -/
structure DropRel (w wr : World) (p : Nat) (a : Option Addr) (g cap : Nat) (L : List Ob) (x : Ob) (v : Value) (k : Nat) : Prop where
  le : k ≤ L.length
  own : OwnL wr (w.heap.size + 1) v (dropL (L.take k) x)
  plt : p < w.heap.size
  glt : 0 < L.length → g < w.heap.size
  fr : Fr0 w wr
  box : BoxAt wr w.heap.size x
  read : RefRead wr p a g cap L

section
variable {w wr w' : World} {p g cap : Nat} {a : Option Addr} {L : List Ob} {x : Ob} {v : Value} {k : Nat}
theorem DropRel.fr0 (h : DropRel w wr p a g cap L x v k) (hf : Fr0 wr w') : DropRel w w' p a g cap L x v k :=
  ⟨h.le, own_fr0 h.own hf, h.plt, h.glt, h.fr.trans0 hf, hf.at h.box (fun h => h), h.read.fr0 hf⟩
theorem DropRel.skip (h : DropRel w wr p a g cap L x v k) (hk : k < L.length) (he : L[k] = x) : DropRel w wr p a g cap L x v (k + 1) :=
  ⟨by omega, by rw [dropL_snoc L x k hk, if_pos he, List.append_nil]; exact h.own, h.plt, h.glt, h.fr, h.box, h.read⟩
theorem DropRel.snoc (h : DropRel w wr p a g cap L x v k) (hk : k < L.length) (he : L[k] ≠ x) {v' : Value} {w' : World} {o : Obj}
    (hown : w'.ownsRow (w.heap.size + 1) 30 3 v' ((dropL (L.take k) x).length + 1) (flat Ob.enc (dropL (L.take k) x) ++ L[k].enc)) (hg : (wr.alloc o).grownBy w' v.ownBlock) : DropRel w w' p a g cap L x v' (k + 1) := by
  have hb : ∀ i, some i = v.ownBlock → w.heap.size < i := fun i e => (h.own.lt i e.symm).1
  have hf : Fr (fun i => some i = v.ownBlock) wr w' := (fr0_alloc wr o |>.mono (fun _ _ h => h.elim)).grown hg (fun _ _ h => h)
  refine ⟨by omega, by rw [dropL_snoc L x k hk, if_neg he]; exact own_snoc hown, h.plt, h.glt, h.fr.trans hf (fun i hi e => by have := hb i e; omega), hf.at h.box (fun e => by have := hb _ e; omega), hf.at h.read.ptr (fun e => by have := hb _ e; have := h.plt; omega), fun j hj => ?_, fun hl => hf.lt (h.read.lt hl), h.read.addr, h.read.fits, h.read.nil⟩
  exact (hf.cell (p := ⟨g, j, none⟩) (h.read.lt (by omega)) (fun e => by have := hb g e; have := h.glt (by omega); omega)).trans (h.read.cells j hj)
end

set_option maxRecDepth 100000 in
set_option maxHeartbeats 800000 in
theorem drop_any (p B : Nat) (L : List Ob) (hL : L.length < 4398046511104) (x : Ob) (w : World) (hBw : B ≤ w.heap.size) (h : RefIs w p B L) :
    Calls Try.prog 68 #[.pointer (some ⟨p, 0, none⟩), .agg #[.int .i64 x.c, .int .i64 x.s, .int .i64 x.o]] w fun e w' => e = .returned (.tuple #[]) ∧ Fr (· = p) w w' ∧ RefIs w' p B (dropL L x) := by
  obtain ⟨i0, hi, hz0, hz1, hz2⟩ := info_parts info30
  obtain ⟨a, g, cap, hr⟩ := h.read
  have HP := hid h
  have HZ := hid (show Try.prog.info? 30 = some i0 ∧ i0.zero = some (.agg #[.int .i64 0, .int .i64 0, .int .i64 0]) ∧ i0.size = 3 ∧ i0.bytes = 24 from ⟨hi, hz0, hz1, hz2⟩)
  have HR := hid hr
  have hgd := guard30
  clear h hz0 hz1 hz2 hi hr
  go_enter Try.func68, Try.ntmps68
  go_wp2
  go_loopw [4, 5] (fun v i wr => ∃ k : Nat, i = .int .i64 k ∧ Hid (DropRel w wr p a g cap L x v k))
    (fun _ i _ => L.length - (intOf i).toNat)
  case atStart => exact ⟨0, rfl, hid ⟨Nat.zero_le _, (World.ownsRow_nil _ _ _ _ : OwnL _ _ _ []), lt_of_block HR.out.ptr, HR.out.lt, fr0_alloc _ _, alloc_block _ _, HR.out.fr0 (fr0_alloc _ _)⟩⟩
  case round =>
    obtain ⟨k, rfl, hR⟩ := hrel
    have hk := hR.out.le
    have hpc := hR.out.read.head
    by_cases hlt : k < L.length
    · have hix := hR.out.read.index k hlt
      obtain ⟨c0, c1, c2⟩ := hR.out.read.elem k hlt
      obtain ⟨b0, b1, b2⟩ := hR.out.box.cells
      have hne := fun W => neq30 L[k] x W
      by_cases he : L[k] = x
      · rw [decide_eq_true he] at hne
        simp only [Ob.val] at hne
        have hS := hid ((hR.out.fr0 (Fr.refl _ wr).drew).skip hlt he)
        clear hR he
        go_wp2
        go_region
        go_wp2
        go_roundw
        case rel => exact ⟨k + 1, by go_num, hS⟩
        case measure => simp [intOf]; omega
      · rw [decide_eq_false he] at hne
        simp only [Ob.val] at hne
        have hR2 := hid (hR.out.fr0 (Fr.refl _ wr).drew)
        have HE := hid he
        have hlen : (dropL (L.take k) x).length ≤ k := by
          have := List.length_filter_le (fun y => !decide (y = x)) (L.take k)
          have h2 := List.length_take_le k L
          exact Nat.le_trans this h2
        have hown := hid hR2.out.own
        clear hR he
        go_wp2
        go_region
        go_wp2_with (at_builtin; refine wpList_append_own _ rfl _ _ 37 rfl (w.heap.size + 1) 30 i0 (.agg #[.int .i64 0, .int .i64 0, .int .i64 0]) 3 24 Try.underlying37 HZ.out.1 HZ.out.2.1 HZ.out.2.2.1 HZ.out.2.2.2 rfl (by decide) _ _ _ rfl (hown.out.alloc _) ⟨wr.heap.size, 0, none⟩ 1 1 L[k].enc rfl rfl ?c1 ?c2 ?c3 ?c4 ?c5 ?_)
        case c1 => exact cells_new3 _ _ _ _ _
        case c2 => exact enc3_one _
        case c3 => simp only [maxLen]; omega
        case c4 => omega
        case c5 => have := hR2.out.fr.size; have := lt_of_block hR2.out.box; simp at this ⊢; omega
        intro v' w3 hown' hg _
        have hS := hid (hR2.out.snoc hlt HE.out hown' hg)
        clear hown' hg hown hR2 hpc c0 c1 c2
        go_wp2
        go_roundw
        case rel => exact ⟨k + 1, by go_num, hS⟩
        case measure => simp [intOf]; omega
    · have hkl : L.take k = L := List.take_of_length_le (by omega)
      have hfz : wr.frozen? ⟨p, 0, none⟩ = _ := free_of_block hR.out.read.ptr 0
      have ho := hR.out.own
      rw [hkl] at ho
      obtain ⟨a2, g2, cap2, hv2, _⟩ := own_form ho
      have hF : Hid (Fr (· = p) w (wr.setCell ⟨p, 0, none⟩ (.slice a2 (dropL L x).length cap2)) ∧ RefIs (wr.setCell ⟨p, 0, none⟩ (.slice a2 (dropL L x).length cap2)) p B (dropL L x)) := by
        rw [hv2] at ho
        refine hid ⟨(hR.out.fr.mono (fun _ _ h => h.elim)).setCell (X := (· = p)) (p := ⟨p, 0, none⟩) (fun _ => rfl) _, _, by simpa using setCell_block hR.out.read.ptr 0 (.slice a2 (dropL L x).length cap2), ?_, ?_, ?_⟩
        · have hne := own_ne ho hR.out.read.ptr (by decide)
          have := own_fr ho ((Fr.refl (· = p) wr).setCell (p := ⟨p, 0, none⟩) (fun _ => rfl) (.slice a2 (dropL L x).length cap2)) (fun i hi e => hne i hi e)
          refine ⟨this.1, ?_⟩
          rcases this.2 with hn | ⟨g, cap, cur, h1, hb, rest⟩
          · exact .inl hn
          · exact .inr ⟨g, cap, cur, h1, by omega, rest⟩
        · intro y hy
          obtain ⟨_, _, _, hwf, _⟩ := HP.out
          exact hwf y (List.mem_filter.1 hy).1
        · obtain ⟨_, _, _, _, hB⟩ := HP.out
          exact hB
      subst hv2
      clear hR ho hkl
      go_wp2
      go_end0
      exact ⟨rfl, hF.out⟩
end Go.Proofs.Ytjaabbjobnfmmaa

namespace Go.Proofs.Ytjaabbjobnfmmaa
open Go.RowKit

/-- What the document's Do answers, and which objects are out behind it. -/
def rdo (L : List Ob) (k : Int) (x : Ob) : Int × List Ob :=
  if k < 1 ∨ 4 < k ∨ (k = 2 ∧ x ≠ zob) then (2, L)
  else if k = 2 then (0, L)
  else if decide (x ∈ L) ≠ decide (k = 3) then (270, L)
  else if k = 1 then (0, putL L x)
  else if k = 3 then (0, dropL L x)
  else (0, L)

/-- A deed in a box of its own. -/
def DeedAt (w : World) (b : Nat) (k : Int) (x : Ob) : Prop := w.heap[b]? = some (.cells #[.int .i64 k, .int .i64 x.c, .int .i64 x.s, .int .i64 x.o] 32 (0, 0))
theorem DeedAt.cells {w : World} {b : Nat} {k : Int} {x : Ob} (h : DeedAt w b k x) : w.cell? ⟨b, 0, none⟩ = some (.int .i64 k) ∧ w.cell? ⟨b, 1, none⟩ = some (.int .i64 x.c) ∧ w.cell? ⟨b, 2, none⟩ = some (.int .i64 x.s) ∧ w.cell? ⟨b, 3, none⟩ = some (.int .i64 x.o) :=
  ⟨cell_of_block h 0, cell_of_block h 1, cell_of_block h 2, cell_of_block h 3⟩

set_option maxRecDepth 100000 in
set_option maxHeartbeats 400000 in
theorem refDo_arg1 (q : Value) (x : Ob) (k : Int) (w : World) (hk : k < 1 ∨ 4 < k) :
    Calls Try.prog 39 #[q, .agg #[.int .i64 k, .int .i64 x.c, .int .i64 x.s, .int .i64 x.o]] w fun e w' => e = .returned (.int .i64 2) ∧ Fr0 w w' := by
  rcases hk with hk | hk
  · go_enter Try.func39, Try.ntmps39
    go_wp2
    go_ret
    exact ⟨rfl, fr0_alloc2 _ _ _⟩
  · have hk2 : ¬ k < 1 := by omega
    go_enter Try.func39, Try.ntmps39
    go_wp2
    go_ret
    exact ⟨rfl, fr0_alloc2 _ _ _⟩

set_option maxRecDepth 100000 in
set_option maxHeartbeats 400000 in
theorem refDo_two (q : Value) (x : Ob) (w : World) :
    Calls Try.prog 39 #[q, .agg #[.int .i64 2, .int .i64 x.c, .int .i64 x.s, .int .i64 x.o]] w fun e w' => e = .returned (.int .i64 (if x = zob then 0 else 2)) ∧ Fr0 w w' := by
  have hg := guard30
  have hne := fun W => neq30 x zob W
  by_cases hz : x = zob
  · rw [if_pos hz]
    rw [decide_eq_true hz] at hne
    simp only [Ob.val, zob] at hne
    clear hz
    go_enter Try.func39, Try.ntmps39
    go_wp2
    go_ret
    exact ⟨rfl, fr0_alloc2 _ _ _⟩
  · rw [if_neg hz]
    rw [decide_eq_false hz] at hne
    simp only [Ob.val, zob] at hne
    clear hz
    go_enter Try.func39, Try.ntmps39
    go_wp2
    go_ret
    exact ⟨rfl, fr0_alloc2 _ _ _⟩

set_option maxRecDepth 100000 in
set_option maxHeartbeats 800000 in
theorem refDo_give_no (p B : Nat) (L : List Ob) (hL : L.length < 4398046511104) (x : Ob) (w : World) (_hB : B ≤ w.heap.size) (h : RefIs w p B L) (hm : x ∈ L) :
    Calls Try.prog 39 #[.pointer (some ⟨p, 0, none⟩), .agg #[.int .i64 1, .int .i64 x.c, .int .i64 x.s, .int .i64 x.o]] w fun e w' => e = .returned (.int .i64 270) ∧ Fr (· = p) w w' ∧ RefIs w' p B L := by
  have HH := hid h
  have hHas : ∀ W, Fr0 w W → Calls Try.prog 41 #[.pointer (some ⟨p, 0, none⟩), .agg #[.int .i64 x.c, .int .i64 x.s, .int .i64 x.o]] W fun e w' => e = .returned (.bool true) ∧ Fr0 W w' := fun W hW => by
    have := refHas_any p B L (Nat.le_of_lt hL) x W (h.fr0 hW)
    rwa [decide_eq_true hm] at this
  have HD := hid hHas
  clear hHas hm h
  go_enter Try.func39, Try.ntmps39
  go_wp2
  generalize hW : ((w.alloc _).alloc _) = W
  have hfr : Fr0 w W := hW ▸ fr0_alloc2 _ _ _
  have hb1 : DeedAt W w.heap.size 1 x := by rw [← hW]; exact ((Fr.refl _ _).alloc _ : Fr0 _ _).at (alloc_block w _) (fun h => h)
  clear hW
  have e0 : ∀ q : Ext W, q.out.cell? ⟨w.heap.size, 0, none⟩ = some (.int .i64 1) := fun q => q.cell hb1.cells.1
  have e1 : ∀ q : Ext W, q.out.cell? ⟨w.heap.size, 1, none⟩ = some (.int .i64 x.c) := fun q => q.cell hb1.cells.2.1
  have e2 : ∀ q : Ext W, q.out.cell? ⟨w.heap.size, 2, none⟩ = some (.int .i64 x.s) := fun q => q.cell hb1.cells.2.2.1
  have e3 : ∀ q : Ext W, q.out.cell? ⟨w.heap.size, 3, none⟩ = some (.int .i64 x.o) := fun q => q.cell hb1.cells.2.2.2
  have HF := hid hfr
  clear hfr
  refine wp_region_ext (by kernel_rfl) (by kernel_rfl) ?_
  repeat (refine wpQuiet_step (fun K hK => ?_); go_simp; first | (refine hK _ ?_; clear hK K) | (apply Exists.intro; refine ⟨fun _ => ?_, hK _ ?_⟩; (go_at_call 41; refine calls_ext (HD.out _ (HF.out.trans0 (Ext.fr _)))); clear hK K))
  refine wpQuiet_nil ?_
  intro _ hw'
  obtain ⟨q, hw''⟩ := hw'
  subst hw''
  have hW1 := q.fr
  generalize q.out = W1 at hW1 ⊢
  clear q
  have HF1 := hid (HF.out.trans0 hW1)
  have hb2 := hid (hW1.at hb1 (fun h => h) : DeedAt W1 w.heap.size 1 x)
  obtain ⟨d0, d1, d2, d3⟩ := DeedAt.cells hb2.out
  clear e0 e1 e2 e3 hW1 hb1 HF HD
  go_wp2
  go_ret
  exact ⟨rfl, HF1.out.mono (fun _ _ h => h.elim), HH.out.fr0 HF1.out⟩

set_option maxRecDepth 100000 in
set_option maxHeartbeats 800000 in
theorem refDo_give (p B : Nat) (L : List Ob) (hL : L.length < 4398046511104) (x : Ob) (hx : x.wf) (w : World) (hB : B ≤ w.heap.size) (h : RefIs w p B L) (hm : x ∉ L) :
    Calls Try.prog 39 #[.pointer (some ⟨p, 0, none⟩), .agg #[.int .i64 1, .int .i64 x.c, .int .i64 x.s, .int .i64 x.o]] w fun e w' => e = .returned (.int .i64 0) ∧ Fr (· = p) w w' ∧ RefIs w' p B (putL L x) := by
  have HH := hid h
  have hHas : ∀ W, Fr0 w W → Calls Try.prog 41 #[.pointer (some ⟨p, 0, none⟩), .agg #[.int .i64 x.c, .int .i64 x.s, .int .i64 x.o]] W fun e w' => e = .returned (.bool false) ∧ Fr0 W w' := fun W hW => by
    have := refHas_any p B L (Nat.le_of_lt hL) x W (h.fr0 hW)
    rwa [decide_eq_false hm] at this
  have HD := hid hHas
  clear hHas hm h
  go_enter Try.func39, Try.ntmps39
  go_wp2
  generalize hW : ((w.alloc _).alloc _) = W
  have hfr : Fr0 w W := hW ▸ fr0_alloc2 _ _ _
  have hb1 : DeedAt W w.heap.size 1 x := by rw [← hW]; exact ((Fr.refl _ _).alloc _ : Fr0 _ _).at (alloc_block w _) (fun h => h)
  clear hW
  have e0 : ∀ q : Ext W, q.out.cell? ⟨w.heap.size, 0, none⟩ = some (.int .i64 1) := fun q => q.cell hb1.cells.1
  have e1 : ∀ q : Ext W, q.out.cell? ⟨w.heap.size, 1, none⟩ = some (.int .i64 x.c) := fun q => q.cell hb1.cells.2.1
  have e2 : ∀ q : Ext W, q.out.cell? ⟨w.heap.size, 2, none⟩ = some (.int .i64 x.s) := fun q => q.cell hb1.cells.2.2.1
  have e3 : ∀ q : Ext W, q.out.cell? ⟨w.heap.size, 3, none⟩ = some (.int .i64 x.o) := fun q => q.cell hb1.cells.2.2.2
  have HF := hid hfr
  clear hfr
  refine wp_region_ext (by kernel_rfl) (by kernel_rfl) ?_
  repeat (refine wpQuiet_step (fun K hK => ?_); go_simp; first | (refine hK _ ?_; clear hK K) | (apply Exists.intro; refine ⟨fun _ => ?_, hK _ ?_⟩; (go_at_call 41; refine calls_ext (HD.out _ (HF.out.trans0 (Ext.fr _)))); clear hK K))
  refine wpQuiet_nil ?_
  intro _ hw'
  obtain ⟨q, hw''⟩ := hw'
  subst hw''
  have hW1 := q.fr
  generalize q.out = W1 at hW1 ⊢
  clear q
  have HF1 := hid (HF.out.trans0 hW1)
  have hb2 := hid (hW1.at hb1 (fun h => h) : DeedAt W1 w.heap.size 1 x)
  obtain ⟨d0, d1, d2, d3⟩ := DeedAt.cells hb2.out
  clear e0 e1 e2 e3 hW1 hb1 HF HD
  have hB1 := Nat.le_trans hB HF1.out.size
  have hC := put_any p B L hL x hx W1 hB1 (HH.out.fr0 HF1.out)
  go_wp2_with (go_at_call 67; refine hC.mono ?_; rintro e w2 ⟨rfl, hf2, hr2⟩; have hb3 := hf2.at hb2.out (fun e => by obtain ⟨v, hv, _⟩ := HH.out; have := lt_of_block hv; omega); have q0 : w2.cell? ⟨w.heap.size, 0, none⟩ = _ := cell_of_block hb3 0; clear d0 d1 d2 d3; have HR := hid (show Fr (· = p) w w2 ∧ RefIs w2 p B (putL L x) from ⟨(HF1.out.mono (fun _ _ h => h.elim)).trans hf2 (fun _ _ h => h), hr2⟩); clear hf2 hr2 hb3)
  go_ret
  exact ⟨rfl, HR.out⟩

set_option maxRecDepth 100000 in
set_option maxHeartbeats 800000 in
theorem refDo_take_no (p B : Nat) (L : List Ob) (hL : L.length < 4398046511104) (x : Ob) (w : World) (_hB : B ≤ w.heap.size) (h : RefIs w p B L) (hm : x ∉ L) :
    Calls Try.prog 39 #[.pointer (some ⟨p, 0, none⟩), .agg #[.int .i64 3, .int .i64 x.c, .int .i64 x.s, .int .i64 x.o]] w fun e w' => e = .returned (.int .i64 270) ∧ Fr (· = p) w w' ∧ RefIs w' p B L := by
  have HH := hid h
  have hHas : ∀ W, Fr0 w W → Calls Try.prog 41 #[.pointer (some ⟨p, 0, none⟩), .agg #[.int .i64 x.c, .int .i64 x.s, .int .i64 x.o]] W fun e w' => e = .returned (.bool false) ∧ Fr0 W w' := fun W hW => by
    have := refHas_any p B L (Nat.le_of_lt hL) x W (h.fr0 hW)
    rwa [decide_eq_false hm] at this
  have HD := hid hHas
  clear hHas hm h
  go_enter Try.func39, Try.ntmps39
  go_wp2
  generalize hW : ((w.alloc _).alloc _) = W
  have hfr : Fr0 w W := hW ▸ fr0_alloc2 _ _ _
  have hb1 : DeedAt W w.heap.size 3 x := by rw [← hW]; exact ((Fr.refl _ _).alloc _ : Fr0 _ _).at (alloc_block w _) (fun h => h)
  clear hW
  have e0 : ∀ q : Ext W, q.out.cell? ⟨w.heap.size, 0, none⟩ = some (.int .i64 3) := fun q => q.cell hb1.cells.1
  have e1 : ∀ q : Ext W, q.out.cell? ⟨w.heap.size, 1, none⟩ = some (.int .i64 x.c) := fun q => q.cell hb1.cells.2.1
  have e2 : ∀ q : Ext W, q.out.cell? ⟨w.heap.size, 2, none⟩ = some (.int .i64 x.s) := fun q => q.cell hb1.cells.2.2.1
  have e3 : ∀ q : Ext W, q.out.cell? ⟨w.heap.size, 3, none⟩ = some (.int .i64 x.o) := fun q => q.cell hb1.cells.2.2.2
  have HF := hid hfr
  clear hfr
  refine wp_region_ext (by kernel_rfl) (by kernel_rfl) ?_
  repeat (refine wpQuiet_step (fun K hK => ?_); go_simp; first | (refine hK _ ?_; clear hK K) | (apply Exists.intro; refine ⟨fun _ => ?_, hK _ ?_⟩; (go_at_call 41; refine calls_ext (HD.out _ (HF.out.trans0 (Ext.fr _)))); clear hK K))
  refine wpQuiet_nil ?_
  intro _ hw'
  obtain ⟨q, hw''⟩ := hw'
  subst hw''
  have hW1 := q.fr
  generalize q.out = W1 at hW1 ⊢
  clear q
  have HF1 := hid (HF.out.trans0 hW1)
  have hb2 := hid (hW1.at hb1 (fun h => h) : DeedAt W1 w.heap.size 3 x)
  obtain ⟨d0, d1, d2, d3⟩ := DeedAt.cells hb2.out
  clear e0 e1 e2 e3 hW1 hb1 HF HD
  go_wp2
  go_ret
  exact ⟨rfl, HF1.out.mono (fun _ _ h => h.elim), HH.out.fr0 HF1.out⟩

set_option maxRecDepth 100000 in
set_option maxHeartbeats 800000 in
theorem refDo_take (p B : Nat) (L : List Ob) (hL : L.length < 4398046511104) (x : Ob) (w : World) (hB : B ≤ w.heap.size) (h : RefIs w p B L) (hm : x ∈ L) :
    Calls Try.prog 39 #[.pointer (some ⟨p, 0, none⟩), .agg #[.int .i64 3, .int .i64 x.c, .int .i64 x.s, .int .i64 x.o]] w fun e w' => e = .returned (.int .i64 0) ∧ Fr (· = p) w w' ∧ RefIs w' p B (dropL L x) := by
  have HH := hid h
  have hHas : ∀ W, Fr0 w W → Calls Try.prog 41 #[.pointer (some ⟨p, 0, none⟩), .agg #[.int .i64 x.c, .int .i64 x.s, .int .i64 x.o]] W fun e w' => e = .returned (.bool true) ∧ Fr0 W w' := fun W hW => by
    have := refHas_any p B L (Nat.le_of_lt hL) x W (h.fr0 hW)
    rwa [decide_eq_true hm] at this
  have HD := hid hHas
  clear hHas hm h
  go_enter Try.func39, Try.ntmps39
  go_wp2
  generalize hW : ((w.alloc _).alloc _) = W
  have hfr : Fr0 w W := hW ▸ fr0_alloc2 _ _ _
  have hb1 : DeedAt W w.heap.size 3 x := by rw [← hW]; exact ((Fr.refl _ _).alloc _ : Fr0 _ _).at (alloc_block w _) (fun h => h)
  clear hW
  have e0 : ∀ q : Ext W, q.out.cell? ⟨w.heap.size, 0, none⟩ = some (.int .i64 3) := fun q => q.cell hb1.cells.1
  have e1 : ∀ q : Ext W, q.out.cell? ⟨w.heap.size, 1, none⟩ = some (.int .i64 x.c) := fun q => q.cell hb1.cells.2.1
  have e2 : ∀ q : Ext W, q.out.cell? ⟨w.heap.size, 2, none⟩ = some (.int .i64 x.s) := fun q => q.cell hb1.cells.2.2.1
  have e3 : ∀ q : Ext W, q.out.cell? ⟨w.heap.size, 3, none⟩ = some (.int .i64 x.o) := fun q => q.cell hb1.cells.2.2.2
  have HF := hid hfr
  clear hfr
  refine wp_region_ext (by kernel_rfl) (by kernel_rfl) ?_
  repeat (refine wpQuiet_step (fun K hK => ?_); go_simp; first | (refine hK _ ?_; clear hK K) | (apply Exists.intro; refine ⟨fun _ => ?_, hK _ ?_⟩; (go_at_call 41; refine calls_ext (HD.out _ (HF.out.trans0 (Ext.fr _)))); clear hK K))
  refine wpQuiet_nil ?_
  intro _ hw'
  obtain ⟨q, hw''⟩ := hw'
  subst hw''
  have hW1 := q.fr
  generalize q.out = W1 at hW1 ⊢
  clear q
  have HF1 := hid (HF.out.trans0 hW1)
  have hb2 := hid (hW1.at hb1 (fun h => h) : DeedAt W1 w.heap.size 3 x)
  obtain ⟨d0, d1, d2, d3⟩ := DeedAt.cells hb2.out
  clear e0 e1 e2 e3 hW1 hb1 HF HD
  have hB1 := Nat.le_trans hB HF1.out.size
  have hC := drop_any p B L hL x W1 hB1 (HH.out.fr0 HF1.out)
  go_wp2_with (go_at_call 68; refine hC.mono ?_; rintro e w2 ⟨rfl, hf2, hr2⟩; have HR := hid (show Fr (· = p) w w2 ∧ RefIs w2 p B (dropL L x) from ⟨(HF1.out.mono (fun _ _ h => h.elim)).trans hf2 (fun _ _ h => h), hr2⟩); clear hf2 hr2)
  go_ret
  exact ⟨rfl, HR.out⟩

set_option maxRecDepth 100000 in
set_option maxHeartbeats 800000 in
theorem refDo_bad_no (p B : Nat) (L : List Ob) (hL : L.length < 4398046511104) (x : Ob) (w : World) (_hB : B ≤ w.heap.size) (h : RefIs w p B L) (hm : x ∈ L) :
    Calls Try.prog 39 #[.pointer (some ⟨p, 0, none⟩), .agg #[.int .i64 4, .int .i64 x.c, .int .i64 x.s, .int .i64 x.o]] w fun e w' => e = .returned (.int .i64 270) ∧ Fr (· = p) w w' ∧ RefIs w' p B L := by
  have HH := hid h
  have hHas : ∀ W, Fr0 w W → Calls Try.prog 41 #[.pointer (some ⟨p, 0, none⟩), .agg #[.int .i64 x.c, .int .i64 x.s, .int .i64 x.o]] W fun e w' => e = .returned (.bool true) ∧ Fr0 W w' := fun W hW => by
    have := refHas_any p B L (Nat.le_of_lt hL) x W (h.fr0 hW)
    rwa [decide_eq_true hm] at this
  have HD := hid hHas
  clear hHas hm h
  go_enter Try.func39, Try.ntmps39
  go_wp2
  generalize hW : ((w.alloc _).alloc _) = W
  have hfr : Fr0 w W := hW ▸ fr0_alloc2 _ _ _
  have hb1 : DeedAt W w.heap.size 4 x := by rw [← hW]; exact ((Fr.refl _ _).alloc _ : Fr0 _ _).at (alloc_block w _) (fun h => h)
  clear hW
  have e0 : ∀ q : Ext W, q.out.cell? ⟨w.heap.size, 0, none⟩ = some (.int .i64 4) := fun q => q.cell hb1.cells.1
  have e1 : ∀ q : Ext W, q.out.cell? ⟨w.heap.size, 1, none⟩ = some (.int .i64 x.c) := fun q => q.cell hb1.cells.2.1
  have e2 : ∀ q : Ext W, q.out.cell? ⟨w.heap.size, 2, none⟩ = some (.int .i64 x.s) := fun q => q.cell hb1.cells.2.2.1
  have e3 : ∀ q : Ext W, q.out.cell? ⟨w.heap.size, 3, none⟩ = some (.int .i64 x.o) := fun q => q.cell hb1.cells.2.2.2
  have HF := hid hfr
  clear hfr
  refine wp_region_ext (by kernel_rfl) (by kernel_rfl) ?_
  repeat (refine wpQuiet_step (fun K hK => ?_); go_simp; first | (refine hK _ ?_; clear hK K) | (apply Exists.intro; refine ⟨fun _ => ?_, hK _ ?_⟩; (go_at_call 41; refine calls_ext (HD.out _ (HF.out.trans0 (Ext.fr _)))); clear hK K))
  refine wpQuiet_nil ?_
  intro _ hw'
  obtain ⟨q, hw''⟩ := hw'
  subst hw''
  have hW1 := q.fr
  generalize q.out = W1 at hW1 ⊢
  clear q
  have HF1 := hid (HF.out.trans0 hW1)
  have hb2 := hid (hW1.at hb1 (fun h => h) : DeedAt W1 w.heap.size 4 x)
  obtain ⟨d0, d1, d2, d3⟩ := DeedAt.cells hb2.out
  clear e0 e1 e2 e3 hW1 hb1 HF HD
  go_wp2
  go_ret
  exact ⟨rfl, HF1.out.mono (fun _ _ h => h.elim), HH.out.fr0 HF1.out⟩

set_option maxRecDepth 100000 in
set_option maxHeartbeats 800000 in
theorem refDo_bad (p B : Nat) (L : List Ob) (hL : L.length < 4398046511104) (x : Ob) (w : World) (_hB : B ≤ w.heap.size) (h : RefIs w p B L) (hm : x ∉ L) :
    Calls Try.prog 39 #[.pointer (some ⟨p, 0, none⟩), .agg #[.int .i64 4, .int .i64 x.c, .int .i64 x.s, .int .i64 x.o]] w fun e w' => e = .returned (.int .i64 0) ∧ Fr (· = p) w w' ∧ RefIs w' p B L := by
  have HH := hid h
  have hHas : ∀ W, Fr0 w W → Calls Try.prog 41 #[.pointer (some ⟨p, 0, none⟩), .agg #[.int .i64 x.c, .int .i64 x.s, .int .i64 x.o]] W fun e w' => e = .returned (.bool false) ∧ Fr0 W w' := fun W hW => by
    have := refHas_any p B L (Nat.le_of_lt hL) x W (h.fr0 hW)
    rwa [decide_eq_false hm] at this
  have HD := hid hHas
  clear hHas hm h
  go_enter Try.func39, Try.ntmps39
  go_wp2
  generalize hW : ((w.alloc _).alloc _) = W
  have hfr : Fr0 w W := hW ▸ fr0_alloc2 _ _ _
  have hb1 : DeedAt W w.heap.size 4 x := by rw [← hW]; exact ((Fr.refl _ _).alloc _ : Fr0 _ _).at (alloc_block w _) (fun h => h)
  clear hW
  have e0 : ∀ q : Ext W, q.out.cell? ⟨w.heap.size, 0, none⟩ = some (.int .i64 4) := fun q => q.cell hb1.cells.1
  have e1 : ∀ q : Ext W, q.out.cell? ⟨w.heap.size, 1, none⟩ = some (.int .i64 x.c) := fun q => q.cell hb1.cells.2.1
  have e2 : ∀ q : Ext W, q.out.cell? ⟨w.heap.size, 2, none⟩ = some (.int .i64 x.s) := fun q => q.cell hb1.cells.2.2.1
  have e3 : ∀ q : Ext W, q.out.cell? ⟨w.heap.size, 3, none⟩ = some (.int .i64 x.o) := fun q => q.cell hb1.cells.2.2.2
  have HF := hid hfr
  clear hfr
  refine wp_region_ext (by kernel_rfl) (by kernel_rfl) ?_
  repeat (refine wpQuiet_step (fun K hK => ?_); go_simp; first | (refine hK _ ?_; clear hK K) | (apply Exists.intro; refine ⟨fun _ => ?_, hK _ ?_⟩; (go_at_call 41; refine calls_ext (HD.out _ (HF.out.trans0 (Ext.fr _)))); clear hK K))
  refine wpQuiet_nil ?_
  intro _ hw'
  obtain ⟨q, hw''⟩ := hw'
  subst hw''
  have hW1 := q.fr
  generalize q.out = W1 at hW1 ⊢
  clear q
  have HF1 := hid (HF.out.trans0 hW1)
  have hb2 := hid (hW1.at hb1 (fun h => h) : DeedAt W1 w.heap.size 4 x)
  obtain ⟨d0, d1, d2, d3⟩ := DeedAt.cells hb2.out
  clear e0 e1 e2 e3 hW1 hb1 HF HD
  go_wp2
  go_ret
  exact ⟨rfl, HF1.out.mono (fun _ _ h => h.elim), HH.out.fr0 HF1.out⟩

end Go.Proofs.Ytjaabbjobnfmmaa

namespace Go.Proofs.Ytjaabbjobnfmmaa
open Go.RowKit

theorem refDo_any (p B : Nat) (L : List Ob) (hL : L.length < 4398046511104) (x : Ob) (hx : x.wf) (k : Int) (w : World) (hB : B ≤ w.heap.size) (h : RefIs w p B L) :
    Calls Try.prog 39 #[.pointer (some ⟨p, 0, none⟩), .agg #[.int .i64 k, .int .i64 x.c, .int .i64 x.s, .int .i64 x.o]] w fun e w' =>
      e = .returned (.int .i64 (rdo L k x).1) ∧ Fr (· = p) w w' ∧ RefIs w' p B (rdo L k x).2 := by
  by_cases h1 : k < 1 ∨ 4 < k
  · have e1 : rdo L k x = (2, L) := by unfold rdo; rw [if_pos (by rcases h1 with h1 | h1 <;> simp [h1])]
    rw [e1]
    exact (refDo_arg1 _ x k w h1).mono fun e w' ⟨he, hf⟩ => ⟨he, hf.mono (fun _ _ h => h.elim), h.fr0 hf⟩
  · by_cases h2 : k = 2
    · subst h2
      have e1 : rdo L 2 x = (if x = zob then 0 else 2, L) := by unfold rdo; by_cases hz : x = zob <;> simp [hz]
      rw [e1]
      exact (refDo_two _ x w).mono fun e w' ⟨he, hf⟩ => ⟨he, hf.mono (fun _ _ h => h.elim), h.fr0 hf⟩
    · have hk : ¬ (k < 1 ∨ 4 < k ∨ (k = 2 ∧ x ≠ zob)) := by omega
      have e0 : rdo L k x = if decide (x ∈ L) ≠ decide (k = 3) then (270, L) else if k = 1 then (0, putL L x) else if k = 3 then (0, dropL L x) else (0, L) := by
        unfold rdo; rw [if_neg hk, if_neg h2]
      rcases (by omega : k = 1 ∨ k = 3 ∨ k = 4) with rfl | rfl | rfl
      · by_cases hm : x ∈ L
        · rw [show rdo L 1 x = (270, L) by rw [e0]; simp [hm]]
          exact refDo_give_no p B L hL x w hB h hm
        · rw [show rdo L 1 x = (0, putL L x) by rw [e0]; simp [hm]]
          exact refDo_give p B L hL x hx w hB h hm
      · by_cases hm : x ∈ L
        · rw [show rdo L 3 x = (0, dropL L x) by rw [e0]; simp [hm]]
          exact refDo_take p B L hL x w hB h hm
        · rw [show rdo L 3 x = (270, L) by rw [e0]; simp [hm]]
          exact refDo_take_no p B L hL x w hB h hm
      · by_cases hm : x ∈ L
        · rw [show rdo L 4 x = (270, L) by rw [e0]; simp [hm]]
          exact refDo_bad_no p B L hL x w hB h hm
        · rw [show rdo L 4 x = (0, L) by rw [e0]; simp [hm]]
          exact refDo_bad p B L hL x w hB h hm

theorem putL_length (L : List Ob) (x : Ob) : (putL L x).length = L.length + 1 := by
  have := congrArg List.length (List.takeWhile_append_dropWhile (p := (·.lt x)) (l := L))
  simp only [putL, List.length_append, List.length_cons] at *
  omega

theorem rdo_length (L : List Ob) (k : Int) (x : Ob) : (rdo L k x).2.length ≤ L.length + 1 := by
  unfold rdo
  have h1 := putL_length L x
  have h2 := List.length_filter_le (fun y => !decide (y = x)) L
  have h3 : (dropL L x).length ≤ L.length := h2
  split
  · simp
  · split
    · simp
    · split
      · simp
      · split
        · simp; omega
        · split
          · simp; omega
          · simp

/-- What the document's Play answers from deed i on, L being out. -/
def rplay (L : List Ob) : Nat → List Dd → Int × Int
  | _, [] => (0, 0)
  | i, d :: l => if (rdo L d.k d.x).1 ≠ 0 then (i, (rdo L d.k d.x).1) else rplay (rdo L d.k d.x).2 (i + 1) l

theorem rplay_stop (L : List Ob) (l : List Dd) (k : Nat) (hk : k < l.length) (h : (rdo L l[k].k l[k].x).1 ≠ 0) : rplay L k (l.drop k) = ((k : Int), (rdo L l[k].k l[k].x).1) := by
  rw [List.drop_eq_getElem_cons hk, rplay, if_pos h]
theorem rplay_go (L : List Ob) (l : List Dd) (k : Nat) (hk : k < l.length) (h : (rdo L l[k].k l[k].x).1 = 0) : rplay L k (l.drop k) = rplay (rdo L l[k].k l[k].x).2 (k + 1) (l.drop (k + 1)) := by
  rw [List.drop_eq_getElem_cons hk, rplay, if_neg (by simp [h])]

set_option maxHeartbeats 400000 in
theorem refPlay_any (a : Option Addr) (b off cap : Nat) (l : List Dd) (w : World) (h : DeedsIn w a b off l) (hsmall : l.length < 4398046511104) :
    Calls Try.prog 17 #[.slice a l.length cap] w fun e w' => e = .returned (.tuple #[.int .i64 (rplay [] 0 l).1, .int .i64 (rplay [] 0 l).2]) ∧ Fr0 w w' := by
  have HD := hid h
  clear h
  go_enter Try.func17, Try.ntmps17
  go_wp2_with (go_at_call 38; refine (refNew_any _).mono ?_; rintro e w1 ⟨rfl, hf1, hh1⟩)
  have HE := hid (show (rplay [] 0 l) = rplay [] 0 (l.drop 0) by simp)
  go_loopw [5] (fun i wr => ∃ (k : Nat) (L : List Ob), k ≤ l.length ∧ L.length ≤ k ∧ i = .int .i64 k ∧ RefIs wr w.heap.size w.heap.size L ∧ Fr0 w wr ∧ Hid (rplay [] 0 l = rplay L k (l.drop k)))
    (fun i _ => l.length - (intOf i).toNat)
  case atStart => exact ⟨0, [], Nat.zero_le _, Nat.le_refl _, rfl, hh1, hf1, HE⟩
  case round =>
    obtain ⟨k, L, hk, hLk, rfl, hH, hF, hE⟩ := hrel
    by_cases hlt : k < l.length
    · have hdi := HD.out.fr hF (fun h => h)
      have hix := hdi.index cap k hlt
      obtain ⟨c0, c1, c2, c3⟩ := hdi.cells k hlt
      have hDo := refDo_any w.heap.size w.heap.size L (by omega) l[k].x (hdi.wf _ (List.getElem_mem hlt)).2 l[k].k wr hF.size hH
      have hlen := rdo_length L l[k].k l[k].x
      have HF := hid hF
      by_cases hc : (rdo L l[k].k l[k].x).1 = 0
      · rw [hc] at hDo
        have HC := hid hc
        have HL := hid hlen
        clear hdi hF hH hc hlen
        go_wp2_with (go_at_call 39; refine hDo.mono ?_; rintro e w2 ⟨rfl, hf2, hh2⟩)
        go_roundw
        case rel => exact ⟨k + 1, _, by omega, by have := HL.out; omega, by go_num, hh2, HF.out.trans hf2 (by intro i hi e; omega), hid (hE.out.trans (rplay_go L l k hlt HC.out))⟩
        case measure => simp [intOf]; omega
      · have HC := hid (rplay_stop L l k hlt hc)
        have hc' : ((rdo L l[k].k l[k].x).1 != 0) = true := by simpa using hc
        generalize (rdo L l[k].k l[k].x).1 = code at hDo hc' HC
        clear hdi hF hH hc hlen
        go_wp2_with (go_at_call 39; refine hDo.mono ?_; rintro e w2 ⟨rfl, hf2, hh2⟩)
        go_ret2
        refine ⟨by rw [hE.out, HC.out]; rfl, HF.out.trans hf2 (by intro i hi e; omega)⟩
    · have hk : k = l.length := by omega
      subst hk
      have HF := hid hF
      clear hF hH
      go_wp2
      go_ret2
      exact ⟨by rw [hE.out]; simp [rplay], HF.out⟩
end Go.Proofs.Ytjaabbjobnfmmaa

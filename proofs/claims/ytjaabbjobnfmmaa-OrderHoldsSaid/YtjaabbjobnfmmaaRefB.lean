/-
  The document's heap: what put does, told by the list of the objects that are out.
-/
import Derived.Test.YtjaabbjobnfmmaaRefA
import Derived.Maps.AppendAt
namespace Go.Proofs.Ytjaabbjobnfmmaa
open Go.RowKit

theorem info30 : (Try.prog.info? 30).map (fun i => (i.zero, i.size, i.bytes)) = some (some (.agg #[.int .i64 0, .int .i64 0, .int .i64 0]), 3, 24) := by kernel_rfl

/-- Where an object goes among others. -/
def putL (L : List Ob) (x : Ob) : List Ob := L.takeWhile (·.lt x) ++ x :: L.dropWhile (·.lt x)

theorem take_snoc' {α : Type} (L : List α) (k : Nat) (hk : k < L.length) : L.take (k + 1) = L.take k ++ [L[k]] := by
  rw [List.take_succ_eq_append_getElem hk]

theorem putL_at (L : List Ob) (x : Ob) (k : Nat) (hk : k ≤ L.length) (h1 : ∀ j (hj : j < L.length), j < k → L[j].lt x = true) (h2 : ∀ hk : k < L.length, L[k].lt x = false) : putL L x = (L.take k ++ [x]) ++ L.drop k := by
  have e : L.takeWhile (·.lt x) = L.take k ∧ L.dropWhile (·.lt x) = L.drop k := by
    induction L generalizing k with
    | nil => simp
    | cons y L ih =>
      cases k with
      | zero =>
        have := h2 (by simp)
        simp at this
        simp [this]
      | succ k =>
        have h0 := h1 0 (by simp) (by omega)
        simp at h0
        have := ih k (by simpa using hk) (fun j hj hjk => by have := h1 (j + 1) (by simpa using hj) (by omega); simpa using this) (fun hk => by have := h2 (by simpa using hk); simpa using this)
        simp [h0, this]
  rw [putL, e.1, e.2]
  simp

/-- The append's law at this program's objects: one object behind those that are there. -/
theorem own_snoc {w : World} {B : Nat} {v : Value} {L : List Ob} {x : Ob} (h : w.ownsRow B 30 3 v (L.length + 1) (flat Ob.enc L ++ x.enc)) : OwnL w B v (L ++ [x]) := by
  unfold OwnL
  rw [flat_snoc]
  simpa using h

theorem cells_new3 (w : World) (a b c : Value) (t : TypeId) : ∀ j u, [a, b, c][j]? = some u → (w.alloc (.cells #[a, b, c] t)).cell? ((⟨w.heap.size, 0, none⟩ : Addr).add j) = some u := by
  intro j u hu
  rw [Addr.add_lit]
  simp only [Nat.zero_add, World.cell?_alloc_new]
  simpa using hu

/-- What the document's heap behind p holds, as the walk reads it: kept while no elder block changes. -/
structure RefRead (w : World) (p : Nat) (a : Option Addr) (g cap : Nat) (L : List Ob) : Prop where
  ptr : w.heap[p]? = some (.cells #[.slice a L.length cap] 96 (0, 0))
  cells : ∀ j, j < L.length * 3 → w.cell? ⟨g, j, none⟩ = (flat Ob.enc L)[j]?
  lt : 0 < L.length → g < w.heap.size
  addr : 0 < L.length → a = some ⟨g, 0, none⟩
  fits : L.length ≤ cap
  nil : a = none → L.length = 0 ∧ cap = 0

section
variable {w w' : World} {p g cap : Nat} {a : Option Addr} {L : List Ob}
theorem RefRead.fr0 (h : RefRead w p a g cap L) (hf : Fr0 w w') : RefRead w' p a g cap L :=
  ⟨hf.at h.ptr (fun h => h), fun j hj => (hf.cell (p := ⟨g, j, none⟩) (h.lt (by omega)) (fun h => h)).trans (h.cells j hj), fun hl => hf.lt (h.lt hl), h.addr, h.fits, h.nil⟩
theorem RefRead.head (h : RefRead w p a g cap L) : w.cell? ⟨p, 0, none⟩ = some (.slice a L.length cap) := by
  simpa using cell_of_block h.ptr 0
theorem RefRead.index (h : RefRead w p a g cap L) (k : Nat) (hk : k < L.length) (W : World) : (Instr.indexAt 37 (.slice a L.length cap) (.int .i64 k)).run Try.prog W = .ok (.pointer (some ⟨g, k * 3, none⟩)) W :=
  index_of0 Try.underlying37 W (size30' W) h.addr cap k hk
theorem RefRead.elem (h : RefRead w p a g cap L) (k : Nat) (hk : k < L.length) :
    w.cell? ⟨g, k * 3, none⟩ = some (.int .i64 L[k].c) ∧ w.cell? ⟨g, k * 3 + 1, none⟩ = some (.int .i64 L[k].s) ∧ w.cell? ⟨g, k * 3 + 2, none⟩ = some (.int .i64 L[k].o) := by
  have e := flat_get enc3 L k hk
  exact ⟨(h.cells _ (by omega)).trans (e 0 (by omega)), (h.cells _ (by omega)).trans (e 1 (by omega)), (h.cells _ (by omega)).trans (e 2 (by omega))⟩
end

theorem RefIs.read {w : World} {p B : Nat} {L : List Ob} (h : RefIs w p B L) : ∃ a g cap, RefRead w p a g cap L := by
  obtain ⟨v, hp, hown, hwf, hB⟩ := h
  obtain ⟨a, g, cap, rfl, ha, hcap, hcm, _, hgl, hcs, hnone⟩ := own_form hown
  exact ⟨a, g, cap, hp, hcs, fun h => (hgl h).2.2, ha, hcap, hnone⟩

/-- An object in a box of its own, and the box's cells. -/
def BoxAt (w : World) (b : Nat) (x : Ob) : Prop := w.heap[b]? = some (.cells #[.int .i64 x.c, .int .i64 x.s, .int .i64 x.o] 30 (0, 0))
theorem BoxAt.cells {w : World} {b : Nat} {x : Ob} (h : BoxAt w b x) : w.cell? ⟨b, 0, none⟩ = some (.int .i64 x.c) ∧ w.cell? ⟨b, 1, none⟩ = some (.int .i64 x.s) ∧ w.cell? ⟨b, 2, none⟩ = some (.int .i64 x.o) :=
  ⟨cell_of_block h 0, cell_of_block h 1, cell_of_block h 2⟩

/-- How the loop of put stands: k objects have been carried over. -/
structure PutRel (w wr : World) (p : Nat) (a : Option Addr) (g cap : Nat) (L : List Ob) (x : Ob) (v : Value) (k : Nat) : Prop where
  le : k ≤ L.length
  own : OwnL wr (w.heap.size + 1) v (L.take k)
  plt : p < w.heap.size
  glt : 0 < L.length → g < w.heap.size
  fr : Fr0 w wr
  box : BoxAt wr w.heap.size x
  read : RefRead wr p a g cap L
  less : ∀ j (hj : j < L.length), j < k → L[j].lt x = true

section
variable {w wr w' : World} {p g cap : Nat} {a : Option Addr} {L : List Ob} {x : Ob} {v : Value} {k : Nat}
theorem PutRel.fr0 (h : PutRel w wr p a g cap L x v k) (hf : Fr0 wr w') : PutRel w w' p a g cap L x v k :=
  ⟨h.le, own_fr0 h.own hf, h.plt, h.glt, h.fr.trans0 hf, hf.at h.box (fun h => h), h.read.fr0 hf, h.less⟩
theorem PutRel.grown (h : PutRel w wr p a g cap L x v k) {w' : World} {o : Obj} (hg : (wr.alloc o).grownBy w' v.ownBlock) : Fr0 w w' ∧ BoxAt w' w.heap.size x ∧ RefRead w' p a g cap L := by
  have hb : ∀ i, some i = v.ownBlock → w.heap.size < i := fun i e => (h.own.lt i e.symm).1
  have hf : Fr (fun i => some i = v.ownBlock) wr w' := (fr0_alloc wr o |>.mono (fun _ _ h => h.elim)).grown hg (fun _ _ h => h)
  refine ⟨h.fr.trans hf (fun i hi e => by have := hb i e; omega), hf.at h.box (fun e => by have := hb _ e; omega), hf.at h.read.ptr (fun e => by have := hb _ e; have := h.plt; omega), fun j hj => ?_, fun hl => hf.lt (h.read.lt hl), h.read.addr, h.read.fits, h.read.nil⟩
  exact (hf.cell (p := ⟨g, j, none⟩) (h.read.lt (by omega)) (fun e => by have := hb g e; have := h.glt (by omega); omega)).trans (h.read.cells j hj)
theorem PutRel.snoc (h : PutRel w wr p a g cap L x v k) (hk : k < L.length) (hb : L[k].lt x = true) {v' : Value} {w' : World} {o : Obj}
    (hown : w'.ownsRow (w.heap.size + 1) 30 3 v' (k + 1) (flat Ob.enc (L.take k) ++ L[k].enc)) (hg : (wr.alloc o).grownBy w' v.ownBlock) : PutRel w w' p a g cap L x v' (k + 1) := by
  obtain ⟨h1, h2, h3⟩ := h.grown hg
  have hl : (L.take k).length = k := by simp; omega
  refine ⟨by omega, by rw [take_snoc' L k hk]; exact own_snoc (by rw [hl]; exact hown), h.plt, h.glt, h1, h2, h3, fun j hj hjk => ?_⟩
  by_cases e : j = k
  · subst e; exact hb
  · exact h.less j hj (by omega)
end

set_option maxRecDepth 100000 in
set_option maxHeartbeats 800000 in
theorem put_any (p B : Nat) (L : List Ob) (hL : L.length < 4398046511104) (x : Ob) (hx : x.wf) (w : World) (hBw : B ≤ w.heap.size) (h : RefIs w p B L) :
    Calls Try.prog 67 #[.pointer (some ⟨p, 0, none⟩), .agg #[.int .i64 x.c, .int .i64 x.s, .int .i64 x.o]] w fun e w' => e = .returned (.tuple #[]) ∧ Fr (· = p) w w' ∧ RefIs w' p B (putL L x) := by
  obtain ⟨i0, hi, hz0, hz1, hz2⟩ := info_parts info30
  obtain ⟨a, g, cap, hr⟩ := h.read
  have HP := hid h
  have HZ := hid (show Try.prog.info? 30 = some i0 ∧ i0.zero = some (.agg #[.int .i64 0, .int .i64 0, .int .i64 0]) ∧ i0.size = 3 ∧ i0.bytes = 24 from ⟨hi, hz0, hz1, hz2⟩)
  have HR := hid hr
  clear h hz0 hz1 hz2 hi hr
  go_enter Try.func67, Try.ntmps67
  go_wp2
  go_loopw [4, 5] (fun v i wr => ∃ k : Nat, i = .int .i64 k ∧ Hid (PutRel w wr p a g cap L x v k))
    (fun _ i _ => L.length - (intOf i).toNat)
  case atStart => exact ⟨0, rfl, hid ⟨Nat.zero_le _, (World.ownsRow_nil _ _ _ _ : OwnL _ _ _ []), lt_of_block HR.out.ptr, HR.out.lt, fr0_alloc _ _, alloc_block _ _, HR.out.fr0 (fr0_alloc _ _), fun _ _ h => absurd h (Nat.not_lt_zero _)⟩⟩
  case round =>
    obtain ⟨k, rfl, hR⟩ := hrel
    have hk := hR.out.le
    have hpc := hR.out.read.head
    have hFin : ∀ (v1 v2 : Value) (w2 w3 w4 : World) (o : Obj), Hid (PutRel w w2 p a g cap L x v1 k) → (∀ hk : k < L.length, L[k].lt x = false) →
        (w2.alloc o).grownBy w3 v1.ownBlock → ∀ v3 : Value, w3.ownsRow (w.heap.size + 1) 30 3 v3 (k + 1) (flat Ob.enc (L.take k) ++ x.enc) → w4.ownsRow (w.heap.size + 1) 30 3 v2 (k + 1 + (L.length - k)) (flat Ob.enc (L.take k) ++ (x.enc ++ (flat Ob.enc L).drop (k * 3))) →
        w3.grownBy w4 v3.ownBlock → Hid (Fr (· = p) w (w4.setCell ⟨p, 0, none⟩ v2) ∧ RefIs (w4.setCell ⟨p, 0, none⟩ v2) p B (putL L x)) := by
      intro v1 v2 w2 w3 w4 o h hstop hg v3 hown3 hown hg2
      have h := h.out
      obtain ⟨h1, h2, h3⟩ := h.grown hg
      have hb : ∀ i, some i = v3.ownBlock → w.heap.size < i := fun i e => (hown3.lt i e.symm).1
      have hf : Fr0 w w4 := h1.grown hg2 (fun i hi e => by have := hb i e; omega)
      have hp4 : w4.heap[p]? = _ := (Fr.of_grown hg2).at h3.ptr (fun e => by have := hb p e; have := h.plt; omega)
      refine hid ⟨(hf.mono (fun _ _ h => h.elim)).setCell (X := (· = p)) (p := ⟨p, 0, none⟩) (fun _ => rfl) _, v2, ?_, ?_, ?_, ?_⟩
      · have := setCell_block hp4 0 v2
        simpa using this
      · rw [putL_at L x k h.le h.less hstop]
        have e1 : ((L.take k ++ [x]) ++ L.drop k).length = k + 1 + (L.length - k) := by
          have := h.le
          simp; omega
        have e2 : flat Ob.enc ((L.take k ++ [x]) ++ L.drop k) = flat Ob.enc (L.take k) ++ (x.enc ++ (flat Ob.enc L).drop (k * 3)) := by
          rw [flat_append, flat_snoc, flat_drop enc3, List.append_assoc]
        unfold OwnL
        rw [e1, e2]
        have hne := own_ne hown hp4 (by decide)
        have := own_fr hown ((Fr.refl (· = p) w4).setCell (p := ⟨p, 0, none⟩) (fun _ => rfl) v2) (fun i hi e => hne i hi e)
        exact ⟨this.1, by
          rcases this.2 with hn | ⟨g, cap, cur, rfl, hb, rest⟩
          · exact .inl hn
          · exact .inr ⟨g, cap, cur, rfl, by omega, rest⟩⟩
      · intro y hy
        obtain ⟨_, _, _, hwf, _⟩ := HP.out
        rw [putL] at hy
        rcases List.mem_append.1 hy with hy | hy
        · exact hwf y ((List.takeWhile_sublist _).subset hy)
        · rcases List.mem_cons.1 hy with rfl | hy
          · exact hx
          · exact hwf y ((List.dropWhile_sublist _).subset hy)
      · obtain ⟨_, _, _, _, hB⟩ := HP.out
        exact hB
    by_cases hlt : k < L.length
    · have hix := hR.out.read.index k hlt
      obtain ⟨c0, c1, c2⟩ := hR.out.read.elem k hlt
      obtain ⟨b0, b1, b2⟩ := hR.out.box.cells
      have hA := ahead_any L[k] x wr.drew
      generalize hb : L[k].lt x = bb at hA
      have HB := hid hb
      clear hb
      go_wp2
      go_still_tail 16, (by kernel_rfl)
      change wpList _ _ _ _ _ wr.drew
      go_wp2_with fail
      cases bb with
      | true =>
        refine hA.mono ?_
        rintro e w2 ⟨rfl, hf2⟩
        have hR2 := hid (hR.out.fr0 ((Fr.refl _ wr).drew.trans0 hf2))
        clear hR hf2 hA hpc c0 c1 c2 b0 b1 b2
        have hpc := hR2.out.read.head
        obtain ⟨c0, c1, c2⟩ := hR2.out.read.elem k hlt
        have hown := hid hR2.out.own
        go_wp2_with (at_builtin; refine wpList_append_own _ rfl _ _ 37 rfl (w.heap.size + 1) 30 i0 (.agg #[.int .i64 0, .int .i64 0, .int .i64 0]) 3 24 Try.underlying37 HZ.out.1 HZ.out.2.1 HZ.out.2.2.1 HZ.out.2.2.2 rfl (by decide) _ _ _ rfl (hown.out.alloc _) ⟨w2.heap.size, 0, none⟩ 1 1 L[k].enc rfl rfl ?c1 ?c2 ?c3 ?c4 ?c5 ?_)
        case c1 => exact cells_new3 _ _ _ _ _
        case c2 => exact enc3_one _
        case c3 => simp only [maxLen]; simp; omega
        case c4 => simp; omega
        case c5 => have := hR2.out.fr.size; have := lt_of_block hR2.out.box; simp; omega
        intro v' w3 hown' hg _
        have hS := hid (hR2.out.snoc hlt HB.out hown' hg)
        clear hown' hg hown hR2 hpc c0 c1 c2
        go_wp2
        go_roundw
        case rel => exact ⟨k + 1, by go_num, hS⟩
        case measure => simp [intOf]; omega
      | false =>
        refine hA.mono ?_
        rintro e w2 ⟨rfl, hf2⟩
        have hR2 := hid (hR.out.fr0 ((Fr.refl _ wr).drew.trans0 hf2))
        have hstop : Hid (∀ hk : k < L.length, L[k].lt x = false) := hid (fun _ => HB.out)
        clear hR hf2 hA hpc c0 c1 c2 b0 b1 b2 hix HB
        obtain ⟨b0, b1, b2⟩ := hR2.out.box.cells
        have hown := hid hR2.out.own
        have hlen : Hid ((L.take k).length = k) := hid (by simp; omega)
        have hsl := fun W => slice_from (P := Try.prog) (a := a) (n := L.length) (cap := cap) Try.underlying37 W (size30' W) k hk
        have tok : True := trivial
        go_wp2_with (first
          | (at_builtin; have _t := tok; refine wpList_append_own _ rfl (.tmp 36) (.tmp 38) 37 rfl (w.heap.size + 1) 30 i0 (.agg #[.int .i64 0, .int .i64 0, .int .i64 0]) 3 24 Try.underlying37 HZ.out.1 HZ.out.2.1 HZ.out.2.2.1 HZ.out.2.2.2 rfl (by decide) _ _ _ rfl (hown.out.alloc _) ⟨w2.heap.size, 0, none⟩ 1 1 x.enc rfl rfl (cells_new3 _ _ _ _ _) (enc3_one _) (by rw [hlen.out]; simp only [maxLen]; omega) (by rw [hlen.out]; omega) (by have := hR2.out.fr.size; have := lt_of_block hR2.out.box; simp; omega) ?_; rw [hlen.out]; intro v1 w3 hown1 hg1 _; have hT := hid (hR2.out.grown hg1); have hpc3 := hT.out.2.2.head; have hO1 := hid hown1; have hG1 := hid hg1; clear tok hown1 hg1)
          | (at_builtin; refine append_own_any _ rfl (.tmp 41) (.tmp 47) 37 rfl (w.heap.size + 1) 30 i0 (.agg #[.int .i64 0, .int .i64 0, .int .i64 0]) 3 24 Try.underlying37 HZ.out.1 HZ.out.2.1 HZ.out.2.2.1 HZ.out.2.2.2 rfl (by decide) _ _ _ rfl hO1.out (cutA a cap k 3) (L.length - k) (cap - k) ((flat Ob.enc L).drop (k * 3)) rfl (by rw [flat_drop enc3, flat_length enc3]; simp) (fun h => by have := hT.out.2.2.nil (cutA_none h); omega) (cutA_cells (off := 0) hT.out.2.2.addr hT.out.2.2.fits (fun j hj => by rw [Nat.zero_add]; exact hT.out.2.2.cells j hj) (flat_length enc3 L) k hk) (fun u hu => flat_one enc3_one L u (List.drop_subset _ _ hu)) (by simp only [maxLen]; omega) (by omega) (by have := hT.out.1.size; have := lt_of_block hT.out.2.1; omega) ?_; intro v2 w4 hown2 hg2; have hF4 := hid (hFin _ v2 w2 w3 w4 _ hR2 hstop.out hG1.out v1 hO1.out (by simpa using hown2) hg2); have hp4 := (Fr.of_grown hg2).at hT.out.2.2.ptr (fun e => by have := (hO1.out.lt p e.symm).1; have := hR2.out.plt; omega); have hpc4 : w4.cell? ⟨p, 0, none⟩ = _ := cell_of_block hp4 0; have hfz4 : w4.frozen? ⟨p, 0, none⟩ = _ := free_of_block hp4 0; obtain ⟨a2, g2, cap2, hv2, _⟩ := own_form hown2; clear hown2 hg2 hp4; subst hv2))
        go_end0
        exact ⟨rfl, hF4.out.out⟩
    · obtain ⟨b0, b1, b2⟩ := hR.out.box.cells
      have hstop : Hid (∀ hk : k < L.length, L[k].lt x = false) := hid (fun h => absurd h hlt)
      go_wp2
      go_region
      generalize hw2 : wr.drew = w2
      have hR2 : Hid (PutRel w w2 p a g cap L x u4 k) := hid (by rw [← hw2]; exact hR.out.fr0 (Fr.refl _ wr).drew)
      clear hR hpc b0 b1 b2 hw2
      obtain ⟨b0, b1, b2⟩ := hR2.out.box.cells
      have hown := hid hR2.out.own
      have hlen : Hid ((L.take k).length = k) := hid (by simp; omega)
      have hsl := fun W => slice_from (P := Try.prog) (a := a) (n := L.length) (cap := cap) Try.underlying37 W (size30' W) k hk
      have tok : True := trivial
      go_wp2_with (first
        | (at_builtin; have _t := tok; refine wpList_append_own _ rfl (.tmp 36) (.tmp 38) 37 rfl (w.heap.size + 1) 30 i0 (.agg #[.int .i64 0, .int .i64 0, .int .i64 0]) 3 24 Try.underlying37 HZ.out.1 HZ.out.2.1 HZ.out.2.2.1 HZ.out.2.2.2 rfl (by decide) _ _ _ rfl (hown.out.alloc _) ⟨w2.heap.size, 0, none⟩ 1 1 x.enc rfl rfl (cells_new3 _ _ _ _ _) (enc3_one _) (by rw [hlen.out]; simp only [maxLen]; omega) (by rw [hlen.out]; omega) (by have := hR2.out.fr.size; have := lt_of_block hR2.out.box; simp; omega) ?_; rw [hlen.out]; intro v1 w3 hown1 hg1 _; have hT := hid (hR2.out.grown hg1); have hpc3 := hT.out.2.2.head; have hO1 := hid hown1; have hG1 := hid hg1; clear tok hown1 hg1)
        | (at_builtin; refine append_own_any _ rfl (.tmp 41) (.tmp 47) 37 rfl (w.heap.size + 1) 30 i0 (.agg #[.int .i64 0, .int .i64 0, .int .i64 0]) 3 24 Try.underlying37 HZ.out.1 HZ.out.2.1 HZ.out.2.2.1 HZ.out.2.2.2 rfl (by decide) _ _ _ rfl hO1.out (cutA a cap k 3) (L.length - k) (cap - k) ((flat Ob.enc L).drop (k * 3)) rfl (by rw [flat_drop enc3, flat_length enc3]; simp) (fun h => by have := hT.out.2.2.nil (cutA_none h); omega) (cutA_cells (off := 0) hT.out.2.2.addr hT.out.2.2.fits (fun j hj => by rw [Nat.zero_add]; exact hT.out.2.2.cells j hj) (flat_length enc3 L) k hk) (fun u hu => flat_one enc3_one L u (List.drop_subset _ _ hu)) (by simp only [maxLen]; omega) (by omega) (by have := hT.out.1.size; have := lt_of_block hT.out.2.1; omega) ?_; intro v2 w4 hown2 hg2; have hF4 := hid (hFin _ v2 w2 w3 w4 _ hR2 hstop.out hG1.out v1 hO1.out (by simpa using hown2) hg2); have hp4 := (Fr.of_grown hg2).at hT.out.2.2.ptr (fun e => by have := (hO1.out.lt p e.symm).1; have := hR2.out.plt; omega); have hpc4 : w4.cell? ⟨p, 0, none⟩ = _ := cell_of_block hp4 0; have hfz4 : w4.frozen? ⟨p, 0, none⟩ = _ := free_of_block hp4 0; obtain ⟨a2, g2, cap2, hv2, _⟩ := own_form hown2; clear hown2 hg2 hp4; subst hv2))
      go_end0
      exact ⟨rfl, hF4.out.out⟩
end Go.Proofs.Ytjaabbjobnfmmaa

/-
  Calls that follow each other: their one order (plain Lean); three rows of a call's own.
-/
import Derived.Test.YtjaabbjobnfmmaaOwnS
import Derived.Test.YtjaabbjobnfmmaaOrderPlaysW
import Derived.Test.YtjaabbjobnfmmaaAloneB
namespace Go.Proofs.Ytjaabbjobnfmmaa
open Go.RowKit

def ddz : Dd := ⟨0, zob⟩
/-- Call i of the row. -/
def rowF (l : List Dd) (i : Nat) : Sp := ⟨nrm (l.getD i ddz), 2 * (i : Int), 2 * (i : Int) + 1⟩
def rowL (l : List Dd) (n : Nat) : List Sp := (List.range n).map (rowF l)

theorem rowL_len (l : List Dd) (n : Nat) : (rowL l n).length = n := by simp [rowL]
theorem rowL_snoc (l : List Dd) (n : Nat) : rowL l (n + 1) = rowL l n ++ [rowF l n] := by simp [rowL, List.range_succ]
theorem rowF_get {l : List Dd} {i : Nat} (h : i < l.length) : rowF l i = ⟨nrm l[i], 2 * (i : Int), 2 * (i : Int) + 1⟩ := by simp [rowF, h]
theorem spOf_row (l : List Dd) (n i : Nat) (h : i < n) : spOf (rowL l n) i = rowF l i := by
  rw [spOf_get (by rw [rowL_len]; exact h)]
  simp [rowL]
theorem nrm_kindB (d : Dd) : kindB (nrm d) = true := by
  obtain ⟨h1, h2, h3⟩ := nrm_is d
  unfold kindB
  rw [decide_eq_true_eq]
  refine ⟨h1, h2, ?_⟩
  by_cases h : (nrm d).k = 2
  · exact .inr (h3 h)
  · exact .inl h
theorem chk_row (l : List Dd) (n : Nat) (hn : n ≤ 40) : chk (rowL l n) = 0 := by
  unfold chk
  rw [rowL_len, if_neg (by omega), if_pos]
  rw [List.all_eq_true]
  intro x hx
  obtain ⟨i, hi, rfl⟩ := List.mem_map.1 hx
  have := List.mem_range.1 hi
  unfold mayB
  rw [Bool.and_eq_true]
  refine ⟨nrm_kindB _, ?_⟩
  unfold timeB
  rw [decide_eq_true_eq]
  simp only [rowF]
  omega
theorem dds_row (l : List Dd) (n : Nat) (hn : n ≤ l.length) : dds (spOf (rowL l n)) (List.range n) = (l.map nrm).take n := by
  unfold dds
  apply List.ext_getElem
  · simp; omega
  · intro i h1 h2
    have hi : i < n := by simpa using h1
    simp only [List.getElem_map, List.getElem_range, List.getElem_take]
    rw [spOf_row l n i hi, rowF_get (by omega)]

theorem ord_row {l : List Dd} {n : Nat} {o : List Nat} (h : IsOrd (rowL l n) o) : o = List.range n := by
  have hlen := rowL_len l n
  have hlt : ∀ i ∈ o, i < n := fun i hi => by have := h.good.2 i hi; omega
  have hall : ∀ i, i < n → i ∈ o := fun i hi => h.all i (by omega) (by rw [spOf_row l n i hi]; simp only [rowF]; omega)
  have hp : o.Perm (List.range n) := (List.perm_ext_iff_of_nodup h.good.1 List.nodup_range).2 (fun i => ⟨fun hi => List.mem_range.2 (hlt i hi), fun hi => hall i (List.mem_range.1 hi)⟩)
  refine srt_unique (t := fun i => (i : Int)) ?_ ?_ hp
  · unfold Srt
    refine (h.pre.and h.good.1).imp_of_mem ?_
    rintro a b ha hb ⟨h1, h2⟩
    unfold preP at h1
    rw [spOf_row l n a (hlt a ha), spOf_row l n b (hlt b hb)] at h1
    simp only [rowF] at h1
    unfold Bf ltT
    simp only
    omega
  · refine List.pairwise_lt_range.imp ?_
    intro a b hab
    unfold Bf ltT
    simp only
    omega
theorem row_ord {l : List Dd} {n : Nat} (hn : n ≤ l.length) (h : okP [] ((l.map nrm).take n)) : IsOrd (rowL l n) (List.range n) := by
  have hlen := rowL_len l n
  refine ⟨⟨List.nodup_range, fun i hi => by have := List.mem_range.1 hi; omega⟩, by rw [dds_row l n hn]; exact h, ?_, fun i hi _ => List.mem_range.2 (by omega)⟩
  refine List.pairwise_lt_range.imp_of_mem ?_
  intro a b ha hb hab
  unfold preP
  rw [spOf_row l n a (List.mem_range.1 ha), spOf_row l n b (List.mem_range.1 hb)]
  simp only [rowF]
  omega
theorem row_ways (l : List Dd) (n : Nat) (hn : n ≤ l.length) (h40 : n ≤ 40) : ((hplay [] 0 ((l.map nrm).take n)).2 = 0 ∧ lineR (rowL l n) = (0, List.range n)) ∨ ((hplay [] 0 ((l.map nrm).take n)).2 ≠ 0 ∧ lineR (rowL l n) = (270, [])) := by
  have hc := chk_row l n h40
  rcases lineR_ways (rowL l n) with ⟨_, hl, hr⟩ | ⟨h, _⟩ | ⟨o, _, hl, ho, hr⟩
  · refine .inr ⟨fun hp => ?_, hr⟩
    obtain ⟨o', ho'⟩ := line_complete hc (row_ord hn ((hplay_ok _ _ _).1 hp))
    rw [hl] at ho'; cases ho'
  · exact absurd hc h
  · have e := ord_row ho
    subst e
    refine .inl ⟨?_, hr⟩
    have := ho.plays
    rw [dds_row l n hn] at this
    exact this

/-- A row of a call's own stays while another one, of another type, grows. -/
theorem own_keep {w w2 : World} {B B' e e' s s' n n' : Nat} {v v' : Value} {xs xs' : List Value} {o : Obj} (h : w.ownsRow B e s v n xs) (h' : w.ownsRow B' e' s' v' n' xs') (hne : e' ≠ e) (hg : (w.alloc o).grownBy w2 v'.ownBlock) : w2.ownsRow B e s v n xs := by
  have hf : Fr (fun i => some i = v'.ownBlock) w w2 := (fr0_alloc w o |>.mono (fun _ _ h => h.elim)).grown hg (fun _ _ h => h)
  refine own_fr h hf (fun i hi e2 => ?_)
  rcases h.2 with ⟨rfl, _⟩ | ⟨g, cap, cur, rfl, hb, hgg, rest⟩
  · simp [Value.ownBlock] at hi
  · have : g = i := by simpa [Value.ownBlock] using hi
    subst this
    exact own_ne h' hgg hne g e2.symm rfl

/-- How the loop of OrderRow stands. -/
structure RowRel (w wr : World) (a : Option Addr) (b off : Nat) (l : List Dd) (v3 v4 v5 : Value) (j3 j4 j5 : Nat) : Prop where
  own3 : OwnD wr w.heap.size v3 ((l.map nrm).take j3)
  own4 : OwnS wr w.heap.size v4 (rowL l j4)
  own5 : wr.ownsRow w.heap.size 3 1 v5 j5 ((List.range j5).map fun i : Nat => Value.int .i64 i)
  blt : 0 < l.length → b < w.heap.size
  fr : Fr0 w wr
  deeds : DeedsIn wr a b off l
section
variable {w wr w' : World} {b off : Nat} {a : Option Addr} {l : List Dd} {v3 v4 v5 v' : Value} {j3 j4 j5 : Nat} {o : Obj}
theorem RowRel.fr0 (h : RowRel w wr a b off l v3 v4 v5 j3 j4 j5) (hf : Fr0 wr w') : RowRel w w' a b off l v3 v4 v5 j3 j4 j5 :=
  ⟨own_fr0 h.own3 hf, own_fr0 h.own4 hf, own_fr0 h.own5 hf, h.blt, h.fr.trans0 hf, h.deeds.fr hf (fun h => h)⟩
theorem grow_fr {v : Value} {B e s n : Nat} {xs : List Value} (how : wr.ownsRow B e s v n xs) (hf : Fr0 w wr) (hB : w.heap.size ≤ B) (hg : (wr.alloc o).grownBy w' v.ownBlock) : Fr0 w w' ∧ Fr (fun i => some i = v.ownBlock) wr w' := by
  have hb : ∀ i, some i = v.ownBlock → w.heap.size ≤ i := fun i e => Nat.le_trans hB (how.lt i e.symm).1
  have h2 : Fr (fun i => some i = v.ownBlock) wr w' := (fr0_alloc wr o |>.mono (fun _ _ h => h.elim)).grown hg (fun _ _ h => h)
  exact ⟨hf.trans h2 (fun i hi e => by have := hb i e; omega), h2⟩
theorem RowRel.snoc3 (h : RowRel w wr a b off l v3 v4 v5 j3 j4 j5) (hk : j3 < l.length) (hown : w'.ownsRow w.heap.size 32 4 v' (j3 + 1) (flat Dd.enc ((l.map nrm).take j3) ++ (nrm l[j3]).enc)) (hg : (wr.alloc o).grownBy w' v3.ownBlock) :
    RowRel w w' a b off l v' v4 v5 (j3 + 1) j4 j5 := by
  obtain ⟨f1, f2⟩ := grow_fr h.own3 h.fr (Nat.le_refl _) hg
  have hb : ∀ i, some i = v3.ownBlock → w.heap.size ≤ i := fun i e => (h.own3.lt i e.symm).1
  exact ⟨by rw [nrm_snoc l j3 hk]; exact ownD_snoc (by rw [map_len (by omega)]; exact hown), own_keep h.own4 h.own3 (by decide) hg, own_keep h.own5 h.own3 (by decide) hg, h.blt, f1, h.deeds.frX f2 (fun hl e => by have := hb b e; have := h.blt hl; omega)⟩
theorem RowRel.snoc4 (h : RowRel w wr a b off l v3 v4 v5 j3 j4 j5) (hown : w'.ownsRow w.heap.size 50 6 v' (j4 + 1) (flat Sp.enc (rowL l j4) ++ (rowF l j4).enc)) (hg : (wr.alloc o).grownBy w' v4.ownBlock) :
    RowRel w w' a b off l v3 v' v5 j3 (j4 + 1) j5 := by
  obtain ⟨f1, f2⟩ := grow_fr h.own4 h.fr (Nat.le_refl _) hg
  have hb : ∀ i, some i = v4.ownBlock → w.heap.size ≤ i := fun i e => (h.own4.lt i e.symm).1
  exact ⟨own_keep h.own3 h.own4 (by decide) hg, by rw [rowL_snoc]; exact ownS_snoc (by rw [rowL_len]; exact hown), own_keep h.own5 h.own4 (by decide) hg, h.blt, f1, h.deeds.frX f2 (fun hl e => by have := hb b e; have := h.blt hl; omega)⟩
theorem RowRel.snoc5 (h : RowRel w wr a b off l v3 v4 v5 j3 j4 j5) (hown : w'.ownsRow w.heap.size 3 1 v' (j5 + 1) (((List.range j5).map fun i : Nat => Value.int .i64 i) ++ [.int .i64 j5])) (hg : (wr.alloc o).grownBy w' v5.ownBlock) :
    RowRel w w' a b off l v3 v4 v' j3 j4 (j5 + 1) := by
  obtain ⟨f1, f2⟩ := grow_fr h.own5 h.fr (Nat.le_refl _) hg
  have hb : ∀ i, some i = v5.ownBlock → w.heap.size ≤ i := fun i e => (h.own5.lt i e.symm).1
  exact ⟨own_keep h.own3 h.own5 (by decide) hg, own_keep h.own4 h.own5 (by decide) hg, by rw [List.range_succ, List.map_append]; exact hown, h.blt, f1, h.deeds.frX f2 (fun hl e => by have := hb b e; have := h.blt hl; omega)⟩
end
end Go.Proofs.Ytjaabbjobnfmmaa

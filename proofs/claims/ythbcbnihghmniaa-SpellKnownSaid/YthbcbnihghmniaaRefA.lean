/-
  runes, Runes, folded and Fold of the document.
-/
import Derived.Test.YthbcbnihghmniaaLoopA
import Derived.Laws.Cover4
namespace Go.Proofs.Ythbcbnihghmniaa
open Go.RowKit

def cel (L : List Int) : List Value := L.map (Value.int .i32)
/-- A row of runes of a call's own. -/
def OwnR (w : World) (B : Nat) (v : Value) (L : List Int) : Prop := w.ownsRow B 21 1 v L.length (cel L)

theorem info21 : (Try.prog.info? 21).map (fun i => (i.zero, i.size, i.bytes)) = some (some (.int .i32 0), 1, 4) := by kernel_rfl

theorem ownR_snoc {w : World} {B : Nat} {v : Value} {L : List Int} {r : Int} (h : w.ownsRow B 21 1 v (L.length + 1) (cel L ++ [.int .i32 r])) : OwnR w B v (L ++ [r]) := by
  unfold OwnR cel
  rw [List.map_append, List.length_append]
  exact h

theorem cells_new1 (w : World) (a : Value) (t : TypeId) : ∀ j u, [a][j]? = some u → (w.alloc (.cells #[a] t)).cell? ((⟨w.heap.size, 0, none⟩ : Addr).add j) = some u := by
  intro j u hu
  rw [Addr.add_lit]
  simp only [Nat.zero_add, World.cell?_alloc_new]
  simpa using hu

theorem grown_fr {w wr w' : World} {B : Nat} {v : Value} {L : List Int} {o : Obj} (h : OwnR wr B v L) (hw : w.heap.size ≤ B) (hf : Fr0 w wr) (hg : (wr.alloc o).grownBy w' v.ownBlock) : Fr0 w w' := by
  have hb : ∀ i, some i = v.ownBlock → B ≤ i := fun i e => (h.lt i e.symm).1
  have hf2 : Fr (fun i => some i = v.ownBlock) wr w' := (fr0_alloc wr o |>.mono (fun _ _ h => h.elim)).grown hg (fun _ _ h => h)
  exact hf.trans hf2 (fun i hi e => by have := hb i e; omega)

theorem own_not_iter {w : World} {B i : Nat} {v : Value} {L : List Int} {s : ByteArray} {p : Nat} (h : OwnR w B v L) (hi : w.heap[i]? = some (.stringIter s p)) : ∀ j, v.ownBlock = some j → j ≠ i := by
  intro j hj hji
  subst hji
  rcases h.2 with ⟨rfl, _⟩ | ⟨g, cap, cur, rfl, hb, hgg, rest⟩
  · simp [Value.ownBlock] at hj
  · have : g = j := by simpa [Value.ownBlock] using hj
    subst this
    rw [hi] at hgg
    simp at hgg

theorem ownR_iter {w : World} {B i : Nat} {v : Value} {L : List Int} {s : ByteArray} {p : Nat} (h : OwnR w B v L) (hi : w.heap[i]? = some (.stringIter s p)) (p' : Nat) : OwnR (w.iterAt i s p') B v L := by
  have hne := own_not_iter h hi
  refine ⟨h.1, ?_⟩
  rcases h.2 with hn | ⟨g, cap, cur, rfl, hb, hgg, rest⟩
  · exact .inl hn
  · exact .inr ⟨g, cap, cur, rfl, hb, (Lib.iterAt_other w i g s p' (hne g rfl)).trans hgg, rest⟩

theorem iter_grown {wr w' : World} {B i : Nat} {v : Value} {L : List Int} {o : Obj} {s : ByteArray} {p : Nat} (h : OwnR wr B v L) (hi : wr.heap[i]? = some (.stringIter s p)) (hg : (wr.alloc o).grownBy w' v.ownBlock) : w'.heap[i]? = some (.stringIter s p) := by
  have hf2 : Fr (fun i => some i = v.ownBlock) wr w' := (fr0_alloc wr o |>.mono (fun _ _ h => h.elim)).grown hg (fun _ _ h => h)
  exact hf2.at hi (fun e => own_not_iter h hi i e.symm rfl)

set_option maxHeartbeats 4000000 in
set_option maxRecDepth 1000000 in
theorem runes_any (s : ByteArray) (w : World) (hs : s.size ≤ 17592186044416) :
    Calls Try.prog 27 #[.string s] w fun e w' => ∃ v, e = .returned v ∧ Fr0 w w' ∧ OwnR w' (w.heap.size + 1) v (rn s) := by
  obtain ⟨i0, hi, hz0, hz1, hz2⟩ := info_parts info21
  have HZ := hid (show Try.prog.info? 21 = some i0 ∧ i0.zero = some (.int .i32 0) ∧ i0.size = 1 ∧ i0.bytes = 4 from ⟨hi, hz0, hz1, hz2⟩)
  clear hz0 hz1 hz2 hi
  go_enter Try.func27, Try.ntmps27
  go_wp2
  go_loopw [3] (fun v wr => ∃ (pos fuel : Nat) (acc : List Int), wr.heap[w.heap.size]? = some (.stringIter s pos) ∧ Hid (Fr0 w wr) ∧ Hid (OwnR wr (w.heap.size + 1) v acc) ∧ Hid (At s pos fuel acc))
    (fun _ wr => s.size - wr.iterPos w.heap.size)
  case atStart =>
    refine ⟨0, s.size, [], ?_, hid (fr0_alloc _ _), hid (World.ownsRow_nil _ _ _ _), hid (At.start s)⟩
    have := World.iter_heap w s 0
    simpa using this
  case round =>
    obtain ⟨pos, fuel, acc, hit, hF, hO, hA⟩ := hrel
    have hsz : w.heap.size < wr.heap.size := (Array.getElem?_eq_some_iff.1 hit).1
    have hal := hA.out.pos
    by_cases hp : pos < s.size
    · have hnx : ∀ ty, (Instr.next (.pointer (some ⟨w.heap.size, 0, none⟩)) true ty).run Try.prog wr = _ := fun ty => Lib.run_next_any_at wr w.heap.size s pos ty hit hp
      have hwd := Fy_width s pos hp
      have hit2 := Lib.iterAt_heap wr w.heap.size s pos (pos + (Utf8.decode s pos).2) hit
      have hF2 : Hid (Fr0 w (wr.iterAt w.heap.size s (pos + (Utf8.decode s pos).2))) := hid (Fr.of_below (Lib.below_iterAt hF.out.toBelow (k := w.heap.size) (Nat.le_refl _) s (pos + (Utf8.decode s pos).2)))
      have hO2 := hid (ownR_iter hO.out hit (pos + (Utf8.decode s pos).2))
      have hsz2 : w.heap.size + 1 ≤ (wr.iterAt w.heap.size s (pos + (Utf8.decode s pos).2)).heap.size := by rw [Lib.iterAt_size]; omega
      obtain ⟨f, rfl, hA2⟩ := hA.out.step hp
      have HA2 := hid hA2
      clear hA2 hA hO hF
      go_wp2_with (at_builtin; refine wpList_append_own _ rfl _ _ 36 rfl (w.heap.size + 1) 21 i0 (.int .i32 0) 1 4 Try.underlying36 HZ.out.1 HZ.out.2.1 HZ.out.2.2.1 HZ.out.2.2.2 rfl (by decide) _ _ _ rfl (hO2.out.alloc _) ⟨_, 0, none⟩ 1 1 [.int .i32 ((Utf8.decode s pos).1 : Int)] rfl rfl ?c1 ?c2 ?c3 ?c4 ?c5 ?_)
      case c1 => exact cells_new1 _ _ _
      case c2 => intro u hu; simp at hu; subst hu; rfl
      case c3 => simp only [maxLen]; omega
      case c4 => omega
      case c5 => simp; omega
      intro v' w3 hown' hg _
      have hS := hid (ownR_snoc hown')
      have hF3 := hid (grown_fr hO2.out (Nat.le_succ _) hF2.out hg)
      have hit3 := iter_grown hO2.out hit2 hg
      clear hown' hg hO2
      go_wp2
      go_roundw
      case rel => exact ⟨_, f, _, hit3, hF3, hS, HA2⟩
      case measure =>
        simp only [World.iterPos, hit3, hit]
        omega
    · have hnx : ∀ ty, (Instr.next (.pointer (some ⟨w.heap.size, 0, none⟩)) true ty).run Try.prog wr = _ := fun ty => Lib.run_next_end_at wr w.heap.size s pos ty hit hp
      have hE := hA.out.done hp
      have hO' := hO.out
      rw [hE] at hO'
      have HE := hid hO'
      clear hA hO hE hO'
      go_wp2
      go_ret
      exact ⟨_, rfl, hF.out, HE.out⟩

/-- A row of runes, taken apart. -/
theorem OwnR.form {w : World} {B : Nat} {v : Value} {L : List Int} (h : OwnR w B v L) : ∃ a g cap, v = .slice a L.length cap ∧ (0 < L.length → a = some ⟨g, 0, none⟩) ∧ (0 < L.length → B ≤ g ∧ g < w.heap.size) ∧
    (∀ j (hj : j < L.length), w.cell? ⟨g, j, none⟩ = some (.int .i32 L[j])) ∧ (∀ j (hj : j < L.length), w.frozen? ⟨g, j, none⟩ = false) := by
  obtain ⟨hl, ⟨rfl, h0⟩ | ⟨g, cap, cur, rfl, hb, hg, hn, hc, hs, ht⟩⟩ := h
  · have hL : L = [] := List.eq_nil_of_length_eq_zero h0
    subst hL
    exact ⟨none, 0, 0, rfl, by simp, by simp, fun j hj => absurd hj (Nat.not_lt_zero _), fun j hj => absurd hj (Nat.not_lt_zero _)⟩
  · refine ⟨some ⟨g, 0, none⟩, g, cap, rfl, fun _ => rfl, fun _ => ⟨hb, lt_of_block hg⟩, fun j hj => ?_, fun j _ => free_of_block hg j⟩
    have e : (cur.toList.take (L.length * 1))[j]? = (cel L)[j]? := by rw [ht]
    rw [List.getElem?_take, if_pos (by omega)] at e
    rw [cell_of_block hg]
    unfold cel at e
    simpa [hj] using e

theorem index36 {L : List Int} {a : Option Addr} {g : Nat} (ha : 0 < L.length → a = some ⟨g, 0, none⟩) (cap k : Nat) (hk : k < L.length) (W : World) :
    (Instr.indexAt 36 (.slice a L.length cap) (.int .i64 k)).run Try.prog W = .ok (.pointer (some ⟨g, k, none⟩)) W := by
  have hs : (sizeOf 21).run Try.prog W = .ok 1 W := by go_simp
  have := index_of0 Try.underlying36 W hs ha cap k hk
  simpa using this

set_option maxHeartbeats 1000000 in
theorem refRunesN_any (s : ByteArray) (w : World) (hs : s.size ≤ 17592186044416) :
    Calls Try.prog 13 #[.string s] w fun e w' => e = .returned (.int .i64 (rn s).length) ∧ Fr0 w w' := by
  have R := runes_any s w hs
  go_enter Try.func13, Try.ntmps13
  go_wp2_with (go_at_call 27; refine R.mono ?_; rintro e w1 ⟨v, rfl, hf, ho⟩; obtain ⟨a, g, cap, rfl, ha, hg, hc, hz⟩ := ho.form; clear R ha hg hc hz ho)
  go_ret
  exact ⟨by rfl, hf⟩

/-- Folded as far as k. -/
def upto (L : List Int) (k : Nat) : List Int := (L.take k).map fo ++ L.drop k
theorem upto_len (L : List Int) (k : Nat) : (upto L k).length = L.length := by
  unfold upto
  simp
  omega
theorem upto_get (L : List Int) (k : Nat) (hk : k < L.length) : (upto L k)[k]'(by rw [upto_len]; exact hk) = L[k] := by
  unfold upto
  have hl : ((L.take k).map fo).length = k := by simp; omega
  rw [List.getElem_append_right (by omega)]
  simp only [List.getElem_drop, hl, Nat.sub_self, Nat.add_zero]
theorem upto_set (L : List Int) (k : Nat) (hk : k < L.length) : (upto L k).set k (fo L[k]) = upto L (k + 1) := by
  unfold upto
  have hl : ((L.take k).map fo).length = k := by simp; omega
  rw [List.set_append_right _ _ (by omega), hl, Nat.sub_self, List.drop_eq_getElem_cons hk, List.set_cons_zero, List.take_succ_eq_append_getElem hk, List.map_append]
  simp

theorem upto_zero (L : List Int) : upto L 0 = L := by simp [upto]
theorem upto_all (L : List Int) : upto L L.length = L.map fo := by simp [upto]

theorem own_set {w : World} {B g cap : Nat} {L : List Int} (h : OwnR w B (.slice (some ⟨g, 0, none⟩) L.length cap) L) (k : Nat) (r : Int) : OwnR (w.setCell ⟨g, k, none⟩ (.int .i32 r)) B (.slice (some ⟨g, 0, none⟩) L.length cap) (L.set k r) := by
  have := (World.ownsRow.stored h k (.int .i32 r)).1
  unfold OwnR cel
  rw [List.length_set, List.map_set]
  exact this
end Go.Proofs.Ythbcbnihghmniaa

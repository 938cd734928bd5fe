/-
  The document's heap: what drop does, told by the list of the objects that are out.
-/
import Derived.Test.YtjaabbjobnfmmaaRefB
namespace Go.Proofs.Ytjaabbjobnfmmaa
open Go.RowKit

/-- Without an object. -/
def dropL (L : List Ob) (x : Ob) : List Ob := L.filter (fun y => !decide (y = x))

theorem dropL_snoc (L : List Ob) (x : Ob) (k : Nat) (hk : k < L.length) : dropL (L.take (k + 1)) x = dropL (L.take k) x ++ (if L[k] = x then [] else [L[k]]) := by
  unfold dropL
  rw [take_snoc' L k hk, List.filter_append]
  by_cases e : L[k] = x <;> simp [e]

/-- How the loop of drop stands: k objects have been looked at. -/
structure DropRel (w wr : World) (p : Nat) (a : Option Addr) (g cap : Nat) (L : List Ob) (x : Ob) (v : Value) (k : Nat) : Prop where
  le : k ≤ L.length
  own : OwnL wr (w.heap.size + 1) v (dropL (L.take k) x)
  plt : p < w.heap.size
  glt : 0 < L.length → g < w.heap.size
  fr : Fr0 w wr
  box : BoxAt wr w.heap.size x
  read : RefRead wr p a g cap L

section
variable {w wr w' : World} {p g cap : Nat} {a : Option Addr} {L : List Ob} {x : Ob} {v : Value} {k : Nat}
theorem DropRel.fr0 (h : DropRel w wr p a g cap L x v k) (hf : Fr0 wr w') : DropRel w w' p a g cap L x v k :=
  ⟨h.le, own_fr0 h.own hf, h.plt, h.glt, h.fr.trans0 hf, hf.at h.box (fun h => h), h.read.fr0 hf⟩
theorem DropRel.skip (h : DropRel w wr p a g cap L x v k) (hk : k < L.length) (he : L[k] = x) : DropRel w wr p a g cap L x v (k + 1) :=
  ⟨by omega, by rw [dropL_snoc L x k hk, if_pos he, List.append_nil]; exact h.own, h.plt, h.glt, h.fr, h.box, h.read⟩
theorem DropRel.snoc (h : DropRel w wr p a g cap L x v k) (hk : k < L.length) (he : L[k] ≠ x) {v' : Value} {w' : World} {o : Obj}
    (hown : w'.ownsRow (w.heap.size + 1) 30 3 v' ((dropL (L.take k) x).length + 1) (flat Ob.enc (dropL (L.take k) x) ++ L[k].enc)) (hg : (wr.alloc o).grownBy w' v.ownBlock) : DropRel w w' p a g cap L x v' (k + 1) := by
  have hb : ∀ i, some i = v.ownBlock → w.heap.size < i := fun i e => (h.own.lt i e.symm).1
  have hf : Fr (fun i => some i = v.ownBlock) wr w' := (fr0_alloc wr o |>.mono (fun _ _ h => h.elim)).grown hg (fun _ _ h => h)
  refine ⟨by omega, by rw [dropL_snoc L x k hk, if_neg he]; exact own_snoc hown, h.plt, h.glt, h.fr.trans hf (fun i hi e => by have := hb i e; omega), hf.at h.box (fun e => by have := hb _ e; omega), hf.at h.read.ptr (fun e => by have := hb _ e; have := h.plt; omega), fun j hj => ?_, fun hl => hf.lt (h.read.lt hl), h.read.addr, h.read.fits, h.read.nil⟩
  exact (hf.cell (p := ⟨g, j, none⟩) (h.read.lt (by omega)) (fun e => by have := hb g e; have := h.glt (by omega); omega)).trans (h.read.cells j hj)
end

set_option maxRecDepth 100000 in
set_option maxHeartbeats 800000 in
theorem drop_any (p B : Nat) (L : List Ob) (hL : L.length < 4398046511104) (x : Ob) (w : World) (hBw : B ≤ w.heap.size) (h : RefIs w p B L) :
    Calls Try.prog 68 #[.pointer (some ⟨p, 0, none⟩), .agg #[.int .i64 x.c, .int .i64 x.s, .int .i64 x.o]] w fun e w' => e = .returned (.tuple #[]) ∧ Fr (· = p) w w' ∧ RefIs w' p B (dropL L x) := by
  obtain ⟨i0, hi, hz0, hz1, hz2⟩ := info_parts info30
  obtain ⟨a, g, cap, hr⟩ := h.read
  have HP := hid h
  have HZ := hid (show Try.prog.info? 30 = some i0 ∧ i0.zero = some (.agg #[.int .i64 0, .int .i64 0, .int .i64 0]) ∧ i0.size = 3 ∧ i0.bytes = 24 from ⟨hi, hz0, hz1, hz2⟩)
  have HR := hid hr
  have hgd := guard30
  clear h hz0 hz1 hz2 hi hr
  go_enter Try.func68, Try.ntmps68
  go_wp2
  go_loopw [4, 5] (fun v i wr => ∃ k : Nat, i = .int .i64 k ∧ Hid (DropRel w wr p a g cap L x v k))
    (fun _ i _ => L.length - (intOf i).toNat)
  case atStart => exact ⟨0, rfl, hid ⟨Nat.zero_le _, (World.ownsRow_nil _ _ _ _ : OwnL _ _ _ []), lt_of_block HR.out.ptr, HR.out.lt, fr0_alloc _ _, alloc_block _ _, HR.out.fr0 (fr0_alloc _ _)⟩⟩
  case round =>
    obtain ⟨k, rfl, hR⟩ := hrel
    have hk := hR.out.le
    have hpc := hR.out.read.head
    by_cases hlt : k < L.length
    · have hix := hR.out.read.index k hlt
      obtain ⟨c0, c1, c2⟩ := hR.out.read.elem k hlt
      obtain ⟨b0, b1, b2⟩ := hR.out.box.cells
      have hne := fun W => neq30 L[k] x W
      by_cases he : L[k] = x
      · rw [decide_eq_true he] at hne
        simp only [Ob.val] at hne
        have hS := hid ((hR.out.fr0 (Fr.refl _ wr).drew).skip hlt he)
        clear hR he
        go_wp2
        go_region
        go_wp2
        go_roundw
        case rel => exact ⟨k + 1, by go_num, hS⟩
        case measure => simp [intOf]; omega
      · rw [decide_eq_false he] at hne
        simp only [Ob.val] at hne
        have hR2 := hid (hR.out.fr0 (Fr.refl _ wr).drew)
        have HE := hid he
        have hlen : (dropL (L.take k) x).length ≤ k := by
          have := List.length_filter_le (fun y => !decide (y = x)) (L.take k)
          have h2 := List.length_take_le k L
          exact Nat.le_trans this h2
        have hown := hid hR2.out.own
        clear hR he
        go_wp2
        go_region
        go_wp2_with (at_builtin; refine wpList_append_own _ rfl _ _ 37 rfl (w.heap.size + 1) 30 i0 (.agg #[.int .i64 0, .int .i64 0, .int .i64 0]) 3 24 Try.underlying37 HZ.out.1 HZ.out.2.1 HZ.out.2.2.1 HZ.out.2.2.2 rfl (by decide) _ _ _ rfl (hown.out.alloc _) ⟨wr.heap.size, 0, none⟩ 1 1 L[k].enc rfl rfl ?c1 ?c2 ?c3 ?c4 ?c5 ?_)
        case c1 => exact cells_new3 _ _ _ _ _
        case c2 => exact enc3_one _
        case c3 => simp only [maxLen]; omega
        case c4 => omega
        case c5 => have := hR2.out.fr.size; have := lt_of_block hR2.out.box; simp at this ⊢; omega
        intro v' w3 hown' hg _
        have hS := hid (hR2.out.snoc hlt HE.out hown' hg)
        clear hown' hg hown hR2 hpc c0 c1 c2
        go_wp2
        go_roundw
        case rel => exact ⟨k + 1, by go_num, hS⟩
        case measure => simp [intOf]; omega
    · have hkl : L.take k = L := List.take_of_length_le (by omega)
      have hfz : wr.frozen? ⟨p, 0, none⟩ = _ := free_of_block hR.out.read.ptr 0
      have ho := hR.out.own
      rw [hkl] at ho
      obtain ⟨a2, g2, cap2, hv2, _⟩ := own_form ho
      have hF : Hid (Fr (· = p) w (wr.setCell ⟨p, 0, none⟩ (.slice a2 (dropL L x).length cap2)) ∧ RefIs (wr.setCell ⟨p, 0, none⟩ (.slice a2 (dropL L x).length cap2)) p B (dropL L x)) := by
        rw [hv2] at ho
        refine hid ⟨(hR.out.fr.mono (fun _ _ h => h.elim)).setCell (X := (· = p)) (p := ⟨p, 0, none⟩) (fun _ => rfl) _, _, by simpa using setCell_block hR.out.read.ptr 0 (.slice a2 (dropL L x).length cap2), ?_, ?_, ?_⟩
        · have hne := own_ne ho hR.out.read.ptr (by decide)
          have := own_fr ho ((Fr.refl (· = p) wr).setCell (p := ⟨p, 0, none⟩) (fun _ => rfl) (.slice a2 (dropL L x).length cap2)) (fun i hi e => hne i hi e)
          refine ⟨this.1, ?_⟩
          rcases this.2 with hn | ⟨g, cap, cur, h1, hb, rest⟩
          · exact .inl hn
          · exact .inr ⟨g, cap, cur, h1, by omega, rest⟩
        · intro y hy
          obtain ⟨_, _, _, hwf, _⟩ := HP.out
          exact hwf y (List.mem_filter.1 hy).1
        · obtain ⟨_, _, _, _, hB⟩ := HP.out
          exact hB
      subst hv2
      clear hR ho hkl
      go_wp2
      go_end0
      exact ⟨rfl, hF.out⟩
end Go.Proofs.Ytjaabbjobnfmmaa

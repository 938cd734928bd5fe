/-
  The law's own helper 'alone': the deeds of one object, but 'none'.
-/
import Derived.Test.YtjaabbjobnfmmaaWorks
import Derived.Test.YtjaabbjobnfmmaaGRef
namespace Go.Proofs.Ytjaabbjobnfmmaa
open Go.RowKit

theorem info32 : (Try.prog.info? 32).map (fun i => (i.zero, i.size, i.bytes)) = some (some (.agg #[.int .i64 0, .int .i64 0, .int .i64 0, .int .i64 0]), 4, 32) := by kernel_rfl

/-- The deeds of an object, but 'none'. -/
def isOf (x : Ob) (d : Dd) : Bool := decide (d.x = x) && !decide (d.k = 2)
def aloneL (l : List Dd) (x : Ob) : List Dd := l.filter (isOf x)

theorem aloneL_snoc (l : List Dd) (x : Ob) (k : Nat) (hk : k < l.length) : aloneL (l.take (k + 1)) x = aloneL (l.take k) x ++ (if isOf x l[k] = true then [l[k]] else []) := by
  unfold aloneL
  rw [take_snoc' l k hk, List.filter_append]
  cases h : isOf x l[k] <;> simp [h]

/-- A row of deeds of a call's own. -/
def OwnD (w : World) (B : Nat) (v : Value) (l : List Dd) : Prop := w.ownsRow B 32 4 v l.length (flat Dd.enc l)

theorem ownD_snoc {w : World} {B : Nat} {v : Value} {l : List Dd} {d : Dd} (h : w.ownsRow B 32 4 v (l.length + 1) (flat Dd.enc l ++ d.enc)) : OwnD w B v (l ++ [d]) := by
  unfold OwnD
  rw [flat_snoc, List.length_append]
  exact h

theorem cells_new4 (w : World) (a b c d : Value) (t : TypeId) : ∀ j u, [a, b, c, d][j]? = some u → (w.alloc (.cells #[a, b, c, d] t)).cell? ((⟨w.heap.size, 0, none⟩ : Addr).add j) = some u := by
  intro j u hu
  rw [Addr.add_lit]
  simp only [Nat.zero_add, World.cell?_alloc_new]
  simpa using hu

/-- How the loop of alone stands: k deeds have been looked at. -/
structure AloneRel (w wr : World) (a : Option Addr) (b off : Nat) (l : List Dd) (x : Ob) (v : Value) (k : Nat) : Prop where
  le : k ≤ l.length
  own : OwnD wr (w.heap.size + 1) v (aloneL (l.take k) x)
  blt : 0 < l.length → b < w.heap.size
  fr : Fr0 w wr
  box : BoxAt wr w.heap.size x
  deeds : DeedsIn wr a b off l

section
variable {w wr w' : World} {b off : Nat} {a : Option Addr} {l : List Dd} {x : Ob} {v : Value} {k : Nat}
theorem AloneRel.fr0 (h : AloneRel w wr a b off l x v k) (hf : Fr0 wr w') : AloneRel w w' a b off l x v k :=
  ⟨h.le, own_fr0 h.own hf, h.blt, h.fr.trans0 hf, hf.at h.box (fun h => h), h.deeds.fr hf (fun h => h)⟩
theorem AloneRel.skip (h : AloneRel w wr a b off l x v k) (hk : k < l.length) (he : isOf x l[k] = false) : AloneRel w wr a b off l x v (k + 1) :=
  ⟨by omega, by rw [aloneL_snoc l x k hk, he, if_neg (by decide), List.append_nil]; exact h.own, h.blt, h.fr, h.box, h.deeds⟩
theorem DeedsIn.frX {X : Nat → Prop} (h : DeedsIn wr a b off l) (hf : Fr X wr w') (hb : 0 < l.length → ¬ X b) : DeedsIn w' a b off l :=
  ⟨h.addr, fun i hi => by
    have hl := h.lt (by omega)
    have hb := hb (by omega)
    obtain ⟨h0, h1, h2, h3⟩ := h.cells i hi
    exact ⟨(hf.cell (p := ⟨b, _, none⟩) hl hb).trans h0, (hf.cell (p := ⟨b, _, none⟩) hl hb).trans h1, (hf.cell (p := ⟨b, _, none⟩) hl hb).trans h2, (hf.cell (p := ⟨b, _, none⟩) hl hb).trans h3⟩,
    fun hl => hf.lt (h.lt hl), h.wf, h.small⟩
theorem AloneRel.snoc (h : AloneRel w wr a b off l x v k) (hk : k < l.length) (he : isOf x l[k] = true) {v' : Value} {w' : World} {o : Obj}
    (hown : w'.ownsRow (w.heap.size + 1) 32 4 v' ((aloneL (l.take k) x).length + 1) (flat Dd.enc (aloneL (l.take k) x) ++ l[k].enc)) (hg : (wr.alloc o).grownBy w' v.ownBlock) : AloneRel w w' a b off l x v' (k + 1) := by
  have hb : ∀ i, some i = v.ownBlock → w.heap.size < i := fun i e => (h.own.lt i e.symm).1
  have hf : Fr (fun i => some i = v.ownBlock) wr w' := (fr0_alloc wr o |>.mono (fun _ _ h => h.elim)).grown hg (fun _ _ h => h)
  refine ⟨by omega, by rw [aloneL_snoc l x k hk, he, if_pos rfl]; exact ownD_snoc hown, h.blt, h.fr.trans hf (fun i hi e => by have := hb i e; omega), hf.at h.box (fun e => by have := hb _ e; omega), h.deeds.frX hf (fun hl e => by have := hb b e; have := h.blt hl; omega)⟩
end

theorem eql30' (x y : Ob) (w : World) : (binOp .eql 30 x.val y.val).run Try.prog w = .ok (.bool (decide (x = y))) w := eql30 x y w

set_option maxRecDepth 100000 in
set_option maxHeartbeats 1600000 in
theorem alone_any (a : Option Addr) (b off cap : Nat) (l : List Dd) (hs : l.length ≤ 1000) (x : Ob) (w : World) (h : DeedsIn w a b off l) :
    Calls Try.prog 20 #[.slice a l.length cap, .agg #[.int .i64 x.c, .int .i64 x.s, .int .i64 x.o]] w fun e w' => ∃ v, e = .returned v ∧ Fr0 w w' ∧ OwnD w' (w.heap.size + 1) v (aloneL l x) := by
  obtain ⟨i0, hi, hz0, hz1, hz2⟩ := info_parts info32
  have HZ := hid (show Try.prog.info? 32 = some i0 ∧ i0.zero = some (.agg #[.int .i64 0, .int .i64 0, .int .i64 0, .int .i64 0]) ∧ i0.size = 4 ∧ i0.bytes = 32 from ⟨hi, hz0, hz1, hz2⟩)
  have HD := hid h
  have hgd := guard30
  clear h hz0 hz1 hz2 hi
  go_enter Try.func20, Try.ntmps20
  go_wp2
  go_loopw [5, 6] (fun v i wr => ∃ k : Nat, i = .int .i64 k ∧ Hid (AloneRel w wr a b off l x v k))
    (fun _ i _ => l.length - (intOf i).toNat)
  case atStart => exact ⟨0, rfl, hid ⟨Nat.zero_le _, (World.ownsRow_nil _ _ _ _ : OwnD _ _ _ []), HD.out.lt, fr0_alloc _ _, alloc_block _ _, HD.out.fr (fr0_alloc _ _) (fun h => h)⟩⟩
  case round =>
    obtain ⟨k, rfl, hR⟩ := hrel
    have hk := hR.out.le
    by_cases hlt : k < l.length
    · have hix := hR.out.deeds.index cap k hlt
      obtain ⟨c0, c1, c2, c3⟩ := hR.out.deeds.cells k hlt
      obtain ⟨b0, b1, b2⟩ := hR.out.box.cells
      have heq := fun W => eql30 l[k].x x W
      by_cases he : l[k].x = x
      · rw [decide_eq_true he] at heq
        simp only [Ob.val] at heq
        by_cases hk2 : l[k].k = 2
        · have hS := hid ((hR.out.fr0 (Fr.refl _ wr).drew).skip hlt (by simp [isOf, he, hk2]))
          have hkb : (l[k].k != 2) = false := by simp [hk2]
          clear hR he hk2
          go_wp2
          go_region
          go_wp2
          go_roundw
          case rel => exact ⟨k + 1, by go_num, hS⟩
          case measure => simp [intOf]; omega
        · have hkb : (l[k].k != 2) = true := by simp [hk2]
          have HE := hid (show isOf x l[k] = true by simp [isOf, he, hk2])
          have hR2 := hid (hR.out.fr0 (Fr.refl _ wr).drew)
          have hlen : (aloneL (l.take k) x).length ≤ k := by
            have := List.length_filter_le (isOf x) (l.take k)
            have h2 := List.length_take_le k l
            exact Nat.le_trans this h2
          have hown := hid hR2.out.own
          clear hR he hk2
          go_wp2
          go_region
          go_wp2_with (at_builtin; refine wpList_append_own _ rfl _ _ 22 rfl (w.heap.size + 1) 32 i0 (.agg #[.int .i64 0, .int .i64 0, .int .i64 0, .int .i64 0]) 4 32 Try.underlying22 HZ.out.1 HZ.out.2.1 HZ.out.2.2.1 HZ.out.2.2.2 rfl (by decide) _ _ _ rfl (hown.out.alloc _) ⟨wr.heap.size, 0, none⟩ 1 1 l[k].enc rfl rfl ?c1 ?c2 ?c3 ?c4 ?c5 ?_)
          case c1 => exact cells_new4 _ _ _ _ _ _
          case c2 => exact enc4_one _
          case c3 => simp only [maxLen]; omega
          case c4 => omega
          case c5 => have := hR2.out.fr.size; have := lt_of_block hR2.out.box; simp at this ⊢; omega
          intro v' w3 hown' hg _
          have hS := hid (hR2.out.snoc hlt HE.out hown' hg)
          clear hown' hg hown hR2 c0 c1 c2 c3
          go_wp2
          go_roundw
          case rel => exact ⟨k + 1, by go_num, hS⟩
          case measure => simp [intOf]; omega
      · rw [decide_eq_false he] at heq
        simp only [Ob.val] at heq
        have hS := hid ((hR.out.fr0 (Fr.refl _ wr).drew).skip hlt (by simp [isOf, he]))
        clear hR he
        go_wp2
        go_region
        go_wp2
        go_roundw
        case rel => exact ⟨k + 1, by go_num, hS⟩
        case measure => simp [intOf]; omega
    · have hkl : l.take k = l := List.take_of_length_le (by omega)
      have ho := hR.out.own
      rw [hkl] at ho
      have hF := hid (And.intro hR.out.fr ho)
      clear hR ho
      go_wp2
      go_ret
      exact ⟨_, rfl, hF.out⟩
end Go.Proofs.Ytjaabbjobnfmmaa

/-
  maps.Keys over the program's map of objects, and what slices.Collect makes of it.
-/
import Derived.Test.YtjaabbjobnfmmaaWalk
import Derived.Test.YtjaabbjobnfmmaaGRef
import Derived.RangeFuncNested
import Derived.RangeFuncBound
import Derived.RangeFuncCalls
import Derived.RangeFuncLeaves
import Derived.Shelf.Abstract
import Derived.Shelf.RegionOpen
import Derived.OwnWalkIn
import Derived.TacticsInMore
import Derived.LoopNIn
import Derived.LoopIn
import Derived.RangeFuncStops
import Derived.RangeFuncBox
namespace Go.Proofs.Ytjaabbjobnfmmaa
open Go.RowKit Go.Shelf
attribute [local go_sem] Oper.semAt_some

theorem grown_of_fr {w w' : World} {r : Nat} (h : Fr (· = r) w w') : w.grownBy w' (some r) := ⟨h.os, h.tape, h.output, h.size, fun i hi hne => h.block i hi (fun e => hne (by rw [e]))⟩
theorem Walks.iter {w : World} {b r : Nat} {S done : List Ob} (h : Walks w b r S done) : ∃ o : Obj, w.heap[r]? = some o ∧ o.isWalk = true := by
  obtain ⟨es, clock, since, seen, c0, _, _, _, _, _, h6, _⟩ := h
  exact ⟨_, h6, rfl⟩
theorem Walks.of_walks {w w' : World} {b r : Nat} {S done : List Ob} (h : Walks w b r S done) (hk : KeepsWalks w w') : Walks w' b r S done := by
  obtain ⟨es, clock, since, seen, c0, h1, h2, h3, h4, h5, h6, h7⟩ := h
  exact ⟨es, clock, since, seen, c0, hk.same b _ h1 rfl, h2, h3, h4, h5, hk.same r _ h6 rfl, h7⟩
theorem Walks.left_walks {w w' : World} {b r : Nat} {S done : List Ob} (h : Walks w b r S done) (hk : KeepsWalks w w') : w'.rangeLeft b r = w.rangeLeft b r := by
  obtain ⟨es, clock, since, seen, c0, h1, _, _, _, _, h6, _⟩ := h
  simp only [World.rangeLeft, hk.same b _ h1 rfl, hk.same r _ h6 rfl, h1, h6]

set_option maxRecDepth 100000 in
set_option maxHeartbeats 1000000 in
theorem keys1_in (F : Fence) (n : Nat) (h71 : F.fn 71) (hro : F.round = none) (hn : 1 ≤ n) (l Bm b : Nat) (S : List Ob) (J Jx : List Ob → World → Prop)
    (hY : ∀ pre x W, J pre W → pre.length < S.length → YieldAt F (n - 1) Try.prog l #[x.val] W fun e W' =>
      (e = .returned (.bool true) ∧ J (pre ++ [x]) W' ∧ KeepsWalks W W') ∨ (e = .returned (.bool false) ∧ Jx (pre ++ [x]) W'))
    (W : World) (hJ : AbidesFrom W.heap.size J) (hm : W.cell? ⟨Bm, 0, none⟩ = some (.map (some b))) (hS : SetIs W b S) (h0 : J [] W) :
    CallsIn F n Try.prog 71 #[.func (.yield l) #[] #[], .pointer (some ⟨Bm, 0, none⟩)] W fun e W' => (∃ v, e = .returned v) ∧ ((∃ ss : List Ob, ss.Perm S ∧ J ss W') ∨ (∃ pre : List Ob, True ∧ Jx pre W')) := by
  obtain ⟨w1, hrg, hW1, hf1, hsz1⟩ := Walks.start hS
  have hrun := (hrg 0).1
  have hJ1 : J [] w1 := hJ [] W w1 none h0 ⟨hf1.os, hf1.tape, hf1.output, hf1.size, fun i hi _ => hf1.block i hi (fun h => h)⟩ (fun r e => by cases e)
  have H1 := hid (And.intro hW1 (And.intro hJ1 hf1.size))
  clear hrg hW1 hf1 hsz1 hS h0 hJ1
  refine callsIn_of_wp Try.func71 rfl h71 ?_ hro
  simp only [Try.ntmps71, List.size_toArray, List.length_cons, List.length_nil, Nat.reduceAdd, Nat.reduceSub, Array.replicate_succ, Array.replicate_zero, List.push_toArray, List.append_toArray, List.nil_append, List.cons_append]
  gi_wp2
  gi_loopw [3] (fun _ wr => ∃ done, Hid (Walks wr b W.heap.size S done ∧ J done wr ∧ W.heap.size ≤ wr.heap.size)) (fun _ wr => wr.rangeLeft b W.heap.size)
  case atStart => exact ⟨[], hid H1.out⟩
  case round =>
    obtain ⟨done, hR⟩ := hrel
    have hR1 := hR.out.1
    rcases hR1.next 0 with ⟨hp, hnx⟩ | ⟨x, w', hx, hnx, hen, hW, hf, hlt⟩
    · have HP := hid hp
      clear hp hR1
      gi_wp2
      go_end0
      exact ⟨⟨_, rfl⟩, .inl ⟨done, HP.out, hR.out.2.1⟩⟩
    · have hJ2 : J done w' := hJ done wr w' (some W.heap.size) hR.out.2.1 (grown_of_fr hf) (fun r e => by cases e; exact ⟨Nat.le_refl _, hR1.iter⟩)
      have hJ3 : ∀ o, J done (w'.alloc o) := fun o => hJ done w' _ none hJ2 (World.grownBy_alloc w' o none) (fun r e => by cases e)
      have hdl : done.length < S.length := by
        have := hW.length
        simp at this
        omega
      obtain ⟨fn, tmps, assign, body, hy, hYR⟩ := hY done x _ (hJ3 (.cells #[.int .i64 x.c, .int .i64 x.s, .int .i64 x.o] 30)) hdl
      have HW := hid (hW.fr0 (fr0_alloc w' (.cells #[.int .i64 x.c, .int .i64 x.s, .int .i64 x.o] 30)))
      have HL := hid (And.intro hlt (hW.left_fr (fr0_alloc w' (.cells #[.int .i64 x.c, .int .i64 x.s, .int .i64 x.o] 30))))
      have HS := hid (Nat.le_trans hR.out.2.2 hf.size)
      simp only [Ob.val] at hnx hen hy
      clear hR hR1 hW hf hlt hJ2 hJ3 hdl
      gi_wp2
      refine hYR.mono ?_
      rintro e W3 (⟨rfl, hJ4, hk3⟩ | ⟨rfl, hJx3⟩)
      · have HH := hid (And.intro hJ4 hk3)
        clear hJ4 hk3
        gi_wp2
        go_roundw
        case rel => exact ⟨done ++ [x], hid ⟨HW.out.of_walks HH.out.2, HH.out.1, by have := HS.out; have h2 := HH.out.2.size; simp at h2; omega⟩⟩
        case measure => rw [HW.out.left_walks HH.out.2, HL.out.2]; exact HL.out.1
      · gi_wp2
        refine bodyPost_ret (results_none rfl _ _ _) rfl ?_
        exact ⟨⟨_, rfl⟩, .inr ⟨done ++ [x], trivial, hJx3⟩⟩

theorem keys_stops (F : Fence) (n : Nat) (h71 : F.fn 71) (hro : F.round = none) (hn : 1 ≤ n) (Bm b : Nat) (S : List Ob) (w : World) (hBm : Bm < w.heap.size)
    (hm : w.cell? ⟨Bm, 0, none⟩ = some (.map (some b))) (hS : SetIs w b S) :
    SeqStopsK F n Try.prog 71 #[.pointer (some ⟨Bm, 0, none⟩)] (fun x : Ob => #[x.val]) KeepsWalks (fun ss => ss.Perm S) (fun _ => True) S.length w := fun l J Jx W hW hJ _ hY h0 =>
  keys1_in F n h71 hro hn l Bm b S J Jx hY W hJ ((hW.cell (p := ⟨Bm, 0, none⟩) hBm).trans hm)
    (hS.fr (X := fun i => w.heap.size ≤ i) ⟨hW.os, hW.tape, hW.output, hW.size, fun i hi _ => hW.block i hi⟩ (by have := hS.1.lt; omega)) h0

/-- The temporaries behind a round's beginning. -/
def apTmps (sv : Value) (Bs Bx : Nat) (x : Ob) : Act :=
  { tmps := #[.slice none 0 0, sv, .pointer (some ⟨Bs, 0, none⟩), undef, .slice none 0 0, .pointer (some ⟨Bx, 0, none⟩), sv, .agg #[.int .i64 x.c, .int .i64 x.s, .int .i64 x.o], undef, undef, undef, undef, undef], defers := [] }

theorem box_own (Bx : Nat) (x : Ob) {X Y : World} {row : Option Nat} (h : BoxAt X Bx x) (hg : X.grownBy Y row) (hr : ∀ r, row = some r → ∃ o : Obj, X.heap[r]? = some o ∧ o.isCells = false) : BoxAt Y Bx x := by
  refine (hg.block Bx (lt_of_block h) (fun e => ?_)).trans h
  obtain ⟨o, ho, hc⟩ := hr Bx e.symm
  rw [show X.heap[Bx]? = _ from h] at ho
  cases ho
  cases hc

set_option maxRecDepth 100000 in
set_option maxHeartbeats 2000000 in
theorem appendSeq_any (Bm b : Nat) (S : List Ob) (hSl : S.length < 4398046511104) (w : World) (hBm : Bm < w.heap.size) (hm : w.cell? ⟨Bm, 0, none⟩ = some (.map (some b))) (hS : SetIs w b S) :
    Calls Try.prog 76 #[.slice none 0 0, .func (.func 71) #[] #[.pointer (some ⟨Bm, 0, none⟩)]] w fun e w' => ∃ (v : Value) (ss : List Ob), e = .returned v ∧ ss.Perm S ∧ OwnL w' w.heap.size v ss ∧ Below w.heap.size w w' := by
  refine (callsIn_wide (n := 4)).1 ?_
  obtain ⟨i0, hi, hz0, hz1, hz2⟩ := info_parts info30
  have HZ := hid (show Try.prog.info? 30 = some i0 ∧ i0.zero = some (.agg #[.int .i64 0, .int .i64 0, .int .i64 0]) ∧ i0.size = 3 ∧ i0.bytes = 24 from ⟨hi, hz0, hz1, hz2⟩)
  clear hz0 hz1 hz2 hi
  refine callsIn_of_wp_marks Try.func76 rfl trivial ?_ rfl
  simp only [Try.ntmps76, List.size_toArray, List.length_cons, List.length_nil, Nat.reduceAdd, Nat.reduceSub, Array.replicate_succ, Array.replicate_zero, List.push_toArray, List.append_toArray, List.nil_append, List.cons_append]
  gi_wp2
  have bS := Boxed.new w 37 (.slice none 0 0)
  have hB0 : Below w.heap.size w (w.alloc (.cells #[.slice none 0 0] 37)) := (Below.refl _ w).alloc (Nat.le_refl _) _
  have hsz : (w.alloc (.cells #[.slice none 0 0] 37)).heap.size = w.heap.size + 1 := by simp
  have hS0 : SetIs (w.alloc (.cells #[.slice none 0 0] 37)) b S := hS.fr (fr0_alloc _ _) (fun h => h)
  have hm0 : (w.alloc (.cells #[.slice none 0 0] 37)).cell? ⟨Bm, 0, none⟩ = some (.map (some b)) := ((fr0_alloc w _).cell (p := ⟨Bm, 0, none⟩) hBm (fun h => h)).trans hm
  obtain ⟨W0, hW0⟩ : ∃ W0, w.alloc (.cells #[.slice none 0 0] 37) = W0 := ⟨_, rfl⟩
  rw [hW0] at bS hB0 hsz hS0 hm0 ⊢
  clear hW0
  refine wpIn_rangeFunc_ownH (F := Fence.wide) rfl (by decide) (gf := 71) (lb := #[.pointer (some ⟨Bm, 0, none⟩)]) rfl trivial (enters_of Try.func71 (by kernel_rfl) rfl)
    (keys_stops Fence.wide _ trivial rfl (by decide) Bm b S W0 (by omega) hm0 hS0) walksK_t (walksK_b) (Below.refl _ _) (fun _ => rfl)
    (fun pre W => (∃ v, Boxed W w.heap.size 37 v ∧ W.ownsRow w.heap.size 30 3 v pre.length (flat Ob.enc pre) ∧ True) ∧ Below w.heap.size w W)
    (fun _ _ _ => False)
    (OwnFrom.and (Own.from (holdsRow_own w.heap.size w.heap.size 37 30 3 (fun pre : List Ob => pre.length) (fun pre => flat Ob.enc pre) (fun _ _ => True)) _) (ownFrom_below (Nat.le_refl _) (by omega)))
    (fun _ _ _ _ _ hs _ _ => hs)
    ⟨⟨_, bS, World.ownsRow_nil _ _ _ _, trivial⟩, hB0⟩
    (fun x a' W => ∃ Bx, w.heap.size < Bx ∧ BoxAt W Bx x ∧ a' = apTmps (.func (.func 71) #[] #[.pointer (some ⟨Bm, 0, none⟩)]) w.heap.size Bx x)
    (fun x a' _ X Y row hs hg hr => by obtain ⟨Bx, h1, h2, h3⟩ := hs; exact ⟨Bx, h1, box_own Bx x h2 hg (fun r e => (hr r e).2), h3⟩)
    ?assign ?body ?done ?stop
  case assign =>
    rintro l pre x W K ⟨⟨v, hv, hrow, _⟩, hB⟩ hK
    simp only [Ob.val]
    gi_wp2
    exact hK _ _ ((KeepsOthers.alloc _ _).from _) (KeepsWalks.alloc _ _) ⟨⟨v, hv.alloc _, hrow.alloc _, trivial⟩, hB.alloc hB.size _⟩ ⟨W.heap.size, hv.lt, alloc_block W _, rfl⟩
  case body =>
    rintro l pre x a' W _ _ ⟨⟨v, hv, hrow, _⟩, hB⟩ ⟨Bx, hBx, hbx, rfl⟩ hlt
    obtain ⟨b0, b1, b2⟩ := hbx.cells
    have cv := hv.cell
    have HR := hid (And.intro hrow hB)
    have HV := hid hv
    clear hrow hB hv hbx
    unfold apTmps
    gi_wp2_with (gi_at_builtin; refine wpListIn_append_own _ rfl _ _ 37 rfl w.heap.size 30 i0 (.agg #[.int .i64 0, .int .i64 0, .int .i64 0]) 3 24 Try.underlying37 HZ.out.1 HZ.out.2.1 HZ.out.2.2.1 HZ.out.2.2.2 rfl (by decide) _ _ _ rfl (HR.out.1.alloc _) ⟨W.heap.size, 0, none⟩ 1 1 x.enc rfl rfl ?c1 ?c2 ?c3 ?c4 ?c5 ?_)
    case c1 => exact cells_new3 _ _ _ _ _
    case c2 => exact enc3_one _
    case c3 => simp only [maxLen]; omega
    case c4 => omega
    case c5 => have := HR.out.2.size; simp; omega
    intro v' w1 hown' hgrow _
    obtain ⟨g', cap', rfl⟩ := ownsRow_succ hown'
    obtain ⟨hv1, hv2, hr2, hk2, hb2⟩ := HV.out.appended (by decide) HR.out.1 HR.out.2.size (Nat.le_refl _) hown' hgrow
    have hc1 := hv1.cell
    have hf1 := hv1.frozen
    have HE := hid (And.intro hv2 (And.intro hr2 (And.intro hk2 hb2)))
    have HK := hid (KeepsWalks.trans (KeepsWalks.trans (KeepsWalks.alloc W _) (KeepsWalks.of_grownBy hgrow (fun j o hj ho => by
      rcases (HR.out.1.alloc (.cells #[.int .i64 x.c, .int .i64 x.s, .int .i64 x.o] 30)).2 with ⟨rfl, _⟩ | ⟨g, cap, cur, rfl, _, hgb, _⟩
      · cases hj
      · cases hj; rw [hgb] at ho; cases ho; rfl))) (KeepsWalks.setCell w1 ⟨w.heap.size, 0, none⟩ (.slice (some ⟨g', 0, none⟩) (pre.length + 1) cap')))
    clear hv1 hv2 hr2 hk2 hb2 hown' hgrow cv b0 b1 b2
    gi_wp2
    refine ⟨HE.out.2.2.1.from _, HK.out, ⟨⟨_, HE.out.1, ?_, trivial⟩, HR.out.2.trans HE.out.2.2.2⟩⟩
    have := HE.out.2.1
    rw [flat_snoc]
    simpa using this
  case done =>
    rintro D zs W hD hp ⟨⟨v, hv, hrow, _⟩, hB⟩ hK
    have cS := hv.cell
    gi_wp2
    refine ⟨by simp, .inl ⟨_, _, rfl, run_takeDeferred hK, ?_⟩⟩
    exact ⟨_, results_tmp rfl _ _ _, v, zs, rfl, hp, ownsRow_putObj hrow _ hK rfl, hB.trans (belowK_b (w := w) (Nat.le_refl _) W D _ _ (by omega) hK rfl rfl)⟩
  case stop =>
    rintro D c pre W _ _ h _
    exact h.elim
end Go.Proofs.Ytjaabbjobnfmmaa

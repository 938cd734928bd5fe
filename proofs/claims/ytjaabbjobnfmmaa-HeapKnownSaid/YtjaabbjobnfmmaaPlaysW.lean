/-
  The walk of HeapPlays.
-/
import Derived.Test.YtjaabbjobnfmmaaRefOut
import Derived.Test.YtjaabbjobnfmmaaOut
import Derived.Test.YtjaabbjobnfmmaaWorksB
namespace Go.Proofs.Ytjaabbjobnfmmaa
open Go.RowKit

/-- How the loop of HeapPlays stands. -/
structure PlRel (w wr : World) (q : Nat) (k : Nat) (S L : List Ob) : Prop where
  heap : HeapIs wr (w.heap.size + 1) w.heap.size S
  ref : RefIs wr q q L
  alike : Alike S L
  len : S.length ≤ k
  fr : Fr0 w wr
  qlt : w.heap.size + 1 < q
  qin : q < wr.heap.size

section
variable {w wr w' : World} {q k : Nat} {S L : List Ob}
theorem PlRel.fr0 (h : PlRel w wr q k S L) (hf : Fr0 wr w') : PlRel w w' q k S L :=
  ⟨h.heap.fr0 hf, h.ref.fr0 hf, h.alike, h.len, h.fr.trans0 hf, h.qlt, hf.lt h.qin⟩
theorem PlRel.lenL (h : PlRel w wr q k S L) : L.length ≤ k := by rw [h.alike.perm.length_eq]; exact h.len
theorem ins_length' (S : List Ob) (x : Ob) : (ins S x).length ≤ S.length + 1 := by
  unfold ins; split <;> simp
theorem hdo_len (S : List Ob) (k : Int) (x : Ob) : (hdo S k x).2.length ≤ S.length + 1 := by
  have h1 := ins_length' S x
  have h2 : (S.erase x).length ≤ S.length := List.length_erase_le
  unfold hdo
  split
  · simp
  · split
    · exact h1
    · split
      · simp
      · split
        · simp; omega
        · simp
end

/-- How both heaps stand in the midst of a round. -/
structure Mid (w wr W : World) (q : Nat) (a : Option Addr) (b off : Nat) (l : List Dd) (S L : List Ob) : Prop where
  heap : HeapIs W (w.heap.size + 1) w.heap.size S
  ref : RefIs W q q L
  fr : Fr (fun i => i = w.heap.size ∨ i = q) wr W
  deeds : DeedsIn W a b off l

theorem PlRel.mid {w wr : World} {q k : Nat} {S L : List Ob} {a : Option Addr} {b off : Nat} {l : List Dd} (h : PlRel w wr q k S L) (hd : DeedsIn wr a b off l) : Mid w wr wr.drew q a b off l S L :=
  ⟨h.heap.fr0 (Fr.refl _ wr).drew, h.ref.fr0 (Fr.refl _ wr).drew, (Fr.refl _ wr).drew, hd.fr (Fr.refl (fun _ => False) wr).drew (fun h => h)⟩

theorem mid_do {w wr : World} {q k : Nat} {S L : List Ob} {a : Option Addr} {b off : Nat} {l : List Dd} (h : PlRel w wr q k S L) (hb : b < w.heap.size) (j : Nat) (hj : j < l.length) (code : Int) (hc : (hdo S l[j].k l[j].x).1 = code) (W : World) (T : List Ob) (hM : Mid w wr W q a b off l S T) :
    Calls Try.prog 22 #[.pointer (some ⟨w.heap.size + 1, 0, none⟩), .agg #[.int .i64 l[j].k, .int .i64 l[j].x.c, .int .i64 l[j].x.s, .int .i64 l[j].x.o]] W fun e w' => e = .returned (.int .i64 code) ∧ Mid w wr w' q a b off l (hdo S l[j].k l[j].x).2 T := by
  subst hc
  refine (do_any (w.heap.size + 1) w.heap.size S l[j].x (hM.deeds.wf _ (List.getElem_mem hj)).2 l[j].k W hM.heap).mono ?_
  rintro e w' ⟨he, hf, hh⟩
  exact ⟨he, hh, hM.ref.fr hf (fun i hi hB e => by have := h.qlt; omega), hM.fr.trans hf (fun i hi e => .inl e), hM.deeds.fr hf (fun e => by omega)⟩

theorem mid_ref {w wr : World} {q k : Nat} {S L : List Ob} {a : Option Addr} {b off : Nat} {l : List Dd} (h : PlRel w wr q k S L) (hk : k ≤ 1000) (hb : b < w.heap.size) (j : Nat) (hj : j < l.length) (code : Int) (hc : (rdo L l[j].k l[j].x).1 = code) (W : World) (T : List Ob) (hM : Mid w wr W q a b off l T L) :
    Calls Try.prog 39 #[.pointer (some ⟨q, 0, none⟩), .agg #[.int .i64 l[j].k, .int .i64 l[j].x.c, .int .i64 l[j].x.s, .int .i64 l[j].x.o]] W fun e w' => e = .returned (.int .i64 code) ∧ Mid w wr w' q a b off l T (rdo L l[j].k l[j].x).2 := by
  subst hc
  refine (refDo_any q q L (by have := h.lenL; omega) l[j].x (hM.deeds.wf _ (List.getElem_mem hj)).2 l[j].k W (by have := hM.fr.size; have := h.qin; omega) hM.ref).mono ?_
  rintro e w' ⟨he, hf, hr⟩
  exact ⟨he, hM.heap.fr hf (by have := h.qlt; omega) (by have := h.qlt; omega), hr, hM.fr.trans hf (fun i hi e => .inr e), hM.deeds.fr hf (fun e => by have := h.qlt; omega)⟩

theorem Mid.done {w wr W : World} {q k : Nat} {S L : List Ob} {a : Option Addr} {b off : Nat} {l : List Dd} {d : Dd} (h : PlRel w wr q k S L) (hM : Mid w wr W q a b off l (hdo S d.k d.x).2 (rdo L d.k d.x).2) :
    PlRel w W q (k + 1) (hdo S d.k d.x).2 (rdo L d.k d.x).2 :=
  ⟨hM.heap, hM.ref, (alike_do h.alike d.k d.x).2, Nat.le_trans (hdo_len _ _ _) (by have := h.len; omega), h.fr.trans hM.fr (fun i hi e => by have := h.qlt; omega), h.qlt, hM.fr.lt h.qin⟩

/-- A slice of objects of the call's own, and its block. -/
theorem OwnL.form2 {w : World} {B : Nat} {v : Value} {L : List Ob} (h : OwnL w B v L) : ∃ a g cap, v = .slice a L.length cap ∧
    (∀ k, k < L.length → ∀ W, (Instr.indexAt 37 (.slice a L.length cap) (.int .i64 k)).run Try.prog W = .ok (.pointer (some ⟨g, k * 3, none⟩)) W) ∧
    (∀ k (hk : k < L.length), w.cell? ⟨g, k * 3, none⟩ = some (.int .i64 L[k].c) ∧ w.cell? ⟨g, k * 3 + 1, none⟩ = some (.int .i64 L[k].s) ∧ w.cell? ⟨g, k * 3 + 2, none⟩ = some (.int .i64 L[k].o)) ∧
    (0 < L.length → B ≤ g ∧ g < w.heap.size ∧ ∃ cur, w.heap[g]? = some (.cells cur 30 (0, 0))) := by
  obtain ⟨a, g, cap, rfl, h1, h2, h3, h4⟩ := h.form
  refine ⟨a, g, cap, rfl, h1, h2, fun h0 => ⟨(h4 h0).1, (h4 h0).2, ?_⟩⟩
  rcases h.2 with ⟨_, e0⟩ | ⟨g', cap', cur, e1, hb, hg, _⟩
  · omega
  · obtain ⟨a', g2, cap2, e2, ha2, _, _, h5, h6, _⟩ := own_form h
    have hobn : (Value.slice a L.length cap).ownBlock = some g' := by rw [e1]; rfl
    have := h3 g' hobn
    subst this
    exact ⟨cur, hg⟩

/-- How the inner loop of HeapPlays stands: j objects have been compared. -/
structure InRel (WX wr : World) (g1 g2 : Nat) (L : List Ob) (j : Nat) : Prop where
  fr : Fr0 WX wr
  one : ∀ i (hi : i < L.length), j ≤ i → wr.cell? ⟨g1, i * 3, none⟩ = some (.int .i64 L[i].c) ∧ wr.cell? ⟨g1, i * 3 + 1, none⟩ = some (.int .i64 L[i].s) ∧ wr.cell? ⟨g1, i * 3 + 2, none⟩ = some (.int .i64 L[i].o)
  two : ∀ i (hi : i < L.length), wr.cell? ⟨g2, i * 3, none⟩ = some (.int .i64 L[i].c) ∧ wr.cell? ⟨g2, i * 3 + 1, none⟩ = some (.int .i64 L[i].s) ∧ wr.cell? ⟨g2, i * 3 + 2, none⟩ = some (.int .i64 L[i].o)
  blk : 0 < L.length → ∃ cur, wr.heap[g1]? = some (.cells cur 30 (0, 0))
  ne : 0 < L.length → g1 ≠ g2 ∧ WX.heap.size ≤ g1

theorem InRel.step {WX wr : World} {g1 g2 : Nat} {L : List Ob} {j : Nat} (h : InRel WX wr g1 g2 L j) (hj : j < L.length) (v : Value) : InRel WX (wr.drew.setCell ⟨g1, j * 3 + 2, none⟩ v) g1 g2 L (j + 1) := by
  have hne := h.ne (by omega)
  have hc : ∀ b o, (⟨g1, j * 3 + 2, none⟩ : Addr) ≠ ⟨b, o, none⟩ → (wr.drew.setCell ⟨g1, j * 3 + 2, none⟩ v).cell? ⟨b, o, none⟩ = wr.cell? ⟨b, o, none⟩ := fun b o he => World.cell?_setCell_other wr.drew _ _ v he
  refine ⟨h.fr.drew.setCell (fun hi => by have := hne.2; simp at hi; omega) v, fun i hi hij => ?_, fun i hi => ?_, fun h0 => ?_, h.ne⟩
  · obtain ⟨o1, o2, o3⟩ := h.one i hi (by omega)
    refine ⟨(hc _ _ ?_).trans o1, (hc _ _ ?_).trans o2, (hc _ _ ?_).trans o3⟩ <;> (intro e; injection e with e1 e2; omega)
  · obtain ⟨o1, o2, o3⟩ := h.two i hi
    refine ⟨(hc _ _ ?_).trans o1, (hc _ _ ?_).trans o2, (hc _ _ ?_).trans o3⟩ <;> (intro e; injection e with e1 e2; exact hne.1 e1)
  · obtain ⟨cur, hb⟩ := h.blk h0
    exact ⟨_, setCell_block (w := wr.drew) hb _ _⟩

theorem InRel.fr0 {WX wr w' : World} {g1 g2 : Nat} {L : List Ob} {j : Nat} (h : InRel WX wr g1 g2 L j) (hf : Fr0 wr w') : InRel WX w' g1 g2 L j := by
  have hc : ∀ b o v, wr.cell? ⟨b, o, none⟩ = some v → w'.cell? ⟨b, o, none⟩ = some v := fun b o v hv => (hf.cell (p := ⟨b, o, none⟩) (World.block_lt_of_cell? wr _ hv) (fun h => h)).trans hv
  refine ⟨h.fr.trans0 hf, fun i hi hij => ?_, fun i hi => ?_, fun h0 => ?_, h.ne⟩
  · obtain ⟨o1, o2, o3⟩ := h.one i hi hij
    exact ⟨hc _ _ _ o1, hc _ _ _ o2, hc _ _ _ o3⟩
  · obtain ⟨o1, o2, o3⟩ := h.two i hi
    exact ⟨hc _ _ _ o1, hc _ _ _ o2, hc _ _ _ o3⟩
  · obtain ⟨cur, hb⟩ := h.blk h0
    exact ⟨cur, hf.at hb (fun h => h)⟩

set_option maxRecDepth 100000 in
set_option maxHeartbeats 4000000 in
theorem heapPlays_walk (a : Option Addr) (b off cap : Nat) (l : List Dd) (w : World) (h : DeedsIn w a b off l) :
    Calls Try.prog 15 #[.slice a l.length cap] w fun e w' => e = .returned (.bool true) ∧ Fr0 w w' := by
  have hsm := h.small
  have HD := hid h
  clear h
  go_enter Try.func15, Try.ntmps15
  go_wp2_with fail
  refine (new_any _).mono ?_
  rintro e w1 ⟨rfl, hf1, hh1⟩
  have H1 := hid (And.intro hf1 hh1)
  clear hf1 hh1
  go_wp2_with fail
  refine (refNew_any _).mono ?_
  rintro e w2 ⟨rfl, hf2, hr2⟩
  have hq := lt_of_block H1.out.2.1
  have H0 := hid (show PlRel w w2 w1.heap.size 0 [] [] from ⟨H1.out.2.fr0 hf2, hr2, alike_nil, Nat.le_refl _, H1.out.1.trans0 hf2, hq, by obtain ⟨v, h, _⟩ := hr2; exact lt_of_block h⟩)
  clear hf2 hr2 H1
  generalize w1.heap.size = q at H0 hq ⊢
  go_wp2_with fail
  go_loopw [5] (fun i wr => ∃ k : Nat, i = .int .i64 k ∧ k ≤ l.length ∧ k ≤ 150 ∧ Hid (∃ S L, PlRel w wr q k S L)) (fun i _ => l.length - (intOf i).toNat)
  case atStart => exact ⟨0, rfl, Nat.zero_le _, Nat.zero_le _, hid ⟨_, _, H0.out⟩⟩
  case round =>
    obtain ⟨k, rfl, hk, hk1, hR⟩ := hrel
    obtain ⟨S, L, hR1⟩ := hR.out
    have HR := hid hR1
    clear hR hR1 H0
    by_cases hgo : k < l.length ∧ k < 150
    · obtain ⟨hlt, h100⟩ := hgo
      have hdi := HD.out.fr HR.out.fr (fun h => h)
      have hix := hdi.index cap k hlt
      obtain ⟨c0, c1, c2, c3⟩ := hdi.cells k hlt
      have hxw := (hdi.wf _ (List.getElem_mem hlt)).2
      have hbl := hdi.lt (by omega)
      have hbw := HD.out.lt (by omega)
      have he := (alike_do HR.out.alike l[k].k l[k].x).1
      have HDo := hid (fun W T hM => mid_do (a := a) (b := b) (off := off) (l := l) HR.out hbw k hlt (hdo S l[k].k l[k].x).1 rfl W T hM)
      have HRd := hid (fun W T hM => mid_ref (a := a) (b := b) (off := off) (l := l) HR.out (by omega) hbw k hlt (hdo S l[k].k l[k].x).1 he.symm W T hM)
      have hM0 := hid (HR.out.mid hdi)
      clear hdi he hbl hxw
      generalize hcode : (hdo S l[k].k l[k].x).1 = code at HDo HRd
      clear hcode
      have hcc : (code != code) = false := by simp
      go_upto_region 5 with (fail)
      go_region_held3 (fun w' => w'.cell? ⟨b, off + k * 4, none⟩ = some (.int .i64 l[k].k) ∧ w'.cell? ⟨b, off + k * 4 + 1, none⟩ = some (.int .i64 l[k].x.c) ∧ w'.cell? ⟨b, off + k * 4 + 2, none⟩ = some (.int .i64 l[k].x.s) ∧ w'.cell? ⟨b, off + k * 4 + 3, none⟩ = some (.int .i64 l[k].x.o)) (go_keep)
        ((first
          | (go_at_call 22; refine (HDo.out _ _ (by first | exact hM0.out | exact hMB.out)).mono ?_; rintro e wA ⟨rfl, hA⟩; obtain ⟨a0, a1, a2, a3⟩ := hA.deeds.cells k hlt; have hMA := hid hA; clear hA)
          | (go_at_call 39; refine (HRd.out _ _ (by first | exact hM0.out | exact hMA.out)).mono ?_; rintro e wB ⟨rfl, hB⟩; obtain ⟨b0, b1, b2, b3⟩ := hB.deeds.cells k hlt; have hMB := hid hB; clear hB)))
      all_goals
        obtain ⟨S2, L2, HP⟩ : ∃ S2 L2, Hid (PlRel w _ q (k + 1) S2 L2) := by first | exact ⟨_, _, hid (Mid.done HR.out hMB.out)⟩ | exact ⟨_, _, hid (Mid.done HR.out hMA.out)⟩
        clear hMA hMB a0 a1 a2 a3 b0 b1 b2 b3 c0 c1 c2 c3 hM0 HDo HRd
        have hLl := HP.out.lenL
        have hSl := HP.out.len
        go_wp2_with fail
        refine (out_any (w.heap.size + 1) w.heap.size S2 (by omega) _ HP.out.heap).mono ?_
        rintro e w3 ⟨v1, L1, rfl, hp1, ha1, ho1, hf1⟩
        obtain rfl : L1 = L2 := Asc.unique ha1 HP.out.alike.asc (hp1.trans HP.out.alike.perm.symm)
        have HP3 := hid (HP.out.fr0 hf1)
        have HO1 := hid ho1
        have HP0 := HP
        have HF0 := hid hf1
        clear HP hp1 ha1 ho1 hf1
        go_wp2_with fail
        refine (refOut_any q q L1 (by omega) _ HP3.out.ref).mono ?_
        rintro e w4 ⟨v2, rfl, ho2, hf2⟩
        obtain ⟨WX, HX⟩ : ∃ WX, Hid (PlRel w WX q (k + 1) S2 L1 ∧ Fr0 WX w4 ∧ OwnL w4 WX.heap.size v1 L1 ∧ OwnL w4 w3.heap.size v2 L1 ∧ OwnL w3 WX.heap.size v1 L1) := ⟨_, hid ⟨HP0.out, HF0.out.trans0 hf2, own_fr0 HO1.out hf2, ho2, HO1.out⟩⟩
        clear HP0 HF0 HO1 ho2 hf2 HP3
        have HP4 := hid (HX.out.1.fr0 HX.out.2.1)
        have HD4 := hid (HD.out.fr HP4.out.fr (fun h => h))
        obtain ⟨d0, d1, d2, d3⟩ := HD4.out.cells k hlt
        obtain ⟨ad1, g1, cap1, rfl, ix1, cs1, gl1⟩ := HX.out.2.2.1.form2
        obtain ⟨ad2, g2, cap2, rfl, ix2, cs2, gl2⟩ := HX.out.2.2.2.1.form2
        have HI := hid (show InRel WX w4 g1 g2 L1 0 from ⟨HX.out.2.1, fun i hi _ => cs1 i hi, fun i hi => cs2 i hi, fun h0 => (gl1 h0).2.2, fun h0 => ⟨by
          have h2 := (gl2 h0).1
          obtain ⟨_, g1', _, e1, _, _, gl1'⟩ := HX.out.2.2.2.2.form2
          obtain ⟨h3, _, cur, h5⟩ := gl1 h0
          have : g1 < w3.heap.size := by
            have := (HX.out.2.2.2.2.lt g1 (by
              rcases HX.out.2.2.1.2 with ⟨_, e0⟩ | ⟨g', cap', cur', e2, _⟩
              · omega
              · rw [e2]
                have hh := HX.out.2.2.1.form
                obtain ⟨_, gg, _, e4, ixx, _⟩ := hh
                have k1 := ix1 0 h0 w4
                rw [e2] at k1
                have k2 := index_of0 (n := L1.length) (a := some ⟨g', 0, none⟩) Try.underlying37 w4 (size30' w4) (fun _ => rfl) cap' 0 h0
                rw [k2] at k1
                injection k1 with k3 k4
                injection k3 with k5
                injection k5 with k6
                injection k6 with k7
                rw [k7]; rfl)).2
            exact this
          omega, (gl1 h0).1⟩⟩)
        clear cs1 gl1 cs2 gl2
        go_upto_region 8 with (fail)
        have e0 : ∀ qx : Ext w4, qx.out.cell? ⟨b, off + k * 4 + 1, none⟩ = some (.int .i64 l[k].x.c) := fun qx => qx.cell d1
        have e1 : ∀ qx : Ext w4, qx.out.cell? ⟨b, off + k * 4 + 2, none⟩ = some (.int .i64 l[k].x.s) := fun qx => qx.cell d2
        have e2 : ∀ qx : Ext w4, qx.out.cell? ⟨b, off + k * 4 + 3, none⟩ = some (.int .i64 l[k].x.o) := fun qx => qx.cell d3
        have hxw := (HD4.out.wf _ (List.getElem_mem hlt)).2
        have hHas := fun (qx : Ext w4) => has_any (w.heap.size + 1) w.heap.size S2 l[k].x hxw qx.out (HP4.out.heap.fr0 qx.fr)
        have hRas := fun (qx : Ext w4) => refHas_any q q L1 (by omega) l[k].x qx.out (HP4.out.ref.fr0 qx.fr)
        have hMan := fun (qx : Ext w4) => many_any (w.heap.size + 1) w.heap.size S2 (by omega) l[k].x.c qx.out (HP4.out.heap.fr0 qx.fr)
        have hRan := fun (qx : Ext w4) => refMany_any q q L1 (by omega) l[k].x.c qx.out (HP4.out.ref.fr0 qx.fr)
        have eqm : decide (l[k].x ∈ S2) = decide (l[k].x ∈ L1) := by
          rw [Bool.eq_iff_iff]
          simp only [decide_eq_true_eq]
          exact HP4.out.alike.same.mem _
        rw [eqm] at hHas
        rw [← manyL_perm HP4.out.alike.perm] at hMan
        have hRan2 : ∀ (qx : Ext w4), Calls Try.prog 42 #[.pointer (some ⟨q, 0, none⟩), .int .i64 l[k].x.c] qx.out fun e w' => e = .returned (.int .i64 (manyL L1 l[k].x.c)) ∧ Fr0 qx.out w' := fun qx => (hRan qx).mono fun e w' ⟨he, hw⟩ => ⟨he, hw ▸ Fr.refl _ _⟩
        have H1 := hid hHas
        have H2 := hid hRas
        have H3 := hid hMan
        have H4 := hid hRan2
        clear hHas hRas hMan hRan hRan2 eqm hxw d0 d1 d2 d3
        generalize decide (l[k].x ∈ L1) = bb at H1 H2
        generalize manyL L1 l[k].x.c = nn at H3 H4
        have bbb : (bb != bb) = false := by simp
        have nnn : ((nn : Int) != (nn : Int)) = false := by simp
        refine wp_region_ext (by kernel_rfl) (by kernel_rfl) ?_
        repeat (refine wpQuiet_step (fun K hK => ?_); go_simp; first | (refine hK _ ?_; clear hK K) | (apply Exists.intro; refine ⟨fun _ => ?_, hK _ ?_⟩; (first | (go_at_call 24; refine calls_ext (H1.out _)) | (go_at_call 41; refine calls_ext (H2.out _)) | (go_at_call 25; refine calls_ext (H3.out _)) | (go_at_call 42; refine calls_ext (H4.out _))); clear hK K))
        refine wpQuiet_nil ?_
        intro _ hw'
        obtain ⟨qx, hw''⟩ := hw'
        subst hw''
        have hW1 := qx.fr
        generalize qx.out = W5 at hW1 ⊢
        clear qx
        have HI5 := hid (HI.out.fr0 hW1)
        clear hW1 HI e0 e1 e2 H1 H2 H3 H4 HP4 HD4 bbb nnn
        go_wp2_with fail
        go_loopw [8] (fun i wr => ∃ j : Nat, i = .int .i64 j ∧ j ≤ L1.length ∧ Hid (InRel WX wr g1 g2 L1 j)) (fun i _ => L1.length - (intOf i).toNat)
        case atStart => exact ⟨0, rfl, Nat.zero_le _, HI5⟩
        case round =>
          obtain ⟨j, rfl, hj, hI⟩ := hrel
          by_cases hlt2 : j < L1.length
          · have i1 := ix1 j hlt2
            have i2 := ix2 j hlt2
            obtain ⟨o0, o1, o2⟩ := hI.out.one j hlt2 (Nat.le_refl _)
            obtain ⟨t0, t1, t2⟩ := hI.out.two j hlt2
            obtain ⟨cur, hcur⟩ := hI.out.blk (by omega)
            have hfz := free_of_block hcur (j * 3 + 2)
            have hne := fun W => neq30 L1[j] L1[j] W
            rw [decide_eq_true rfl] at hne
            simp only [Ob.val] at hne
            have hgd := guard30
            have HS := hid (hI.out.step hlt2 (.int .i64 (-7)))
            clear hcur
            go_wp2
            go_region
            go_wp2
            go_roundw
            case rel => exact ⟨j + 1, by go_num, by omega, HS⟩
            case measure => simp [intOf]; omega
          · have HE := hid (show ∃ S L, PlRel w wr q (k + 1) S L from ⟨S2, L1, HX.out.1.fr0 hI.out.fr⟩)
            clear hI HX ix1 ix2
            go_wp2
            go_roundw
            case rel => exact ⟨k + 1, by go_num, by omega, by omega, HE⟩
            case measure => simp [intOf]; omega
    · have hex : (¬ k < l.length) ∨ (k < l.length ∧ ¬ k < 150) := by omega
      clear hgo
      rcases hex with q1 | ⟨q1, q2⟩
      all_goals
        go_wp2_with (go_at_call 18; refine (works_any _).mono ?_; rintro e w5 ⟨rfl, hf5⟩)
        go_ret
        exact ⟨by rfl, HR.out.fr.trans0 hf5⟩
end Go.Proofs.Ytjaabbjobnfmmaa

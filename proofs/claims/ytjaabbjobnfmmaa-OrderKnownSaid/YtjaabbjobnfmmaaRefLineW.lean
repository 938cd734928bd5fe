/-
  The document's Line, walked: it answers as the program's.
-/
import Derived.Test.YtjaabbjobnfmmaaRefMem
namespace Go.Proofs.Ytjaabbjobnfmmaa
open Go.RowKit

/-- The ways of the most urgent call. -/
theorem stuck_ways (S : List Sp) (T : List Ob) (c : Nat) : ((spOf S c).d.k = 2 ∧ stuckB (spOf S) T c = false) ∨
    ((spOf S c).d.k ≠ 2 ∧ (spOf S c).d.k = 3 ∧ (spOf S c).d.x ∈ T ∧ stuckB (spOf S) T c = false) ∨ ((spOf S c).d.k ≠ 2 ∧ (spOf S c).d.k ≠ 3 ∧ (spOf S c).d.x ∉ T ∧ stuckB (spOf S) T c = false) ∨
    ((spOf S c).d.k ≠ 2 ∧ (spOf S c).d.k = 3 ∧ (spOf S c).d.x ∉ T ∧ stuckB (spOf S) T c = true ∧ kindO T (spOf S c).d.x = 1) ∨ ((spOf S c).d.k ≠ 2 ∧ (spOf S c).d.k ≠ 3 ∧ (spOf S c).d.x ∈ T ∧ stuckB (spOf S) T c = true ∧ kindO T (spOf S c).d.x = 3) := by
  unfold stuckB kindO
  by_cases h2 : (spOf S c).d.k = 2
  · simp [h2]
  · by_cases h3 : (spOf S c).d.k = 3 <;> by_cases hT : (spOf S c).d.x ∈ T <;> simp [h2, h3, hT]

set_option maxRecDepth 100000 in
set_option maxHeartbeats 100000000 in
theorem refLine_ok (a : Option Addr) (b off cap : Nat) (S : List Sp) (w : World) (h : SpansIn w a b off S) (hch : chk S = 0) :
    Calls Try.prog 27 #[.slice a S.length cap] w fun e w' => (∃ v, e = .returned (.tuple #[v, .int .i64 (lineR S).1]) ∧ IntsOwn w w' v (lineR S).2) ∧ Fr0 w w' := by
  obtain ⟨i0, hi, hz0, hz1, hz2⟩ := info_parts info3
  have HZ := hid (show Try.prog.info? 3 = some i0 ∧ i0.zero = some (.int .i64 0) ∧ i0.size = 1 ∧ i0.bytes = 8 from ⟨hi, hz0, hz1, hz2⟩)
  have HCK := refCheck_any a b off cap S w h
  have H := hid h
  have HCH := hid hch
  have hln : Hid (S.length ≤ 256) := hid (chk_may hch).1
  have HRL : Hid ((lineM S = none → lineR S = (270, [])) ∧ ∀ o, lineM S = some o → lineR S = (0, o)) := hid ⟨fun e => by unfold lineR; rw [if_pos hch, e], fun o e => by unfold lineR; rw [if_pos hch, e]⟩
  rw [hch] at HCK
  have hmk := makeBools S.length (by have := hln.out; omega)
  clear h hch hi hz0 hz1 hz2
  go_enter Try.func27, Try.ntmps27
  go_wp2_with fail
  refine HCK.mono ?_
  rintro e w1 ⟨rfl, hf1⟩
  have HF1 := hid hf1
  clear hf1 HCK
  go_wp2_with fail
  refine (refNew_any _).mono ?_
  rintro e w2 ⟨rfl, hf2, hh2⟩
  have HH : Hid (RLn w (w2.alloc (.cells (Array.replicate S.length (Value.bool false)) 4)) w2.heap.size w1.heap.size w1.heap.size S.length (fun i => decide (i < 0)) [] (.slice none 0 0) []) := hid (by
    have hs := HF1.out.size
    have hs2 := hf2.size
    refine ⟨(HF1.out.trans0 hf2).alloc _, ?_, hh2.fr0 (fr0_alloc _ _), World.ownsRow_nil _ _ _ _, by omega, hs, by simp; omega⟩
    have := alloc_block w2 (.cells (Array.replicate S.length (Value.bool false)) 4)
    unfold LRow BRow
    rw [this]
    congr 2
    apply Array.ext'
    simp [List.map_const'])
  clear hf2 hh2 HF1
  generalize hg0 : w2.heap.size = g at HH
  generalize w1.heap.size = p at HH ⊢
  go_wp2_with fail
  clear hmk
  rw [hg0] at *
  clear hg0
  generalize w2.alloc (.cells (Array.replicate S.length (Value.bool false)) 4) = w3 at HH ⊢
  go_loopw [7] (fun i wr => ∃ k : Nat, i = .int .i64 k ∧ k ≤ S.length ∧ Hid (RLn w wr g p p S.length (fun i => decide (i < k)) [] (.slice none 0 0) [])) (fun i _ => S.length - (intOf i).toNat)
  case atStart => exact ⟨0, rfl, Nat.zero_le _, HH⟩
  case round =>
    obtain ⟨k, rfl, hk, hR⟩ := hrel
    clear HH
    have hlS := hln.out
    by_cases hlt : k < S.length
    · have i60 := fun W => index60 g S.length S.length k hlt W
      have d1 := hR.out.cell k hlt
      have d2 : wr.frozen? ⟨g, k, none⟩ = false := BRow.free hR.out.row k
      have HN := hid ((hR.out.put k true).congr (lf' := fun i => decide (i < k + 1)) (fun i _ => by
        by_cases e : i = k
        · subst e; simp
        · have : (i < k) ↔ (i < k + 1) := by omega
          simp [e, this]))
      clear hR
      go_wp2
      go_roundw
      case rel => exact ⟨k + 1, by go_num, by omega, HN⟩
      case measure => simp [intOf]; omega
    · have hkl : k = S.length := by omega
      subst hkl
      have HA0 : Hid (RLn w wr g p p S.length (lfF []) [] (.slice none 0 0) []) := hid (hR.out.congr (fun i hi => by simp [lfF, hi]))
      have HR0 : Hid (RAt S [] [] [] (uI S []) (S.length + 1)) := hid ⟨⟨List.nodup_nil, by simp⟩, alike_nil, Nat.le_refl _, rfl, by simp, (rrun_line HCH.out).symm⟩
      have hU : Calls Try.prog 59 _ wr _ := urgent_any a b off cap S g S.length (lfF []) wr (H.out.fr0 HA0.out.fr) HA0.out.row
      clear hR hk hlt
      go_wp2_with fail
      refine hU.mono ?_
      rintro e w4 ⟨rfl, hf4⟩
      clear hU
      have HA1 := hid (HA0.out.fr0 hf4)
      clear hf4 HA0
      obtain ⟨z0, hz0⟩ : ∃ z0, z0 = optI (uI S []) := ⟨_, rfl⟩
      have HZ0 := hid hz0
      rw [show optI (best (fun i => (spOf S i).t) (urgP (spOf S) (lfF [])) S.length) = z0 from hz0.symm]
      clear hz0
      go_wp2_with fail
      obtain ⟨wo, rfl⟩ : ∃ wo : World, wo = wr := ⟨_, rfl⟩
      go_loopw [8, 9] (fun v m wr => ∃ mo : Option Nat, m = .int .i64 (optI mo) ∧ Hid (∃ out T L f, RLn w wr g p p S.length (lfF out) L v out ∧ RAt S out T L mo f)) (fun v _ _ => S.length - sliceLen v)
      case atStart => exact ⟨uI S [], by rw [HZ0.out], hid ⟨[], [], [], S.length + 1, HA1.out, HR0.out⟩⟩
      case round =>
        obtain ⟨mo, rfl, hR⟩ := hrel
        clear HA1 HR0
        obtain ⟨out, T, L, f, hA, hr⟩ := hR.out
        have HA := hid hA
        have HR := hid hr
        clear hR hA hr
        cases mo with
        | none =>
          have HE := hid (HRL.out.2 _ HR.out.done)
          simp only [optI]
          go_wp2
          go_ret2
          rw [HE.out]
          exact ⟨⟨_, rfl, HA.out.own⟩, HA.out.fr⟩
        | some c =>
          have HC := hid (uI_some HR.out.mo.symm)
          have hcn := HC.out.1
          have hc0 : decide (0 ≤ (c : Int)) = true := by simp
          have ic := fun W => H.out.index cap c hcn W
          obtain ⟨-, c1, c2, c3, -, -⟩ := (H.out.fr0 HA.out.fr).at c hcn
          rw [← spOf_get hcn] at c1 c2 c3
          have HH := hid (refHas_any p p L (by have := HR.out.len; have := HR.out.good.len; have := hln.out; omega) (spOf S c).d.x wr HA.out.ref)
          have hTL : decide ((spOf S c).d.x ∈ L) = decide ((spOf S c).d.x ∈ T) := by
            have := HR.out.al.same.mem (spOf S c).d.x
            simp [this]
          rw [hTL] at HH
          clear hTL hcn
          simp only [optI]
          rcases stuck_ways S T c with ⟨q2, hst⟩ | ⟨q2, q3, qT, hst⟩ | ⟨q2, q3, qT, hst⟩ | ⟨q2, q3, qT, hst, hko⟩ | ⟨q2, q3, qT, hst, hko⟩
          · have q2b : ((spOf S c).d.k != 2) = false := by simp [q2]
            have HST0 := hid hst
            clear q2 hst
            generalize decide ((spOf S c).d.x ∈ T) = bT at HH
            go_wp2_with fail
            refine HH.out.mono ?_
            rintro e w1 ⟨rfl, hf1⟩
            clear c1 c2 c3
            have HA1 := hid (HA.out.fr0 hf1)
            clear hf1
            have kc := ((H.out.fr0 HA1.out.fr).at c HC.out.1).1
            rw [← spOf_get HC.out.1] at kc
            have HK : Hid (rwho S out T c = some c) := hid (by unfold rwho; rw [HST0.out]; rfl)
            clear HST0
            have hkn := (rwho_lt HR.out.mo.symm HK.out).1
            have hk0 : decide ((c : Int) < 0) = false := by simp
            have hB := refBad_any a b off cap S g S.length (lfF out) c HC.out.1 w1 (H.out.fr0 HA1.out.fr) HA1.out.row
            have ik := fun W => H.out.index cap c hkn W
            have HKN := hid hkn
            go_wp2_with fail
            refine hB.mono ?_
            rintro e w4 ⟨rfl, hf4⟩
            clear hB
            have HA4 := hid (HA1.out.fr0 hf4)
            clear hf4
            have hkk := ((H.out.fr0 HA4.out.fr).at c hkn).1
            rw [← spOf_get hkn] at hkk
            clear hkn
            by_cases hk1 : (spOf S c).d.k = 1
            · have hk1b : ((spOf S c).d.k == 1) = true := by simp [hk1]
              cases hb : bdI S (lfF out) c S.length with
              | none =>
                have HX : Hid (rpick S out c c = c) := hid (by unfold rpick; rw [if_pos hk1, hb]; rfl)
                have hxn := HKN.out
                clear hb hk1 HKN hkk
                simp only [optI]
                have HXN := hid hxn
                have hwf : Hid (spOf S c).wf := hid (by rw [spOf_get HXN.out]; exact H.out.wf _ (List.getElem_mem HXN.out))
                have ix := fun W => H.out.index cap c hxn W
                obtain ⟨x0, x1, x2, x3, -, -⟩ := (H.out.fr0 HA4.out.fr).at c hxn
                rw [← spOf_get hxn] at x0 x1 x2 x3
                have HDo : Hid (Calls Try.prog 39 #[.pointer (some ⟨p, 0, none⟩), .agg #[.int .i64 (spOf S c).d.k, .int .i64 (spOf S c).d.x.c, .int .i64 (spOf S c).d.x.s, .int .i64 (spOf S c).d.x.o]] w4 fun e w' => e = .returned (.int .i64 (rdo L (spOf S c).d.k (spOf S c).d.x).1) ∧ RLn w w' g p p S.length (lfF out) (rdo L (spOf S c).d.k (spOf S c).d.x).2 u8 out) :=
                  hid ((refDo_any p p L (by have := HR.out.len; have := HR.out.good.len; have := hln.out; omega) (spOf S c).d.x hwf.out.1.2 (spOf S c).d.k w4 HA4.out.bB HA4.out.ref).mono fun e w' ⟨he, hf, hh⟩ => ⟨he, HA4.out.deed hf hh⟩)
                obtain ⟨f', hst⟩ := HR.out.step HK.out HX.out
                have HST := hid hst
                clear hst hxn
                go_wp2_with fail
                refine HDo.out.mono ?_
                rintro e w5 ⟨rfl, hA5⟩
                clear HDo x0 x1 x2 x3 ix
                have i60 := fun W => index60 g S.length S.length c HXN.out W
                have d1 := hA5.cell c HXN.out
                have d2 : w5.frozen? ⟨g, c, none⟩ = false := BRow.free hA5.row c
                have HA6 := hid ((hA5.put c false).congr (fun i _ => lfF_put out c i))
                clear hA5
                generalize (rdo L (spOf S c).d.k (spOf S c).d.x).2 = L2 at HA6 HST
                go_upto_region 28 with (fail)
                clear d1 d2 i60
                generalize w5.setCell ⟨g, c, none⟩ (.bool false) = w6 at HA6 ⊢
                have hown := hid HA6.out.own
                have hol := HR.out.good.len
                have hol2 := hln.out
                go_wp2_with (at_builtin; refine wpList_append_own _ rfl _ _ 46 rfl w.heap.size 3 i0 (.int .i64 0) 1 8 Try.underlying46 HZ.out.1 HZ.out.2.1 HZ.out.2.2.1 HZ.out.2.2.2 rfl (by decide) _ _ _ rfl (hown.out.alloc _) ⟨w6.heap.size, 0, none⟩ 1 1 [.int .i64 c] rfl rfl ?c1 ?c2 ?c3 ?c4 ?c5 ?_)
                case c1 => exact cells_new1 _ _ _
                case c2 => simp [Value.oneCell']
                case c3 => simp only [maxLen]; omega
                case c4 => omega
                case c5 => have := HA6.out.fr.size; simp at this ⊢; omega
                intro v' w7 hown' hg' _
                have HA7 := hid (HA6.out.snoc hown' hg')
                clear hown' hg' hown
                have hU : Calls Try.prog 59 _ w7 _ := urgent_any a b off cap S g S.length (lfF (out ++ [c])) w7 (H.out.fr0 HA7.out.fr) HA7.out.row
                go_wp2_with fail
                refine hU.mono ?_
                rintro e w8 ⟨rfl, hf8⟩
                clear hU
                have HA8 := hid (HA7.out.fr0 hf8)
                clear hf8
                have hm1 : Hid (sliceLen u8 = out.length) := hid (by obtain ⟨a', cap', e⟩ := HA.out.len; rw [e]; rfl)
                have hm2 : Hid (sliceLen v' = out.length + 1) := hid (by obtain ⟨a', cap', e⟩ := HA7.out.len; rw [e]; simp [sliceLen])
                have hm3 : Hid (out.length < S.length) := hid (by have := HST.out.good.len; simp at this; omega)
                go_wp2
                go_roundw
                case rel => exact ⟨uI S (out ++ [c]), rfl, hid ⟨_, _, _, f', HA8.out, HST.out⟩⟩
                case measure => rw [hm1.out, hm2.out]; have := hm3.out; omega
              | some x =>
                have HX : Hid (rpick S out c c = x) := hid (by unfold rpick; rw [if_pos hk1, hb]; rfl)
                have hxn := best_lt _ hb
                have hx0 : decide (0 ≤ (x : Int)) = true := by simp
                clear hb hk1
                simp only [optI]
                have HXN := hid hxn
                have hwf : Hid (spOf S x).wf := hid (by rw [spOf_get HXN.out]; exact H.out.wf _ (List.getElem_mem HXN.out))
                have ix := fun W => H.out.index cap x hxn W
                obtain ⟨x0, x1, x2, x3, -, -⟩ := (H.out.fr0 HA4.out.fr).at x hxn
                rw [← spOf_get hxn] at x0 x1 x2 x3
                have HDo : Hid (Calls Try.prog 39 #[.pointer (some ⟨p, 0, none⟩), .agg #[.int .i64 (spOf S x).d.k, .int .i64 (spOf S x).d.x.c, .int .i64 (spOf S x).d.x.s, .int .i64 (spOf S x).d.x.o]] w4 fun e w' => e = .returned (.int .i64 (rdo L (spOf S x).d.k (spOf S x).d.x).1) ∧ RLn w w' g p p S.length (lfF out) (rdo L (spOf S x).d.k (spOf S x).d.x).2 u8 out) :=
                  hid ((refDo_any p p L (by have := HR.out.len; have := HR.out.good.len; have := hln.out; omega) (spOf S x).d.x hwf.out.1.2 (spOf S x).d.k w4 HA4.out.bB HA4.out.ref).mono fun e w' ⟨he, hf, hh⟩ => ⟨he, HA4.out.deed hf hh⟩)
                obtain ⟨f', hst⟩ := HR.out.step HK.out HX.out
                have HST := hid hst
                clear hst hxn
                go_wp2_with fail
                refine HDo.out.mono ?_
                rintro e w5 ⟨rfl, hA5⟩
                clear HDo x0 x1 x2 x3 ix
                have i60 := fun W => index60 g S.length S.length x HXN.out W
                have d1 := hA5.cell x HXN.out
                have d2 : w5.frozen? ⟨g, x, none⟩ = false := BRow.free hA5.row x
                have HA6 := hid ((hA5.put x false).congr (fun i _ => lfF_put out x i))
                clear hA5
                generalize (rdo L (spOf S x).d.k (spOf S x).d.x).2 = L2 at HA6 HST
                go_upto_region 28 with (fail)
                clear d1 d2 i60
                generalize w5.setCell ⟨g, x, none⟩ (.bool false) = w6 at HA6 ⊢
                have hown := hid HA6.out.own
                have hol := HR.out.good.len
                have hol2 := hln.out
                go_wp2_with (at_builtin; refine wpList_append_own _ rfl _ _ 46 rfl w.heap.size 3 i0 (.int .i64 0) 1 8 Try.underlying46 HZ.out.1 HZ.out.2.1 HZ.out.2.2.1 HZ.out.2.2.2 rfl (by decide) _ _ _ rfl (hown.out.alloc _) ⟨w6.heap.size, 0, none⟩ 1 1 [.int .i64 x] rfl rfl ?c1 ?c2 ?c3 ?c4 ?c5 ?_)
                case c1 => exact cells_new1 _ _ _
                case c2 => simp [Value.oneCell']
                case c3 => simp only [maxLen]; omega
                case c4 => omega
                case c5 => have := HA6.out.fr.size; simp at this ⊢; omega
                intro v' w7 hown' hg' _
                have HA7 := hid (HA6.out.snoc hown' hg')
                clear hown' hg' hown
                have hU : Calls Try.prog 59 _ w7 _ := urgent_any a b off cap S g S.length (lfF (out ++ [x])) w7 (H.out.fr0 HA7.out.fr) HA7.out.row
                go_wp2_with fail
                refine hU.mono ?_
                rintro e w8 ⟨rfl, hf8⟩
                clear hU
                have HA8 := hid (HA7.out.fr0 hf8)
                clear hf8
                have hm1 : Hid (sliceLen u8 = out.length) := hid (by obtain ⟨a', cap', e⟩ := HA.out.len; rw [e]; rfl)
                have hm2 : Hid (sliceLen v' = out.length + 1) := hid (by obtain ⟨a', cap', e⟩ := HA7.out.len; rw [e]; simp [sliceLen])
                have hm3 : Hid (out.length < S.length) := hid (by have := HST.out.good.len; simp at this; omega)
                go_wp2
                go_roundw
                case rel => exact ⟨uI S (out ++ [x]), rfl, hid ⟨_, _, _, f', HA8.out, HST.out⟩⟩
                case measure => rw [hm1.out, hm2.out]; have := hm3.out; omega
            · have hk1b : ((spOf S c).d.k == 1) = false := by simp [hk1]
              have HX : Hid (rpick S out c c = c) := hid (by unfold rpick; rw [if_neg hk1])
              have hxn := HKN.out
              clear hk1 HKN hkk
              generalize bdI S (lfF out) c S.length = bo
              have HXN := hid hxn
              have hwf : Hid (spOf S c).wf := hid (by rw [spOf_get HXN.out]; exact H.out.wf _ (List.getElem_mem HXN.out))
              have ix := fun W => H.out.index cap c hxn W
              obtain ⟨x0, x1, x2, x3, -, -⟩ := (H.out.fr0 HA4.out.fr).at c hxn
              rw [← spOf_get hxn] at x0 x1 x2 x3
              have HDo : Hid (Calls Try.prog 39 #[.pointer (some ⟨p, 0, none⟩), .agg #[.int .i64 (spOf S c).d.k, .int .i64 (spOf S c).d.x.c, .int .i64 (spOf S c).d.x.s, .int .i64 (spOf S c).d.x.o]] w4 fun e w' => e = .returned (.int .i64 (rdo L (spOf S c).d.k (spOf S c).d.x).1) ∧ RLn w w' g p p S.length (lfF out) (rdo L (spOf S c).d.k (spOf S c).d.x).2 u8 out) :=
                hid ((refDo_any p p L (by have := HR.out.len; have := HR.out.good.len; have := hln.out; omega) (spOf S c).d.x hwf.out.1.2 (spOf S c).d.k w4 HA4.out.bB HA4.out.ref).mono fun e w' ⟨he, hf, hh⟩ => ⟨he, HA4.out.deed hf hh⟩)
              obtain ⟨f', hst⟩ := HR.out.step HK.out HX.out
              have HST := hid hst
              clear hst hxn
              go_wp2_with fail
              refine HDo.out.mono ?_
              rintro e w5 ⟨rfl, hA5⟩
              clear HDo x0 x1 x2 x3 ix
              have i60 := fun W => index60 g S.length S.length c HXN.out W
              have d1 := hA5.cell c HXN.out
              have d2 : w5.frozen? ⟨g, c, none⟩ = false := BRow.free hA5.row c
              have HA6 := hid ((hA5.put c false).congr (fun i _ => lfF_put out c i))
              clear hA5
              generalize (rdo L (spOf S c).d.k (spOf S c).d.x).2 = L2 at HA6 HST
              go_upto_region 28 with (fail)
              clear d1 d2 i60
              generalize w5.setCell ⟨g, c, none⟩ (.bool false) = w6 at HA6 ⊢
              have hown := hid HA6.out.own
              have hol := HR.out.good.len
              have hol2 := hln.out
              go_wp2_with (at_builtin; refine wpList_append_own _ rfl _ _ 46 rfl w.heap.size 3 i0 (.int .i64 0) 1 8 Try.underlying46 HZ.out.1 HZ.out.2.1 HZ.out.2.2.1 HZ.out.2.2.2 rfl (by decide) _ _ _ rfl (hown.out.alloc _) ⟨w6.heap.size, 0, none⟩ 1 1 [.int .i64 c] rfl rfl ?c1 ?c2 ?c3 ?c4 ?c5 ?_)
              case c1 => exact cells_new1 _ _ _
              case c2 => simp [Value.oneCell']
              case c3 => simp only [maxLen]; omega
              case c4 => omega
              case c5 => have := HA6.out.fr.size; simp at this ⊢; omega
              intro v' w7 hown' hg' _
              have HA7 := hid (HA6.out.snoc hown' hg')
              clear hown' hg' hown
              have hU : Calls Try.prog 59 _ w7 _ := urgent_any a b off cap S g S.length (lfF (out ++ [c])) w7 (H.out.fr0 HA7.out.fr) HA7.out.row
              go_wp2_with fail
              refine hU.mono ?_
              rintro e w8 ⟨rfl, hf8⟩
              clear hU
              have HA8 := hid (HA7.out.fr0 hf8)
              clear hf8
              have hm1 : Hid (sliceLen u8 = out.length) := hid (by obtain ⟨a', cap', e⟩ := HA.out.len; rw [e]; rfl)
              have hm2 : Hid (sliceLen v' = out.length + 1) := hid (by obtain ⟨a', cap', e⟩ := HA7.out.len; rw [e]; simp [sliceLen])
              have hm3 : Hid (out.length < S.length) := hid (by have := HST.out.good.len; simp at this; omega)
              go_wp2
              go_roundw
              case rel => exact ⟨uI S (out ++ [c]), rfl, hid ⟨_, _, _, f', HA8.out, HST.out⟩⟩
              case measure => rw [hm1.out, hm2.out]; have := hm3.out; omega
          · have q2b : ((spOf S c).d.k != 2) = true := by simp [q2]
            have q3b : ((spOf S c).d.k == 3) = true := by simp [q3]
            rw [decide_eq_true qT] at HH
            have HST0 := hid hst
            clear q2 q3 qT hst
            go_wp2_with fail
            refine HH.out.mono ?_
            rintro e w1 ⟨rfl, hf1⟩
            clear c1 c2 c3
            have HA1 := hid (HA.out.fr0 hf1)
            clear hf1
            have kc := ((H.out.fr0 HA1.out.fr).at c HC.out.1).1
            rw [← spOf_get HC.out.1] at kc
            have HK : Hid (rwho S out T c = some c) := hid (by unfold rwho; rw [HST0.out]; rfl)
            clear HST0
            have hkn := (rwho_lt HR.out.mo.symm HK.out).1
            have hk0 : decide ((c : Int) < 0) = false := by simp
            have hB := refBad_any a b off cap S g S.length (lfF out) c HC.out.1 w1 (H.out.fr0 HA1.out.fr) HA1.out.row
            have ik := fun W => H.out.index cap c hkn W
            have HKN := hid hkn
            go_wp2_with fail
            refine hB.mono ?_
            rintro e w4 ⟨rfl, hf4⟩
            clear hB
            have HA4 := hid (HA1.out.fr0 hf4)
            clear hf4
            have hkk := ((H.out.fr0 HA4.out.fr).at c hkn).1
            rw [← spOf_get hkn] at hkk
            clear hkn
            by_cases hk1 : (spOf S c).d.k = 1
            · have hk1b : ((spOf S c).d.k == 1) = true := by simp [hk1]
              cases hb : bdI S (lfF out) c S.length with
              | none =>
                have HX : Hid (rpick S out c c = c) := hid (by unfold rpick; rw [if_pos hk1, hb]; rfl)
                have hxn := HKN.out
                clear hb hk1 HKN hkk
                simp only [optI]
                have HXN := hid hxn
                have hwf : Hid (spOf S c).wf := hid (by rw [spOf_get HXN.out]; exact H.out.wf _ (List.getElem_mem HXN.out))
                have ix := fun W => H.out.index cap c hxn W
                obtain ⟨x0, x1, x2, x3, -, -⟩ := (H.out.fr0 HA4.out.fr).at c hxn
                rw [← spOf_get hxn] at x0 x1 x2 x3
                have HDo : Hid (Calls Try.prog 39 #[.pointer (some ⟨p, 0, none⟩), .agg #[.int .i64 (spOf S c).d.k, .int .i64 (spOf S c).d.x.c, .int .i64 (spOf S c).d.x.s, .int .i64 (spOf S c).d.x.o]] w4 fun e w' => e = .returned (.int .i64 (rdo L (spOf S c).d.k (spOf S c).d.x).1) ∧ RLn w w' g p p S.length (lfF out) (rdo L (spOf S c).d.k (spOf S c).d.x).2 u8 out) :=
                  hid ((refDo_any p p L (by have := HR.out.len; have := HR.out.good.len; have := hln.out; omega) (spOf S c).d.x hwf.out.1.2 (spOf S c).d.k w4 HA4.out.bB HA4.out.ref).mono fun e w' ⟨he, hf, hh⟩ => ⟨he, HA4.out.deed hf hh⟩)
                obtain ⟨f', hst⟩ := HR.out.step HK.out HX.out
                have HST := hid hst
                clear hst hxn
                go_wp2_with fail
                refine HDo.out.mono ?_
                rintro e w5 ⟨rfl, hA5⟩
                clear HDo x0 x1 x2 x3 ix
                have i60 := fun W => index60 g S.length S.length c HXN.out W
                have d1 := hA5.cell c HXN.out
                have d2 : w5.frozen? ⟨g, c, none⟩ = false := BRow.free hA5.row c
                have HA6 := hid ((hA5.put c false).congr (fun i _ => lfF_put out c i))
                clear hA5
                generalize (rdo L (spOf S c).d.k (spOf S c).d.x).2 = L2 at HA6 HST
                go_upto_region 28 with (fail)
                clear d1 d2 i60
                generalize w5.setCell ⟨g, c, none⟩ (.bool false) = w6 at HA6 ⊢
                have hown := hid HA6.out.own
                have hol := HR.out.good.len
                have hol2 := hln.out
                go_wp2_with (at_builtin; refine wpList_append_own _ rfl _ _ 46 rfl w.heap.size 3 i0 (.int .i64 0) 1 8 Try.underlying46 HZ.out.1 HZ.out.2.1 HZ.out.2.2.1 HZ.out.2.2.2 rfl (by decide) _ _ _ rfl (hown.out.alloc _) ⟨w6.heap.size, 0, none⟩ 1 1 [.int .i64 c] rfl rfl ?c1 ?c2 ?c3 ?c4 ?c5 ?_)
                case c1 => exact cells_new1 _ _ _
                case c2 => simp [Value.oneCell']
                case c3 => simp only [maxLen]; omega
                case c4 => omega
                case c5 => have := HA6.out.fr.size; simp at this ⊢; omega
                intro v' w7 hown' hg' _
                have HA7 := hid (HA6.out.snoc hown' hg')
                clear hown' hg' hown
                have hU : Calls Try.prog 59 _ w7 _ := urgent_any a b off cap S g S.length (lfF (out ++ [c])) w7 (H.out.fr0 HA7.out.fr) HA7.out.row
                go_wp2_with fail
                refine hU.mono ?_
                rintro e w8 ⟨rfl, hf8⟩
                clear hU
                have HA8 := hid (HA7.out.fr0 hf8)
                clear hf8
                have hm1 : Hid (sliceLen u8 = out.length) := hid (by obtain ⟨a', cap', e⟩ := HA.out.len; rw [e]; rfl)
                have hm2 : Hid (sliceLen v' = out.length + 1) := hid (by obtain ⟨a', cap', e⟩ := HA7.out.len; rw [e]; simp [sliceLen])
                have hm3 : Hid (out.length < S.length) := hid (by have := HST.out.good.len; simp at this; omega)
                go_wp2
                go_roundw
                case rel => exact ⟨uI S (out ++ [c]), rfl, hid ⟨_, _, _, f', HA8.out, HST.out⟩⟩
                case measure => rw [hm1.out, hm2.out]; have := hm3.out; omega
              | some x =>
                have HX : Hid (rpick S out c c = x) := hid (by unfold rpick; rw [if_pos hk1, hb]; rfl)
                have hxn := best_lt _ hb
                have hx0 : decide (0 ≤ (x : Int)) = true := by simp
                clear hb hk1
                simp only [optI]
                have HXN := hid hxn
                have hwf : Hid (spOf S x).wf := hid (by rw [spOf_get HXN.out]; exact H.out.wf _ (List.getElem_mem HXN.out))
                have ix := fun W => H.out.index cap x hxn W
                obtain ⟨x0, x1, x2, x3, -, -⟩ := (H.out.fr0 HA4.out.fr).at x hxn
                rw [← spOf_get hxn] at x0 x1 x2 x3
                have HDo : Hid (Calls Try.prog 39 #[.pointer (some ⟨p, 0, none⟩), .agg #[.int .i64 (spOf S x).d.k, .int .i64 (spOf S x).d.x.c, .int .i64 (spOf S x).d.x.s, .int .i64 (spOf S x).d.x.o]] w4 fun e w' => e = .returned (.int .i64 (rdo L (spOf S x).d.k (spOf S x).d.x).1) ∧ RLn w w' g p p S.length (lfF out) (rdo L (spOf S x).d.k (spOf S x).d.x).2 u8 out) :=
                  hid ((refDo_any p p L (by have := HR.out.len; have := HR.out.good.len; have := hln.out; omega) (spOf S x).d.x hwf.out.1.2 (spOf S x).d.k w4 HA4.out.bB HA4.out.ref).mono fun e w' ⟨he, hf, hh⟩ => ⟨he, HA4.out.deed hf hh⟩)
                obtain ⟨f', hst⟩ := HR.out.step HK.out HX.out
                have HST := hid hst
                clear hst hxn
                go_wp2_with fail
                refine HDo.out.mono ?_
                rintro e w5 ⟨rfl, hA5⟩
                clear HDo x0 x1 x2 x3 ix
                have i60 := fun W => index60 g S.length S.length x HXN.out W
                have d1 := hA5.cell x HXN.out
                have d2 : w5.frozen? ⟨g, x, none⟩ = false := BRow.free hA5.row x
                have HA6 := hid ((hA5.put x false).congr (fun i _ => lfF_put out x i))
                clear hA5
                generalize (rdo L (spOf S x).d.k (spOf S x).d.x).2 = L2 at HA6 HST
                go_upto_region 28 with (fail)
                clear d1 d2 i60
                generalize w5.setCell ⟨g, x, none⟩ (.bool false) = w6 at HA6 ⊢
                have hown := hid HA6.out.own
                have hol := HR.out.good.len
                have hol2 := hln.out
                go_wp2_with (at_builtin; refine wpList_append_own _ rfl _ _ 46 rfl w.heap.size 3 i0 (.int .i64 0) 1 8 Try.underlying46 HZ.out.1 HZ.out.2.1 HZ.out.2.2.1 HZ.out.2.2.2 rfl (by decide) _ _ _ rfl (hown.out.alloc _) ⟨w6.heap.size, 0, none⟩ 1 1 [.int .i64 x] rfl rfl ?c1 ?c2 ?c3 ?c4 ?c5 ?_)
                case c1 => exact cells_new1 _ _ _
                case c2 => simp [Value.oneCell']
                case c3 => simp only [maxLen]; omega
                case c4 => omega
                case c5 => have := HA6.out.fr.size; simp at this ⊢; omega
                intro v' w7 hown' hg' _
                have HA7 := hid (HA6.out.snoc hown' hg')
                clear hown' hg' hown
                have hU : Calls Try.prog 59 _ w7 _ := urgent_any a b off cap S g S.length (lfF (out ++ [x])) w7 (H.out.fr0 HA7.out.fr) HA7.out.row
                go_wp2_with fail
                refine hU.mono ?_
                rintro e w8 ⟨rfl, hf8⟩
                clear hU
                have HA8 := hid (HA7.out.fr0 hf8)
                clear hf8
                have hm1 : Hid (sliceLen u8 = out.length) := hid (by obtain ⟨a', cap', e⟩ := HA.out.len; rw [e]; rfl)
                have hm2 : Hid (sliceLen v' = out.length + 1) := hid (by obtain ⟨a', cap', e⟩ := HA7.out.len; rw [e]; simp [sliceLen])
                have hm3 : Hid (out.length < S.length) := hid (by have := HST.out.good.len; simp at this; omega)
                go_wp2
                go_roundw
                case rel => exact ⟨uI S (out ++ [x]), rfl, hid ⟨_, _, _, f', HA8.out, HST.out⟩⟩
                case measure => rw [hm1.out, hm2.out]; have := hm3.out; omega
            · have hk1b : ((spOf S c).d.k == 1) = false := by simp [hk1]
              have HX : Hid (rpick S out c c = c) := hid (by unfold rpick; rw [if_neg hk1])
              have hxn := HKN.out
              clear hk1 HKN hkk
              generalize bdI S (lfF out) c S.length = bo
              have HXN := hid hxn
              have hwf : Hid (spOf S c).wf := hid (by rw [spOf_get HXN.out]; exact H.out.wf _ (List.getElem_mem HXN.out))
              have ix := fun W => H.out.index cap c hxn W
              obtain ⟨x0, x1, x2, x3, -, -⟩ := (H.out.fr0 HA4.out.fr).at c hxn
              rw [← spOf_get hxn] at x0 x1 x2 x3
              have HDo : Hid (Calls Try.prog 39 #[.pointer (some ⟨p, 0, none⟩), .agg #[.int .i64 (spOf S c).d.k, .int .i64 (spOf S c).d.x.c, .int .i64 (spOf S c).d.x.s, .int .i64 (spOf S c).d.x.o]] w4 fun e w' => e = .returned (.int .i64 (rdo L (spOf S c).d.k (spOf S c).d.x).1) ∧ RLn w w' g p p S.length (lfF out) (rdo L (spOf S c).d.k (spOf S c).d.x).2 u8 out) :=
                hid ((refDo_any p p L (by have := HR.out.len; have := HR.out.good.len; have := hln.out; omega) (spOf S c).d.x hwf.out.1.2 (spOf S c).d.k w4 HA4.out.bB HA4.out.ref).mono fun e w' ⟨he, hf, hh⟩ => ⟨he, HA4.out.deed hf hh⟩)
              obtain ⟨f', hst⟩ := HR.out.step HK.out HX.out
              have HST := hid hst
              clear hst hxn
              go_wp2_with fail
              refine HDo.out.mono ?_
              rintro e w5 ⟨rfl, hA5⟩
              clear HDo x0 x1 x2 x3 ix
              have i60 := fun W => index60 g S.length S.length c HXN.out W
              have d1 := hA5.cell c HXN.out
              have d2 : w5.frozen? ⟨g, c, none⟩ = false := BRow.free hA5.row c
              have HA6 := hid ((hA5.put c false).congr (fun i _ => lfF_put out c i))
              clear hA5
              generalize (rdo L (spOf S c).d.k (spOf S c).d.x).2 = L2 at HA6 HST
              go_upto_region 28 with (fail)
              clear d1 d2 i60
              generalize w5.setCell ⟨g, c, none⟩ (.bool false) = w6 at HA6 ⊢
              have hown := hid HA6.out.own
              have hol := HR.out.good.len
              have hol2 := hln.out
              go_wp2_with (at_builtin; refine wpList_append_own _ rfl _ _ 46 rfl w.heap.size 3 i0 (.int .i64 0) 1 8 Try.underlying46 HZ.out.1 HZ.out.2.1 HZ.out.2.2.1 HZ.out.2.2.2 rfl (by decide) _ _ _ rfl (hown.out.alloc _) ⟨w6.heap.size, 0, none⟩ 1 1 [.int .i64 c] rfl rfl ?c1 ?c2 ?c3 ?c4 ?c5 ?_)
              case c1 => exact cells_new1 _ _ _
              case c2 => simp [Value.oneCell']
              case c3 => simp only [maxLen]; omega
              case c4 => omega
              case c5 => have := HA6.out.fr.size; simp at this ⊢; omega
              intro v' w7 hown' hg' _
              have HA7 := hid (HA6.out.snoc hown' hg')
              clear hown' hg' hown
              have hU : Calls Try.prog 59 _ w7 _ := urgent_any a b off cap S g S.length (lfF (out ++ [c])) w7 (H.out.fr0 HA7.out.fr) HA7.out.row
              go_wp2_with fail
              refine hU.mono ?_
              rintro e w8 ⟨rfl, hf8⟩
              clear hU
              have HA8 := hid (HA7.out.fr0 hf8)
              clear hf8
              have hm1 : Hid (sliceLen u8 = out.length) := hid (by obtain ⟨a', cap', e⟩ := HA.out.len; rw [e]; rfl)
              have hm2 : Hid (sliceLen v' = out.length + 1) := hid (by obtain ⟨a', cap', e⟩ := HA7.out.len; rw [e]; simp [sliceLen])
              have hm3 : Hid (out.length < S.length) := hid (by have := HST.out.good.len; simp at this; omega)
              go_wp2
              go_roundw
              case rel => exact ⟨uI S (out ++ [c]), rfl, hid ⟨_, _, _, f', HA8.out, HST.out⟩⟩
              case measure => rw [hm1.out, hm2.out]; have := hm3.out; omega
          · have q2b : ((spOf S c).d.k != 2) = true := by simp [q2]
            have q3b : ((spOf S c).d.k == 3) = false := by simp [q3]
            rw [decide_eq_false qT] at HH
            have HST0 := hid hst
            clear q2 q3 qT hst
            go_wp2_with fail
            refine HH.out.mono ?_
            rintro e w1 ⟨rfl, hf1⟩
            clear c1 c2 c3
            have HA1 := hid (HA.out.fr0 hf1)
            clear hf1
            have kc := ((H.out.fr0 HA1.out.fr).at c HC.out.1).1
            rw [← spOf_get HC.out.1] at kc
            have HK : Hid (rwho S out T c = some c) := hid (by unfold rwho; rw [HST0.out]; rfl)
            clear HST0
            have hkn := (rwho_lt HR.out.mo.symm HK.out).1
            have hk0 : decide ((c : Int) < 0) = false := by simp
            have hB := refBad_any a b off cap S g S.length (lfF out) c HC.out.1 w1 (H.out.fr0 HA1.out.fr) HA1.out.row
            have ik := fun W => H.out.index cap c hkn W
            have HKN := hid hkn
            go_wp2_with fail
            refine hB.mono ?_
            rintro e w4 ⟨rfl, hf4⟩
            clear hB
            have HA4 := hid (HA1.out.fr0 hf4)
            clear hf4
            have hkk := ((H.out.fr0 HA4.out.fr).at c hkn).1
            rw [← spOf_get hkn] at hkk
            clear hkn
            by_cases hk1 : (spOf S c).d.k = 1
            · have hk1b : ((spOf S c).d.k == 1) = true := by simp [hk1]
              cases hb : bdI S (lfF out) c S.length with
              | none =>
                have HX : Hid (rpick S out c c = c) := hid (by unfold rpick; rw [if_pos hk1, hb]; rfl)
                have hxn := HKN.out
                clear hb hk1 HKN hkk
                simp only [optI]
                have HXN := hid hxn
                have hwf : Hid (spOf S c).wf := hid (by rw [spOf_get HXN.out]; exact H.out.wf _ (List.getElem_mem HXN.out))
                have ix := fun W => H.out.index cap c hxn W
                obtain ⟨x0, x1, x2, x3, -, -⟩ := (H.out.fr0 HA4.out.fr).at c hxn
                rw [← spOf_get hxn] at x0 x1 x2 x3
                have HDo : Hid (Calls Try.prog 39 #[.pointer (some ⟨p, 0, none⟩), .agg #[.int .i64 (spOf S c).d.k, .int .i64 (spOf S c).d.x.c, .int .i64 (spOf S c).d.x.s, .int .i64 (spOf S c).d.x.o]] w4 fun e w' => e = .returned (.int .i64 (rdo L (spOf S c).d.k (spOf S c).d.x).1) ∧ RLn w w' g p p S.length (lfF out) (rdo L (spOf S c).d.k (spOf S c).d.x).2 u8 out) :=
                  hid ((refDo_any p p L (by have := HR.out.len; have := HR.out.good.len; have := hln.out; omega) (spOf S c).d.x hwf.out.1.2 (spOf S c).d.k w4 HA4.out.bB HA4.out.ref).mono fun e w' ⟨he, hf, hh⟩ => ⟨he, HA4.out.deed hf hh⟩)
                obtain ⟨f', hst⟩ := HR.out.step HK.out HX.out
                have HST := hid hst
                clear hst hxn
                go_wp2_with fail
                refine HDo.out.mono ?_
                rintro e w5 ⟨rfl, hA5⟩
                clear HDo x0 x1 x2 x3 ix
                have i60 := fun W => index60 g S.length S.length c HXN.out W
                have d1 := hA5.cell c HXN.out
                have d2 : w5.frozen? ⟨g, c, none⟩ = false := BRow.free hA5.row c
                have HA6 := hid ((hA5.put c false).congr (fun i _ => lfF_put out c i))
                clear hA5
                generalize (rdo L (spOf S c).d.k (spOf S c).d.x).2 = L2 at HA6 HST
                go_upto_region 28 with (fail)
                clear d1 d2 i60
                generalize w5.setCell ⟨g, c, none⟩ (.bool false) = w6 at HA6 ⊢
                have hown := hid HA6.out.own
                have hol := HR.out.good.len
                have hol2 := hln.out
                go_wp2_with (at_builtin; refine wpList_append_own _ rfl _ _ 46 rfl w.heap.size 3 i0 (.int .i64 0) 1 8 Try.underlying46 HZ.out.1 HZ.out.2.1 HZ.out.2.2.1 HZ.out.2.2.2 rfl (by decide) _ _ _ rfl (hown.out.alloc _) ⟨w6.heap.size, 0, none⟩ 1 1 [.int .i64 c] rfl rfl ?c1 ?c2 ?c3 ?c4 ?c5 ?_)
                case c1 => exact cells_new1 _ _ _
                case c2 => simp [Value.oneCell']
                case c3 => simp only [maxLen]; omega
                case c4 => omega
                case c5 => have := HA6.out.fr.size; simp at this ⊢; omega
                intro v' w7 hown' hg' _
                have HA7 := hid (HA6.out.snoc hown' hg')
                clear hown' hg' hown
                have hU : Calls Try.prog 59 _ w7 _ := urgent_any a b off cap S g S.length (lfF (out ++ [c])) w7 (H.out.fr0 HA7.out.fr) HA7.out.row
                go_wp2_with fail
                refine hU.mono ?_
                rintro e w8 ⟨rfl, hf8⟩
                clear hU
                have HA8 := hid (HA7.out.fr0 hf8)
                clear hf8
                have hm1 : Hid (sliceLen u8 = out.length) := hid (by obtain ⟨a', cap', e⟩ := HA.out.len; rw [e]; rfl)
                have hm2 : Hid (sliceLen v' = out.length + 1) := hid (by obtain ⟨a', cap', e⟩ := HA7.out.len; rw [e]; simp [sliceLen])
                have hm3 : Hid (out.length < S.length) := hid (by have := HST.out.good.len; simp at this; omega)
                go_wp2
                go_roundw
                case rel => exact ⟨uI S (out ++ [c]), rfl, hid ⟨_, _, _, f', HA8.out, HST.out⟩⟩
                case measure => rw [hm1.out, hm2.out]; have := hm3.out; omega
              | some x =>
                have HX : Hid (rpick S out c c = x) := hid (by unfold rpick; rw [if_pos hk1, hb]; rfl)
                have hxn := best_lt _ hb
                have hx0 : decide (0 ≤ (x : Int)) = true := by simp
                clear hb hk1
                simp only [optI]
                have HXN := hid hxn
                have hwf : Hid (spOf S x).wf := hid (by rw [spOf_get HXN.out]; exact H.out.wf _ (List.getElem_mem HXN.out))
                have ix := fun W => H.out.index cap x hxn W
                obtain ⟨x0, x1, x2, x3, -, -⟩ := (H.out.fr0 HA4.out.fr).at x hxn
                rw [← spOf_get hxn] at x0 x1 x2 x3
                have HDo : Hid (Calls Try.prog 39 #[.pointer (some ⟨p, 0, none⟩), .agg #[.int .i64 (spOf S x).d.k, .int .i64 (spOf S x).d.x.c, .int .i64 (spOf S x).d.x.s, .int .i64 (spOf S x).d.x.o]] w4 fun e w' => e = .returned (.int .i64 (rdo L (spOf S x).d.k (spOf S x).d.x).1) ∧ RLn w w' g p p S.length (lfF out) (rdo L (spOf S x).d.k (spOf S x).d.x).2 u8 out) :=
                  hid ((refDo_any p p L (by have := HR.out.len; have := HR.out.good.len; have := hln.out; omega) (spOf S x).d.x hwf.out.1.2 (spOf S x).d.k w4 HA4.out.bB HA4.out.ref).mono fun e w' ⟨he, hf, hh⟩ => ⟨he, HA4.out.deed hf hh⟩)
                obtain ⟨f', hst⟩ := HR.out.step HK.out HX.out
                have HST := hid hst
                clear hst hxn
                go_wp2_with fail
                refine HDo.out.mono ?_
                rintro e w5 ⟨rfl, hA5⟩
                clear HDo x0 x1 x2 x3 ix
                have i60 := fun W => index60 g S.length S.length x HXN.out W
                have d1 := hA5.cell x HXN.out
                have d2 : w5.frozen? ⟨g, x, none⟩ = false := BRow.free hA5.row x
                have HA6 := hid ((hA5.put x false).congr (fun i _ => lfF_put out x i))
                clear hA5
                generalize (rdo L (spOf S x).d.k (spOf S x).d.x).2 = L2 at HA6 HST
                go_upto_region 28 with (fail)
                clear d1 d2 i60
                generalize w5.setCell ⟨g, x, none⟩ (.bool false) = w6 at HA6 ⊢
                have hown := hid HA6.out.own
                have hol := HR.out.good.len
                have hol2 := hln.out
                go_wp2_with (at_builtin; refine wpList_append_own _ rfl _ _ 46 rfl w.heap.size 3 i0 (.int .i64 0) 1 8 Try.underlying46 HZ.out.1 HZ.out.2.1 HZ.out.2.2.1 HZ.out.2.2.2 rfl (by decide) _ _ _ rfl (hown.out.alloc _) ⟨w6.heap.size, 0, none⟩ 1 1 [.int .i64 x] rfl rfl ?c1 ?c2 ?c3 ?c4 ?c5 ?_)
                case c1 => exact cells_new1 _ _ _
                case c2 => simp [Value.oneCell']
                case c3 => simp only [maxLen]; omega
                case c4 => omega
                case c5 => have := HA6.out.fr.size; simp at this ⊢; omega
                intro v' w7 hown' hg' _
                have HA7 := hid (HA6.out.snoc hown' hg')
                clear hown' hg' hown
                have hU : Calls Try.prog 59 _ w7 _ := urgent_any a b off cap S g S.length (lfF (out ++ [x])) w7 (H.out.fr0 HA7.out.fr) HA7.out.row
                go_wp2_with fail
                refine hU.mono ?_
                rintro e w8 ⟨rfl, hf8⟩
                clear hU
                have HA8 := hid (HA7.out.fr0 hf8)
                clear hf8
                have hm1 : Hid (sliceLen u8 = out.length) := hid (by obtain ⟨a', cap', e⟩ := HA.out.len; rw [e]; rfl)
                have hm2 : Hid (sliceLen v' = out.length + 1) := hid (by obtain ⟨a', cap', e⟩ := HA7.out.len; rw [e]; simp [sliceLen])
                have hm3 : Hid (out.length < S.length) := hid (by have := HST.out.good.len; simp at this; omega)
                go_wp2
                go_roundw
                case rel => exact ⟨uI S (out ++ [x]), rfl, hid ⟨_, _, _, f', HA8.out, HST.out⟩⟩
                case measure => rw [hm1.out, hm2.out]; have := hm3.out; omega
            · have hk1b : ((spOf S c).d.k == 1) = false := by simp [hk1]
              have HX : Hid (rpick S out c c = c) := hid (by unfold rpick; rw [if_neg hk1])
              have hxn := HKN.out
              clear hk1 HKN hkk
              generalize bdI S (lfF out) c S.length = bo
              have HXN := hid hxn
              have hwf : Hid (spOf S c).wf := hid (by rw [spOf_get HXN.out]; exact H.out.wf _ (List.getElem_mem HXN.out))
              have ix := fun W => H.out.index cap c hxn W
              obtain ⟨x0, x1, x2, x3, -, -⟩ := (H.out.fr0 HA4.out.fr).at c hxn
              rw [← spOf_get hxn] at x0 x1 x2 x3
              have HDo : Hid (Calls Try.prog 39 #[.pointer (some ⟨p, 0, none⟩), .agg #[.int .i64 (spOf S c).d.k, .int .i64 (spOf S c).d.x.c, .int .i64 (spOf S c).d.x.s, .int .i64 (spOf S c).d.x.o]] w4 fun e w' => e = .returned (.int .i64 (rdo L (spOf S c).d.k (spOf S c).d.x).1) ∧ RLn w w' g p p S.length (lfF out) (rdo L (spOf S c).d.k (spOf S c).d.x).2 u8 out) :=
                hid ((refDo_any p p L (by have := HR.out.len; have := HR.out.good.len; have := hln.out; omega) (spOf S c).d.x hwf.out.1.2 (spOf S c).d.k w4 HA4.out.bB HA4.out.ref).mono fun e w' ⟨he, hf, hh⟩ => ⟨he, HA4.out.deed hf hh⟩)
              obtain ⟨f', hst⟩ := HR.out.step HK.out HX.out
              have HST := hid hst
              clear hst hxn
              go_wp2_with fail
              refine HDo.out.mono ?_
              rintro e w5 ⟨rfl, hA5⟩
              clear HDo x0 x1 x2 x3 ix
              have i60 := fun W => index60 g S.length S.length c HXN.out W
              have d1 := hA5.cell c HXN.out
              have d2 : w5.frozen? ⟨g, c, none⟩ = false := BRow.free hA5.row c
              have HA6 := hid ((hA5.put c false).congr (fun i _ => lfF_put out c i))
              clear hA5
              generalize (rdo L (spOf S c).d.k (spOf S c).d.x).2 = L2 at HA6 HST
              go_upto_region 28 with (fail)
              clear d1 d2 i60
              generalize w5.setCell ⟨g, c, none⟩ (.bool false) = w6 at HA6 ⊢
              have hown := hid HA6.out.own
              have hol := HR.out.good.len
              have hol2 := hln.out
              go_wp2_with (at_builtin; refine wpList_append_own _ rfl _ _ 46 rfl w.heap.size 3 i0 (.int .i64 0) 1 8 Try.underlying46 HZ.out.1 HZ.out.2.1 HZ.out.2.2.1 HZ.out.2.2.2 rfl (by decide) _ _ _ rfl (hown.out.alloc _) ⟨w6.heap.size, 0, none⟩ 1 1 [.int .i64 c] rfl rfl ?c1 ?c2 ?c3 ?c4 ?c5 ?_)
              case c1 => exact cells_new1 _ _ _
              case c2 => simp [Value.oneCell']
              case c3 => simp only [maxLen]; omega
              case c4 => omega
              case c5 => have := HA6.out.fr.size; simp at this ⊢; omega
              intro v' w7 hown' hg' _
              have HA7 := hid (HA6.out.snoc hown' hg')
              clear hown' hg' hown
              have hU : Calls Try.prog 59 _ w7 _ := urgent_any a b off cap S g S.length (lfF (out ++ [c])) w7 (H.out.fr0 HA7.out.fr) HA7.out.row
              go_wp2_with fail
              refine hU.mono ?_
              rintro e w8 ⟨rfl, hf8⟩
              clear hU
              have HA8 := hid (HA7.out.fr0 hf8)
              clear hf8
              have hm1 : Hid (sliceLen u8 = out.length) := hid (by obtain ⟨a', cap', e⟩ := HA.out.len; rw [e]; rfl)
              have hm2 : Hid (sliceLen v' = out.length + 1) := hid (by obtain ⟨a', cap', e⟩ := HA7.out.len; rw [e]; simp [sliceLen])
              have hm3 : Hid (out.length < S.length) := hid (by have := HST.out.good.len; simp at this; omega)
              go_wp2
              go_roundw
              case rel => exact ⟨uI S (out ++ [c]), rfl, hid ⟨_, _, _, f', HA8.out, HST.out⟩⟩
              case measure => rw [hm1.out, hm2.out]; have := hm3.out; omega
          · have q2b : ((spOf S c).d.k != 2) = true := by simp [q2]
            have q3b : ((spOf S c).d.k == 3) = true := by simp [q3]
            rw [decide_eq_false qT] at HH
            have HST0 := hid hst
            clear q2 q3 qT hst
            go_wp2_with fail
            refine HH.out.mono ?_
            rintro e w1 ⟨rfl, hf1⟩
            clear c1 c2 c3
            have HA1 := hid (HA.out.fr0 hf1)
            clear hf1
            have kc := ((H.out.fr0 HA1.out.fr).at c HC.out.1).1
            rw [← spOf_get HC.out.1] at kc
            have HKO := hid hko
            clear hko
            have hH := helper_any a b off cap S g S.length (lfF out) c HC.out.1 1 w1 (H.out.fr0 HA1.out.fr) HA1.out.row
            have hwho : Hid (rwho S out T c = hlpI S (lfF out) c 1 S.length) := hid (by unfold rwho; rw [HST0.out, HKO.out]; rfl)
            clear HST0 HKO
            go_wp2_with fail
            refine hH.mono ?_
            rintro e w2' ⟨rfl, hf2⟩
            clear hH kc
            have HA2 := hid (HA1.out.fr0 hf2)
            clear hf2
            cases hq : hlpI S (lfF out) c 1 S.length with
            | none =>
              have HE := hid (HRL.out.1 (HR.out.stop (by rw [hwho.out, hq])))
              clear hq
              simp only [optI]
              go_wp2
              go_ret2
              rw [HE.out]
              exact ⟨⟨_, rfl, rfl, .inl ⟨rfl, rfl⟩⟩, HA2.out.fr⟩
            | some k =>
              have HK : Hid (rwho S out T c = some k) := hid (by rw [hwho.out, hq])
              clear hq hwho
              simp only [optI]
              have hkn := (rwho_lt HR.out.mo.symm HK.out).1
              have hk0 : decide ((k : Int) < 0) = false := by simp
              have hB := refBad_any a b off cap S g S.length (lfF out) c HC.out.1 w2' (H.out.fr0 HA2.out.fr) HA2.out.row
              have ik := fun W => H.out.index cap k hkn W
              have HKN := hid hkn
              go_wp2_with fail
              refine hB.mono ?_
              rintro e w4 ⟨rfl, hf4⟩
              clear hB
              have HA4 := hid (HA2.out.fr0 hf4)
              clear hf4
              have hkk := ((H.out.fr0 HA4.out.fr).at k hkn).1
              rw [← spOf_get hkn] at hkk
              clear hkn
              by_cases hk1 : (spOf S k).d.k = 1
              · have hk1b : ((spOf S k).d.k == 1) = true := by simp [hk1]
                cases hb : bdI S (lfF out) c S.length with
                | none =>
                  have HX : Hid (rpick S out c k = k) := hid (by unfold rpick; rw [if_pos hk1, hb]; rfl)
                  have hxn := HKN.out
                  clear hb hk1 HKN hkk
                  simp only [optI]
                  have HXN := hid hxn
                  have hwf : Hid (spOf S k).wf := hid (by rw [spOf_get HXN.out]; exact H.out.wf _ (List.getElem_mem HXN.out))
                  have ix := fun W => H.out.index cap k hxn W
                  obtain ⟨x0, x1, x2, x3, -, -⟩ := (H.out.fr0 HA4.out.fr).at k hxn
                  rw [← spOf_get hxn] at x0 x1 x2 x3
                  have HDo : Hid (Calls Try.prog 39 #[.pointer (some ⟨p, 0, none⟩), .agg #[.int .i64 (spOf S k).d.k, .int .i64 (spOf S k).d.x.c, .int .i64 (spOf S k).d.x.s, .int .i64 (spOf S k).d.x.o]] w4 fun e w' => e = .returned (.int .i64 (rdo L (spOf S k).d.k (spOf S k).d.x).1) ∧ RLn w w' g p p S.length (lfF out) (rdo L (spOf S k).d.k (spOf S k).d.x).2 u8 out) :=
                    hid ((refDo_any p p L (by have := HR.out.len; have := HR.out.good.len; have := hln.out; omega) (spOf S k).d.x hwf.out.1.2 (spOf S k).d.k w4 HA4.out.bB HA4.out.ref).mono fun e w' ⟨he, hf, hh⟩ => ⟨he, HA4.out.deed hf hh⟩)
                  obtain ⟨f', hst⟩ := HR.out.step HK.out HX.out
                  have HST := hid hst
                  clear hst hxn
                  go_wp2_with fail
                  refine HDo.out.mono ?_
                  rintro e w5 ⟨rfl, hA5⟩
                  clear HDo x0 x1 x2 x3 ix
                  have i60 := fun W => index60 g S.length S.length k HXN.out W
                  have d1 := hA5.cell k HXN.out
                  have d2 : w5.frozen? ⟨g, k, none⟩ = false := BRow.free hA5.row k
                  have HA6 := hid ((hA5.put k false).congr (fun i _ => lfF_put out k i))
                  clear hA5
                  generalize (rdo L (spOf S k).d.k (spOf S k).d.x).2 = L2 at HA6 HST
                  go_upto_region 28 with (fail)
                  clear d1 d2 i60
                  generalize w5.setCell ⟨g, k, none⟩ (.bool false) = w6 at HA6 ⊢
                  have hown := hid HA6.out.own
                  have hol := HR.out.good.len
                  have hol2 := hln.out
                  go_wp2_with (at_builtin; refine wpList_append_own _ rfl _ _ 46 rfl w.heap.size 3 i0 (.int .i64 0) 1 8 Try.underlying46 HZ.out.1 HZ.out.2.1 HZ.out.2.2.1 HZ.out.2.2.2 rfl (by decide) _ _ _ rfl (hown.out.alloc _) ⟨w6.heap.size, 0, none⟩ 1 1 [.int .i64 k] rfl rfl ?c1 ?c2 ?c3 ?c4 ?c5 ?_)
                  case c1 => exact cells_new1 _ _ _
                  case c2 => simp [Value.oneCell']
                  case c3 => simp only [maxLen]; omega
                  case c4 => omega
                  case c5 => have := HA6.out.fr.size; simp at this ⊢; omega
                  intro v' w7 hown' hg' _
                  have HA7 := hid (HA6.out.snoc hown' hg')
                  clear hown' hg' hown
                  have hU : Calls Try.prog 59 _ w7 _ := urgent_any a b off cap S g S.length (lfF (out ++ [k])) w7 (H.out.fr0 HA7.out.fr) HA7.out.row
                  go_wp2_with fail
                  refine hU.mono ?_
                  rintro e w8 ⟨rfl, hf8⟩
                  clear hU
                  have HA8 := hid (HA7.out.fr0 hf8)
                  clear hf8
                  have hm1 : Hid (sliceLen u8 = out.length) := hid (by obtain ⟨a', cap', e⟩ := HA.out.len; rw [e]; rfl)
                  have hm2 : Hid (sliceLen v' = out.length + 1) := hid (by obtain ⟨a', cap', e⟩ := HA7.out.len; rw [e]; simp [sliceLen])
                  have hm3 : Hid (out.length < S.length) := hid (by have := HST.out.good.len; simp at this; omega)
                  go_wp2
                  go_roundw
                  case rel => exact ⟨uI S (out ++ [k]), rfl, hid ⟨_, _, _, f', HA8.out, HST.out⟩⟩
                  case measure => rw [hm1.out, hm2.out]; have := hm3.out; omega
                | some x =>
                  have HX : Hid (rpick S out c k = x) := hid (by unfold rpick; rw [if_pos hk1, hb]; rfl)
                  have hxn := best_lt _ hb
                  have hx0 : decide (0 ≤ (x : Int)) = true := by simp
                  clear hb hk1
                  simp only [optI]
                  have HXN := hid hxn
                  have hwf : Hid (spOf S x).wf := hid (by rw [spOf_get HXN.out]; exact H.out.wf _ (List.getElem_mem HXN.out))
                  have ix := fun W => H.out.index cap x hxn W
                  obtain ⟨x0, x1, x2, x3, -, -⟩ := (H.out.fr0 HA4.out.fr).at x hxn
                  rw [← spOf_get hxn] at x0 x1 x2 x3
                  have HDo : Hid (Calls Try.prog 39 #[.pointer (some ⟨p, 0, none⟩), .agg #[.int .i64 (spOf S x).d.k, .int .i64 (spOf S x).d.x.c, .int .i64 (spOf S x).d.x.s, .int .i64 (spOf S x).d.x.o]] w4 fun e w' => e = .returned (.int .i64 (rdo L (spOf S x).d.k (spOf S x).d.x).1) ∧ RLn w w' g p p S.length (lfF out) (rdo L (spOf S x).d.k (spOf S x).d.x).2 u8 out) :=
                    hid ((refDo_any p p L (by have := HR.out.len; have := HR.out.good.len; have := hln.out; omega) (spOf S x).d.x hwf.out.1.2 (spOf S x).d.k w4 HA4.out.bB HA4.out.ref).mono fun e w' ⟨he, hf, hh⟩ => ⟨he, HA4.out.deed hf hh⟩)
                  obtain ⟨f', hst⟩ := HR.out.step HK.out HX.out
                  have HST := hid hst
                  clear hst hxn
                  go_wp2_with fail
                  refine HDo.out.mono ?_
                  rintro e w5 ⟨rfl, hA5⟩
                  clear HDo x0 x1 x2 x3 ix
                  have i60 := fun W => index60 g S.length S.length x HXN.out W
                  have d1 := hA5.cell x HXN.out
                  have d2 : w5.frozen? ⟨g, x, none⟩ = false := BRow.free hA5.row x
                  have HA6 := hid ((hA5.put x false).congr (fun i _ => lfF_put out x i))
                  clear hA5
                  generalize (rdo L (spOf S x).d.k (spOf S x).d.x).2 = L2 at HA6 HST
                  go_upto_region 28 with (fail)
                  clear d1 d2 i60
                  generalize w5.setCell ⟨g, x, none⟩ (.bool false) = w6 at HA6 ⊢
                  have hown := hid HA6.out.own
                  have hol := HR.out.good.len
                  have hol2 := hln.out
                  go_wp2_with (at_builtin; refine wpList_append_own _ rfl _ _ 46 rfl w.heap.size 3 i0 (.int .i64 0) 1 8 Try.underlying46 HZ.out.1 HZ.out.2.1 HZ.out.2.2.1 HZ.out.2.2.2 rfl (by decide) _ _ _ rfl (hown.out.alloc _) ⟨w6.heap.size, 0, none⟩ 1 1 [.int .i64 x] rfl rfl ?c1 ?c2 ?c3 ?c4 ?c5 ?_)
                  case c1 => exact cells_new1 _ _ _
                  case c2 => simp [Value.oneCell']
                  case c3 => simp only [maxLen]; omega
                  case c4 => omega
                  case c5 => have := HA6.out.fr.size; simp at this ⊢; omega
                  intro v' w7 hown' hg' _
                  have HA7 := hid (HA6.out.snoc hown' hg')
                  clear hown' hg' hown
                  have hU : Calls Try.prog 59 _ w7 _ := urgent_any a b off cap S g S.length (lfF (out ++ [x])) w7 (H.out.fr0 HA7.out.fr) HA7.out.row
                  go_wp2_with fail
                  refine hU.mono ?_
                  rintro e w8 ⟨rfl, hf8⟩
                  clear hU
                  have HA8 := hid (HA7.out.fr0 hf8)
                  clear hf8
                  have hm1 : Hid (sliceLen u8 = out.length) := hid (by obtain ⟨a', cap', e⟩ := HA.out.len; rw [e]; rfl)
                  have hm2 : Hid (sliceLen v' = out.length + 1) := hid (by obtain ⟨a', cap', e⟩ := HA7.out.len; rw [e]; simp [sliceLen])
                  have hm3 : Hid (out.length < S.length) := hid (by have := HST.out.good.len; simp at this; omega)
                  go_wp2
                  go_roundw
                  case rel => exact ⟨uI S (out ++ [x]), rfl, hid ⟨_, _, _, f', HA8.out, HST.out⟩⟩
                  case measure => rw [hm1.out, hm2.out]; have := hm3.out; omega
              · have hk1b : ((spOf S k).d.k == 1) = false := by simp [hk1]
                have HX : Hid (rpick S out c k = k) := hid (by unfold rpick; rw [if_neg hk1])
                have hxn := HKN.out
                clear hk1 HKN hkk
                generalize bdI S (lfF out) c S.length = bo
                have HXN := hid hxn
                have hwf : Hid (spOf S k).wf := hid (by rw [spOf_get HXN.out]; exact H.out.wf _ (List.getElem_mem HXN.out))
                have ix := fun W => H.out.index cap k hxn W
                obtain ⟨x0, x1, x2, x3, -, -⟩ := (H.out.fr0 HA4.out.fr).at k hxn
                rw [← spOf_get hxn] at x0 x1 x2 x3
                have HDo : Hid (Calls Try.prog 39 #[.pointer (some ⟨p, 0, none⟩), .agg #[.int .i64 (spOf S k).d.k, .int .i64 (spOf S k).d.x.c, .int .i64 (spOf S k).d.x.s, .int .i64 (spOf S k).d.x.o]] w4 fun e w' => e = .returned (.int .i64 (rdo L (spOf S k).d.k (spOf S k).d.x).1) ∧ RLn w w' g p p S.length (lfF out) (rdo L (spOf S k).d.k (spOf S k).d.x).2 u8 out) :=
                  hid ((refDo_any p p L (by have := HR.out.len; have := HR.out.good.len; have := hln.out; omega) (spOf S k).d.x hwf.out.1.2 (spOf S k).d.k w4 HA4.out.bB HA4.out.ref).mono fun e w' ⟨he, hf, hh⟩ => ⟨he, HA4.out.deed hf hh⟩)
                obtain ⟨f', hst⟩ := HR.out.step HK.out HX.out
                have HST := hid hst
                clear hst hxn
                go_wp2_with fail
                refine HDo.out.mono ?_
                rintro e w5 ⟨rfl, hA5⟩
                clear HDo x0 x1 x2 x3 ix
                have i60 := fun W => index60 g S.length S.length k HXN.out W
                have d1 := hA5.cell k HXN.out
                have d2 : w5.frozen? ⟨g, k, none⟩ = false := BRow.free hA5.row k
                have HA6 := hid ((hA5.put k false).congr (fun i _ => lfF_put out k i))
                clear hA5
                generalize (rdo L (spOf S k).d.k (spOf S k).d.x).2 = L2 at HA6 HST
                go_upto_region 28 with (fail)
                clear d1 d2 i60
                generalize w5.setCell ⟨g, k, none⟩ (.bool false) = w6 at HA6 ⊢
                have hown := hid HA6.out.own
                have hol := HR.out.good.len
                have hol2 := hln.out
                go_wp2_with (at_builtin; refine wpList_append_own _ rfl _ _ 46 rfl w.heap.size 3 i0 (.int .i64 0) 1 8 Try.underlying46 HZ.out.1 HZ.out.2.1 HZ.out.2.2.1 HZ.out.2.2.2 rfl (by decide) _ _ _ rfl (hown.out.alloc _) ⟨w6.heap.size, 0, none⟩ 1 1 [.int .i64 k] rfl rfl ?c1 ?c2 ?c3 ?c4 ?c5 ?_)
                case c1 => exact cells_new1 _ _ _
                case c2 => simp [Value.oneCell']
                case c3 => simp only [maxLen]; omega
                case c4 => omega
                case c5 => have := HA6.out.fr.size; simp at this ⊢; omega
                intro v' w7 hown' hg' _
                have HA7 := hid (HA6.out.snoc hown' hg')
                clear hown' hg' hown
                have hU : Calls Try.prog 59 _ w7 _ := urgent_any a b off cap S g S.length (lfF (out ++ [k])) w7 (H.out.fr0 HA7.out.fr) HA7.out.row
                go_wp2_with fail
                refine hU.mono ?_
                rintro e w8 ⟨rfl, hf8⟩
                clear hU
                have HA8 := hid (HA7.out.fr0 hf8)
                clear hf8
                have hm1 : Hid (sliceLen u8 = out.length) := hid (by obtain ⟨a', cap', e⟩ := HA.out.len; rw [e]; rfl)
                have hm2 : Hid (sliceLen v' = out.length + 1) := hid (by obtain ⟨a', cap', e⟩ := HA7.out.len; rw [e]; simp [sliceLen])
                have hm3 : Hid (out.length < S.length) := hid (by have := HST.out.good.len; simp at this; omega)
                go_wp2
                go_roundw
                case rel => exact ⟨uI S (out ++ [k]), rfl, hid ⟨_, _, _, f', HA8.out, HST.out⟩⟩
                case measure => rw [hm1.out, hm2.out]; have := hm3.out; omega
          · have q2b : ((spOf S c).d.k != 2) = true := by simp [q2]
            have q3b : ((spOf S c).d.k == 3) = false := by simp [q3]
            rw [decide_eq_true qT] at HH
            have HST0 := hid hst
            clear q2 q3 qT hst
            go_wp2_with fail
            refine HH.out.mono ?_
            rintro e w1 ⟨rfl, hf1⟩
            clear c1 c2 c3
            have HA1 := hid (HA.out.fr0 hf1)
            clear hf1
            have kc := ((H.out.fr0 HA1.out.fr).at c HC.out.1).1
            rw [← spOf_get HC.out.1] at kc
            have HKO := hid hko
            clear hko
            have hH := helper_any a b off cap S g S.length (lfF out) c HC.out.1 3 w1 (H.out.fr0 HA1.out.fr) HA1.out.row
            have hwho : Hid (rwho S out T c = hlpI S (lfF out) c 3 S.length) := hid (by unfold rwho; rw [HST0.out, HKO.out]; rfl)
            clear HST0 HKO
            go_wp2_with fail
            refine hH.mono ?_
            rintro e w2' ⟨rfl, hf2⟩
            clear hH kc
            have HA2 := hid (HA1.out.fr0 hf2)
            clear hf2
            cases hq : hlpI S (lfF out) c 3 S.length with
            | none =>
              have HE := hid (HRL.out.1 (HR.out.stop (by rw [hwho.out, hq])))
              clear hq
              simp only [optI]
              go_wp2
              go_ret2
              rw [HE.out]
              exact ⟨⟨_, rfl, rfl, .inl ⟨rfl, rfl⟩⟩, HA2.out.fr⟩
            | some k =>
              have HK : Hid (rwho S out T c = some k) := hid (by rw [hwho.out, hq])
              clear hq hwho
              simp only [optI]
              have hkn := (rwho_lt HR.out.mo.symm HK.out).1
              have hk0 : decide ((k : Int) < 0) = false := by simp
              have hB := refBad_any a b off cap S g S.length (lfF out) c HC.out.1 w2' (H.out.fr0 HA2.out.fr) HA2.out.row
              have ik := fun W => H.out.index cap k hkn W
              have HKN := hid hkn
              go_wp2_with fail
              refine hB.mono ?_
              rintro e w4 ⟨rfl, hf4⟩
              clear hB
              have HA4 := hid (HA2.out.fr0 hf4)
              clear hf4
              have hkk := ((H.out.fr0 HA4.out.fr).at k hkn).1
              rw [← spOf_get hkn] at hkk
              clear hkn
              by_cases hk1 : (spOf S k).d.k = 1
              · have hk1b : ((spOf S k).d.k == 1) = true := by simp [hk1]
                cases hb : bdI S (lfF out) c S.length with
                | none =>
                  have HX : Hid (rpick S out c k = k) := hid (by unfold rpick; rw [if_pos hk1, hb]; rfl)
                  have hxn := HKN.out
                  clear hb hk1 HKN hkk
                  simp only [optI]
                  have HXN := hid hxn
                  have hwf : Hid (spOf S k).wf := hid (by rw [spOf_get HXN.out]; exact H.out.wf _ (List.getElem_mem HXN.out))
                  have ix := fun W => H.out.index cap k hxn W
                  obtain ⟨x0, x1, x2, x3, -, -⟩ := (H.out.fr0 HA4.out.fr).at k hxn
                  rw [← spOf_get hxn] at x0 x1 x2 x3
                  have HDo : Hid (Calls Try.prog 39 #[.pointer (some ⟨p, 0, none⟩), .agg #[.int .i64 (spOf S k).d.k, .int .i64 (spOf S k).d.x.c, .int .i64 (spOf S k).d.x.s, .int .i64 (spOf S k).d.x.o]] w4 fun e w' => e = .returned (.int .i64 (rdo L (spOf S k).d.k (spOf S k).d.x).1) ∧ RLn w w' g p p S.length (lfF out) (rdo L (spOf S k).d.k (spOf S k).d.x).2 u8 out) :=
                    hid ((refDo_any p p L (by have := HR.out.len; have := HR.out.good.len; have := hln.out; omega) (spOf S k).d.x hwf.out.1.2 (spOf S k).d.k w4 HA4.out.bB HA4.out.ref).mono fun e w' ⟨he, hf, hh⟩ => ⟨he, HA4.out.deed hf hh⟩)
                  obtain ⟨f', hst⟩ := HR.out.step HK.out HX.out
                  have HST := hid hst
                  clear hst hxn
                  go_wp2_with fail
                  refine HDo.out.mono ?_
                  rintro e w5 ⟨rfl, hA5⟩
                  clear HDo x0 x1 x2 x3 ix
                  have i60 := fun W => index60 g S.length S.length k HXN.out W
                  have d1 := hA5.cell k HXN.out
                  have d2 : w5.frozen? ⟨g, k, none⟩ = false := BRow.free hA5.row k
                  have HA6 := hid ((hA5.put k false).congr (fun i _ => lfF_put out k i))
                  clear hA5
                  generalize (rdo L (spOf S k).d.k (spOf S k).d.x).2 = L2 at HA6 HST
                  go_upto_region 28 with (fail)
                  clear d1 d2 i60
                  generalize w5.setCell ⟨g, k, none⟩ (.bool false) = w6 at HA6 ⊢
                  have hown := hid HA6.out.own
                  have hol := HR.out.good.len
                  have hol2 := hln.out
                  go_wp2_with (at_builtin; refine wpList_append_own _ rfl _ _ 46 rfl w.heap.size 3 i0 (.int .i64 0) 1 8 Try.underlying46 HZ.out.1 HZ.out.2.1 HZ.out.2.2.1 HZ.out.2.2.2 rfl (by decide) _ _ _ rfl (hown.out.alloc _) ⟨w6.heap.size, 0, none⟩ 1 1 [.int .i64 k] rfl rfl ?c1 ?c2 ?c3 ?c4 ?c5 ?_)
                  case c1 => exact cells_new1 _ _ _
                  case c2 => simp [Value.oneCell']
                  case c3 => simp only [maxLen]; omega
                  case c4 => omega
                  case c5 => have := HA6.out.fr.size; simp at this ⊢; omega
                  intro v' w7 hown' hg' _
                  have HA7 := hid (HA6.out.snoc hown' hg')
                  clear hown' hg' hown
                  have hU : Calls Try.prog 59 _ w7 _ := urgent_any a b off cap S g S.length (lfF (out ++ [k])) w7 (H.out.fr0 HA7.out.fr) HA7.out.row
                  go_wp2_with fail
                  refine hU.mono ?_
                  rintro e w8 ⟨rfl, hf8⟩
                  clear hU
                  have HA8 := hid (HA7.out.fr0 hf8)
                  clear hf8
                  have hm1 : Hid (sliceLen u8 = out.length) := hid (by obtain ⟨a', cap', e⟩ := HA.out.len; rw [e]; rfl)
                  have hm2 : Hid (sliceLen v' = out.length + 1) := hid (by obtain ⟨a', cap', e⟩ := HA7.out.len; rw [e]; simp [sliceLen])
                  have hm3 : Hid (out.length < S.length) := hid (by have := HST.out.good.len; simp at this; omega)
                  go_wp2
                  go_roundw
                  case rel => exact ⟨uI S (out ++ [k]), rfl, hid ⟨_, _, _, f', HA8.out, HST.out⟩⟩
                  case measure => rw [hm1.out, hm2.out]; have := hm3.out; omega
                | some x =>
                  have HX : Hid (rpick S out c k = x) := hid (by unfold rpick; rw [if_pos hk1, hb]; rfl)
                  have hxn := best_lt _ hb
                  have hx0 : decide (0 ≤ (x : Int)) = true := by simp
                  clear hb hk1
                  simp only [optI]
                  have HXN := hid hxn
                  have hwf : Hid (spOf S x).wf := hid (by rw [spOf_get HXN.out]; exact H.out.wf _ (List.getElem_mem HXN.out))
                  have ix := fun W => H.out.index cap x hxn W
                  obtain ⟨x0, x1, x2, x3, -, -⟩ := (H.out.fr0 HA4.out.fr).at x hxn
                  rw [← spOf_get hxn] at x0 x1 x2 x3
                  have HDo : Hid (Calls Try.prog 39 #[.pointer (some ⟨p, 0, none⟩), .agg #[.int .i64 (spOf S x).d.k, .int .i64 (spOf S x).d.x.c, .int .i64 (spOf S x).d.x.s, .int .i64 (spOf S x).d.x.o]] w4 fun e w' => e = .returned (.int .i64 (rdo L (spOf S x).d.k (spOf S x).d.x).1) ∧ RLn w w' g p p S.length (lfF out) (rdo L (spOf S x).d.k (spOf S x).d.x).2 u8 out) :=
                    hid ((refDo_any p p L (by have := HR.out.len; have := HR.out.good.len; have := hln.out; omega) (spOf S x).d.x hwf.out.1.2 (spOf S x).d.k w4 HA4.out.bB HA4.out.ref).mono fun e w' ⟨he, hf, hh⟩ => ⟨he, HA4.out.deed hf hh⟩)
                  obtain ⟨f', hst⟩ := HR.out.step HK.out HX.out
                  have HST := hid hst
                  clear hst hxn
                  go_wp2_with fail
                  refine HDo.out.mono ?_
                  rintro e w5 ⟨rfl, hA5⟩
                  clear HDo x0 x1 x2 x3 ix
                  have i60 := fun W => index60 g S.length S.length x HXN.out W
                  have d1 := hA5.cell x HXN.out
                  have d2 : w5.frozen? ⟨g, x, none⟩ = false := BRow.free hA5.row x
                  have HA6 := hid ((hA5.put x false).congr (fun i _ => lfF_put out x i))
                  clear hA5
                  generalize (rdo L (spOf S x).d.k (spOf S x).d.x).2 = L2 at HA6 HST
                  go_upto_region 28 with (fail)
                  clear d1 d2 i60
                  generalize w5.setCell ⟨g, x, none⟩ (.bool false) = w6 at HA6 ⊢
                  have hown := hid HA6.out.own
                  have hol := HR.out.good.len
                  have hol2 := hln.out
                  go_wp2_with (at_builtin; refine wpList_append_own _ rfl _ _ 46 rfl w.heap.size 3 i0 (.int .i64 0) 1 8 Try.underlying46 HZ.out.1 HZ.out.2.1 HZ.out.2.2.1 HZ.out.2.2.2 rfl (by decide) _ _ _ rfl (hown.out.alloc _) ⟨w6.heap.size, 0, none⟩ 1 1 [.int .i64 x] rfl rfl ?c1 ?c2 ?c3 ?c4 ?c5 ?_)
                  case c1 => exact cells_new1 _ _ _
                  case c2 => simp [Value.oneCell']
                  case c3 => simp only [maxLen]; omega
                  case c4 => omega
                  case c5 => have := HA6.out.fr.size; simp at this ⊢; omega
                  intro v' w7 hown' hg' _
                  have HA7 := hid (HA6.out.snoc hown' hg')
                  clear hown' hg' hown
                  have hU : Calls Try.prog 59 _ w7 _ := urgent_any a b off cap S g S.length (lfF (out ++ [x])) w7 (H.out.fr0 HA7.out.fr) HA7.out.row
                  go_wp2_with fail
                  refine hU.mono ?_
                  rintro e w8 ⟨rfl, hf8⟩
                  clear hU
                  have HA8 := hid (HA7.out.fr0 hf8)
                  clear hf8
                  have hm1 : Hid (sliceLen u8 = out.length) := hid (by obtain ⟨a', cap', e⟩ := HA.out.len; rw [e]; rfl)
                  have hm2 : Hid (sliceLen v' = out.length + 1) := hid (by obtain ⟨a', cap', e⟩ := HA7.out.len; rw [e]; simp [sliceLen])
                  have hm3 : Hid (out.length < S.length) := hid (by have := HST.out.good.len; simp at this; omega)
                  go_wp2
                  go_roundw
                  case rel => exact ⟨uI S (out ++ [x]), rfl, hid ⟨_, _, _, f', HA8.out, HST.out⟩⟩
                  case measure => rw [hm1.out, hm2.out]; have := hm3.out; omega
              · have hk1b : ((spOf S k).d.k == 1) = false := by simp [hk1]
                have HX : Hid (rpick S out c k = k) := hid (by unfold rpick; rw [if_neg hk1])
                have hxn := HKN.out
                clear hk1 HKN hkk
                generalize bdI S (lfF out) c S.length = bo
                have HXN := hid hxn
                have hwf : Hid (spOf S k).wf := hid (by rw [spOf_get HXN.out]; exact H.out.wf _ (List.getElem_mem HXN.out))
                have ix := fun W => H.out.index cap k hxn W
                obtain ⟨x0, x1, x2, x3, -, -⟩ := (H.out.fr0 HA4.out.fr).at k hxn
                rw [← spOf_get hxn] at x0 x1 x2 x3
                have HDo : Hid (Calls Try.prog 39 #[.pointer (some ⟨p, 0, none⟩), .agg #[.int .i64 (spOf S k).d.k, .int .i64 (spOf S k).d.x.c, .int .i64 (spOf S k).d.x.s, .int .i64 (spOf S k).d.x.o]] w4 fun e w' => e = .returned (.int .i64 (rdo L (spOf S k).d.k (spOf S k).d.x).1) ∧ RLn w w' g p p S.length (lfF out) (rdo L (spOf S k).d.k (spOf S k).d.x).2 u8 out) :=
                  hid ((refDo_any p p L (by have := HR.out.len; have := HR.out.good.len; have := hln.out; omega) (spOf S k).d.x hwf.out.1.2 (spOf S k).d.k w4 HA4.out.bB HA4.out.ref).mono fun e w' ⟨he, hf, hh⟩ => ⟨he, HA4.out.deed hf hh⟩)
                obtain ⟨f', hst⟩ := HR.out.step HK.out HX.out
                have HST := hid hst
                clear hst hxn
                go_wp2_with fail
                refine HDo.out.mono ?_
                rintro e w5 ⟨rfl, hA5⟩
                clear HDo x0 x1 x2 x3 ix
                have i60 := fun W => index60 g S.length S.length k HXN.out W
                have d1 := hA5.cell k HXN.out
                have d2 : w5.frozen? ⟨g, k, none⟩ = false := BRow.free hA5.row k
                have HA6 := hid ((hA5.put k false).congr (fun i _ => lfF_put out k i))
                clear hA5
                generalize (rdo L (spOf S k).d.k (spOf S k).d.x).2 = L2 at HA6 HST
                go_upto_region 28 with (fail)
                clear d1 d2 i60
                generalize w5.setCell ⟨g, k, none⟩ (.bool false) = w6 at HA6 ⊢
                have hown := hid HA6.out.own
                have hol := HR.out.good.len
                have hol2 := hln.out
                go_wp2_with (at_builtin; refine wpList_append_own _ rfl _ _ 46 rfl w.heap.size 3 i0 (.int .i64 0) 1 8 Try.underlying46 HZ.out.1 HZ.out.2.1 HZ.out.2.2.1 HZ.out.2.2.2 rfl (by decide) _ _ _ rfl (hown.out.alloc _) ⟨w6.heap.size, 0, none⟩ 1 1 [.int .i64 k] rfl rfl ?c1 ?c2 ?c3 ?c4 ?c5 ?_)
                case c1 => exact cells_new1 _ _ _
                case c2 => simp [Value.oneCell']
                case c3 => simp only [maxLen]; omega
                case c4 => omega
                case c5 => have := HA6.out.fr.size; simp at this ⊢; omega
                intro v' w7 hown' hg' _
                have HA7 := hid (HA6.out.snoc hown' hg')
                clear hown' hg' hown
                have hU : Calls Try.prog 59 _ w7 _ := urgent_any a b off cap S g S.length (lfF (out ++ [k])) w7 (H.out.fr0 HA7.out.fr) HA7.out.row
                go_wp2_with fail
                refine hU.mono ?_
                rintro e w8 ⟨rfl, hf8⟩
                clear hU
                have HA8 := hid (HA7.out.fr0 hf8)
                clear hf8
                have hm1 : Hid (sliceLen u8 = out.length) := hid (by obtain ⟨a', cap', e⟩ := HA.out.len; rw [e]; rfl)
                have hm2 : Hid (sliceLen v' = out.length + 1) := hid (by obtain ⟨a', cap', e⟩ := HA7.out.len; rw [e]; simp [sliceLen])
                have hm3 : Hid (out.length < S.length) := hid (by have := HST.out.good.len; simp at this; omega)
                go_wp2
                go_roundw
                case rel => exact ⟨uI S (out ++ [k]), rfl, hid ⟨_, _, _, f', HA8.out, HST.out⟩⟩
                case measure => rw [hm1.out, hm2.out]; have := hm3.out; omega

theorem refLine_any (a : Option Addr) (b off cap : Nat) (S : List Sp) (w : World) (h : SpansIn w a b off S) :
    Calls Try.prog 27 #[.slice a S.length cap] w fun e w' => (∃ v, e = .returned (.tuple #[v, .int .i64 (lineR S).1]) ∧ IntsOwn w w' v (lineR S).2) ∧ Fr0 w w' := by
  by_cases hc : chk S = 0
  · exact refLine_ok a b off cap S w h hc
  · have HC := refCheck_any a b off cap S w h
    have hr : lineR S = (chk S, []) := by unfold lineR; rw [if_neg hc]
    rw [hr]
    have hcb : (chk S != 0) = true := by simpa using hc
    clear hr hc h
    generalize chk S = c at HC hcb ⊢
    go_enter Try.func27, Try.ntmps27
    go_wp2_with fail
    refine HC.mono ?_
    rintro e w1 ⟨rfl, hf1⟩
    clear HC
    go_wp2
    go_ret2
    exact ⟨⟨_, rfl, rfl, .inl ⟨rfl, rfl⟩⟩, hf1⟩
end Go.Proofs.Ytjaabbjobnfmmaa

/-
  OrderKnown, walked.
-/
import Derived.Test.YtjaabbjobnfmmaaKnown28
namespace Go.Proofs.Ytjaabbjobnfmmaa
open Go.RowKit

set_option maxRecDepth 100000 in
set_option maxHeartbeats 100000000 in
theorem orderKnown_walk (w : World) : Calls Try.prog 13 #[] w fun e w' => e = .returned (.bool true) ∧ Fr0 w w' := by
  obtain ⟨i5, hi5, hz50, hz51, hz52⟩ := info_parts info50
  have HZ5 := hid (show Try.prog.info? 50 = some i5 ∧ i5.zero = some zero50 ∧ i5.size = 6 ∧ i5.bytes = 48 from ⟨hi5, hz50, hz51, hz52⟩)
  have HF := hid (Fr.refl (fun _ => False) w)
  clear hi5 hz50 hz51 hz52
  go_enter Try.func13, Try.ntmps13
  go_wp2_with fail
  refine (span_any 0 0 0 _).mono ?_
  rintro e w1 ⟨rfl, hf⟩
  have HF := hid (HF.out.trans0 hf)
  clear hf
  go_wp2_with fail
  refine (span_any 5 0 0 _).mono ?_
  rintro e w2 ⟨rfl, hf⟩
  have HF := hid (HF.out.trans0 hf)
  clear hf
  go_wp2_with fail
  refine (span_any 1 (-1) 0 _).mono ?_
  rintro e w3 ⟨rfl, hf⟩
  have HF := hid (HF.out.trans0 hf)
  clear hf
  go_wp2_with fail
  refine (span_any 1 3 2 _).mono ?_
  rintro e w4 ⟨rfl, hf⟩
  have HF := hid (HF.out.trans0 hf)
  clear hf
  go_wp2_with fail
  refine (span_any 1 0 (-2) _).mono ?_
  rintro e w5 ⟨rfl, hf⟩
  have HF := hid (HF.out.trans0 hf)
  clear hf
  go_wp2_with fail
  refine (span_any 1 9007199254740992 (-1) _).mono ?_
  rintro e w6 ⟨rfl, hf⟩
  have HF := hid (HF.out.trans0 hf)
  clear hf
  go_wp2_with fail
  refine (span_any 1 0 9007199254740992 _).mono ?_
  rintro e w7 ⟨rfl, hf⟩
  have HF := hid (HF.out.trans0 hf)
  clear hf
  go_wp2_with fail
  refine (span_any 2 0 0 _).mono ?_
  rintro e w8 ⟨rfl, hf⟩
  have HF := hid (HF.out.trans0 hf)
  clear hf
  have HB0 : Hid (SpansIn (w8.alloc (.cells #[.int .i64 0, .int .i64 0, .int .i64 0, .int .i64 0, .int .i64 0, .int .i64 0, .int .i64 0, .int .i64 1, .int .i64 0, .int .i64 0, .int .i64 0, .int .i64 0, .int .i64 5, .int .i64 1, .int .i64 0, .int .i64 0, .int .i64 0, .int .i64 0, .int .i64 1, .int .i64 1, .int .i64 0, .int .i64 0, .int .i64 (-1), .int .i64 0, .int .i64 1, .int .i64 1, .int .i64 0, .int .i64 0, .int .i64 3, .int .i64 2, .int .i64 1, .int .i64 1, .int .i64 0, .int .i64 0, .int .i64 0, .int .i64 (-2), .int .i64 1, .int .i64 1, .int .i64 0, .int .i64 0, .int .i64 9007199254740992, .int .i64 (-1), .int .i64 1, .int .i64 1, .int .i64 0, .int .i64 0, .int .i64 0, .int .i64 9007199254740992, .int .i64 2, .int .i64 1, .int .i64 0, .int .i64 0, .int .i64 0, .int .i64 0] 50)) (some ⟨w8.heap.size, 0, none⟩) w8.heap.size 0 badsL) := hid (spans_block badsL (alloc_block w8 _) badsL_wf (by decide))
  have HF := hid (HF.out.alloc (.cells #[.int .i64 0, .int .i64 0, .int .i64 0, .int .i64 0, .int .i64 0, .int .i64 0, .int .i64 0, .int .i64 1, .int .i64 0, .int .i64 0, .int .i64 0, .int .i64 0, .int .i64 5, .int .i64 1, .int .i64 0, .int .i64 0, .int .i64 0, .int .i64 0, .int .i64 1, .int .i64 1, .int .i64 0, .int .i64 0, .int .i64 (-1), .int .i64 0, .int .i64 1, .int .i64 1, .int .i64 0, .int .i64 0, .int .i64 3, .int .i64 2, .int .i64 1, .int .i64 1, .int .i64 0, .int .i64 0, .int .i64 0, .int .i64 (-2), .int .i64 1, .int .i64 1, .int .i64 0, .int .i64 0, .int .i64 9007199254740992, .int .i64 (-1), .int .i64 1, .int .i64 1, .int .i64 0, .int .i64 0, .int .i64 0, .int .i64 9007199254740992, .int .i64 2, .int .i64 1, .int .i64 0, .int .i64 0, .int .i64 0, .int .i64 0] 50))
  go_wp2_with fail
  generalize hbb : w8.heap.size = bb at HB0 ⊢
  clear hbb
  generalize w8.alloc (.cells #[.int .i64 0, .int .i64 0, .int .i64 0, .int .i64 0, .int .i64 0, .int .i64 0, .int .i64 0, .int .i64 1, .int .i64 0, .int .i64 0, .int .i64 0, .int .i64 0, .int .i64 5, .int .i64 1, .int .i64 0, .int .i64 0, .int .i64 0, .int .i64 0, .int .i64 1, .int .i64 1, .int .i64 0, .int .i64 0, .int .i64 (-1), .int .i64 0, .int .i64 1, .int .i64 1, .int .i64 0, .int .i64 0, .int .i64 3, .int .i64 2, .int .i64 1, .int .i64 1, .int .i64 0, .int .i64 0, .int .i64 0, .int .i64 (-2), .int .i64 1, .int .i64 1, .int .i64 0, .int .i64 0, .int .i64 9007199254740992, .int .i64 (-1), .int .i64 1, .int .i64 1, .int .i64 0, .int .i64 0, .int .i64 0, .int .i64 9007199254740992, .int .i64 2, .int .i64 1, .int .i64 0, .int .i64 0, .int .i64 0, .int .i64 0] 50) = wa at HB0 HF ⊢
  go_loopw [2] (fun i wr => ∃ k : Nat, i = .int .i64 k ∧ k ≤ 9 ∧ Hid (Fr0 wa wr)) (fun i _ => 9 - (intOf i).toNat)
  case atStart => exact ⟨0, rfl, by omega, hid (Fr.refl _ _)⟩
  case round =>
    obtain ⟨k, rfl, hk, hR⟩ := hrel
    by_cases hlt : k < 9
    · have HB := hid (HB0.out.fr0 hR.out)
      have HX := hid (HB.out.one k hlt)
      have hsl := fun W => slice_one (b := bb) hlt W
      have HCK := hid (badsL_chk badsL[k] (List.getElem_mem hlt))
      have hc1 := hid (check_any (some ⟨bb, k * 6, none⟩) bb (k * 6) (9 - k) [badsL[k]] wr HX.out)
      rw [HCK.out] at hc1
      simp only [List.length_singleton] at hc1
      go_wp2_with fail
      refine hc1.out.mono ?_
      rintro e w20 ⟨rfl, hf1⟩
      have HF1 := hid hf1
      clear hf1 hc1
      have hc2 := hid (orderLines_walk (some ⟨bb, k * 6, none⟩) bb (k * 6) (9 - k) [badsL[k]] w20 (HX.out.fr0 HF1.out) (by simp; omega) (by simp))
      simp only [List.length_singleton] at hc2
      go_wp2_with fail
      refine hc2.out.mono ?_
      rintro e w21 ⟨rfl, hf2⟩
      have HF2 := hid (HF1.out.trans0 hf2)
      clear hf2 hc2
      have HNB := hid (nums_block [0] (alloc_block w21 (.cells #[.int .i64 0] 3)) (by decide))
      have HF3 := hid (HF2.out.alloc (.cells #[.int .i64 0] 3))
      have hc3 := hid (orderHolds_walk2 (some ⟨bb, k * 6, none⟩) bb (k * 6) (9 - k) [badsL[k]] (some ⟨w21.heap.size, 0, none⟩) w21.heap.size 0 1 [0] (w21.alloc (.cells #[.int .i64 0] 3)) (HX.out.fr0 HF3.out) (by simp; omega) HNB.out (by simp))
      simp only [List.length_singleton] at hc3
      go_wp2_with fail
      refine hc3.out.mono ?_
      rintro e w22 ⟨rfl, hf3⟩
      have HF4 := hid ((hR.out.trans0 HF3.out).trans0 hf3)
      clear hf3 hc3 hsl
      go_wp2
      go_roundw
      case rel => exact ⟨k + 1, by go_num, by omega, HF4⟩
      case measure => simp [intOf]; omega
    · have HFA := hid (HF.out.trans0 hR.out)
      clear hR HB0 HF
      go_wp2_with fail
      clear hk hlt
      generalize Value.int .i64 (k : Int) = zk
      obtain ⟨wo, rfl⟩ : ∃ wo : World, wo = wr := ⟨_, rfl⟩
      obtain ⟨B0, hB0⟩ : ∃ B0, B0 = wo.heap.size := ⟨_, rfl⟩
      have HBB := hid hB0
      clear hB0
      go_loopw [3, 4] (fun v i wr => ∃ k : Nat, i = .int .i64 k ∧ k ≤ 257 ∧ Hid (Fr0 wo wr ∧ OwnS wr B0 v (mnyL k))) (fun _ i _ => 257 - (intOf i).toNat)
      case atStart => exact ⟨0, rfl, by omega, hid ⟨Fr.refl _ _, (World.ownsRow_nil _ _ _ _ : OwnS _ _ _ [])⟩⟩
      case round =>
        obtain ⟨k, rfl, hk, hR⟩ := hrel
        by_cases hlt : k < 257
        · have htm : ((k : Int).tmod 2) = ((k % 2 : Nat) : Int) := by rw [Int.tmod_eq_emod_of_nonneg (by omega)]; rfl
          have hk2 : k % 2 < 2 := Nat.mod_lt _ (by omega)
          have hlb : decide (k < 257) = true := by simp [hlt]
          have hsp := hid (span_any (1 + 2 * ((k % 2 : Nat) : Int)) (k : Int) ((k : Int) + 3))
          have e1 : IntKind.i64.wrap (2 * ((k % 2 : Nat) : Int)) = 2 * ((k % 2 : Nat) : Int) := IntWalk.i64_in _ (by omega)
          have e2 : IntKind.i64.wrap (1 + 2 * ((k % 2 : Nat) : Int)) = 1 + 2 * ((k % 2 : Nat) : Int) := IntWalk.i64_in _ (by omega)
          have e3 : IntKind.i64.wrap ((k : Int) + 3) = (k : Int) + 3 := IntWalk.i64_in _ (by omega)
          go_wp2_with fail
          refine (hsp.out _).mono ?_
          rintro e w30 ⟨rfl, hf⟩
          have HF1 := hid (hR.out.1.trans0 hf)
          have HO1 := hid (own_fr0 hR.out.2 hf)
          clear hf hsp htm e1 e2 e3
          go_wp2_with (at_builtin; refine wpList_append_own _ rfl _ _ 45 rfl B0 50 i5 zero50 6 48 Try.underlying45 HZ5.out.1 HZ5.out.2.1 HZ5.out.2.2.1 HZ5.out.2.2.2 rfl (by decide) _ _ _ rfl (HO1.out.alloc _) ⟨_, 0, none⟩ 1 1 [.int .i64 (1 + 2 * ((k % 2 : Nat) : Int)), .int .i64 1, .int .i64 0, .int .i64 0, .int .i64 k, .int .i64 ((k : Int) + 3)] rfl rfl ?c1 ?c2 ?c3 ?c4 ?c5 ?_)
          case c1 => exact cells_new6 _ _ _ _ _ _ _ _
          case c2 => intro u hu; simp at hu; rcases hu with rfl | rfl | rfl | rfl | rfl | rfl <;> rfl
          case c3 => rw [mnyL_len]; simp only [maxLen]; omega
          case c4 => rw [mnyL_len]; omega
          case c5 => have := HF1.out.size; have := HBB.out; simp at this ⊢; omega
          intro v' w31 hown' hg _
          have HO2 : Hid (OwnS w31 B0 v' (mnyL (k + 1))) := hid (by rw [mnyL_snoc]; exact ownS_snoc hown')
          have HF2 := hid (grow_fr HO1.out HF1.out (by have := HBB.out; omega) hg).1
          clear hown' hg
          go_wp2
          go_roundw
          case rel => exact ⟨k + 1, by go_num, by omega, hid ⟨HF2.out, HO2.out⟩⟩
          case measure => simp [intOf]; omega
        · have HK257 := hid (show k = 257 by omega)
          obtain ⟨am, bm, capm, hvm, hsm, hcm, hnm⟩ := spansOwn hR.out.2 (mnyL_wf k (by omega)) (by rw [mnyL_len]; omega)
          rw [mnyL_len] at hvm hcm
          subst hvm
          have HMY := hid (And.intro hsm (And.intro hcm hnm))
          have HFB := hid (HFA.out.trans0 hR.out.1)
          clear hR hsm hcm hnm HBB
          go_upto_region 13 with (fail)
          clear hk hlt
          have HOW := hid (ordsW_is wr)
          change Code.wp _ _ _ _ (ordsW wr)
          generalize ordsW wr = wo1 at HOW ⊢
          generalize wr.heap.size + 1 + 1 + 1 + 1 + 1 + 1 + 1 + 1 = ob at HOW ⊢
          have HOR := hid HOW.out.1
          have HFC := hid (HFB.out.trans0 HOW.out.2)
          have HMY := hid (show SpansIn wo1 am bm 0 (mnyL k) ∧ k ≤ capm ∧ (am = none → capm = 0) from ⟨HMY.out.1.fr0 HOW.out.2, HMY.out.2⟩)
          clear HOW HFB
          have HF := hid (Fr.refl (fun _ => False) wo1)
          go_wp2_with fail
          refine (span_any 1 0 5 _).mono ?_
          rintro e w40 ⟨rfl, hf⟩
          have HF := hid (HF.out.trans0 hf)
          clear hf
          go_wp2_with fail
          refine (span_any 3 3 4 _).mono ?_
          rintro e w41 ⟨rfl, hf⟩
          have HF := hid (HF.out.trans0 hf)
          clear hf
          have HT := hid (spans_block [spx 1 0 5, spx 3 3 4] (alloc_block w41 (.cells #[.int .i64 1, .int .i64 1, .int .i64 0, .int .i64 0, .int .i64 0, .int .i64 5, .int .i64 3, .int .i64 1, .int .i64 0, .int .i64 0, .int .i64 3, .int .i64 4] 50)) (by intro x hx; simp only [List.mem_cons, List.not_mem_nil, or_false] at hx; rcases hx with rfl | rfl <;> exact spx_wf (by decide) (by decide) (by decide)) (by decide))
          have HF := hid (HF.out.alloc (.cells #[.int .i64 1, .int .i64 1, .int .i64 0, .int .i64 0, .int .i64 0, .int .i64 5, .int .i64 3, .int .i64 1, .int .i64 0, .int .i64 0, .int .i64 3, .int .i64 4] 50))
          go_upto_region 14 with (fail)
          generalize w41.alloc (.cells #[.int .i64 1, .int .i64 1, .int .i64 0, .int .i64 0, .int .i64 0, .int .i64 5, .int .i64 3, .int .i64 1, .int .i64 0, .int .i64 0, .int .i64 3, .int .i64 4] 50) = wt at HT HF ⊢
          generalize w41.heap.size = tb at HT ⊢
          go_wp2_with fail
          refine (span_any 1 0 (-1) _).mono ?_
          rintro e w42 ⟨rfl, hf⟩
          have HF := hid (HF.out.trans0 hf)
          have HT := hid (HT.out.fr0 hf)
          clear hf
          go_wp2_with fail
          refine (span_any 4 2 (-1) _).mono ?_
          rintro e w43 ⟨rfl, hf⟩
          have HF := hid (HF.out.trans0 hf)
          have HT := hid (HT.out.fr0 hf)
          clear hf
          have HP := hid (spans_block [spx 1 0 (-1), spx 4 2 (-1)] (alloc_block w43 (.cells #[.int .i64 1, .int .i64 1, .int .i64 0, .int .i64 0, .int .i64 0, .int .i64 (-1), .int .i64 4, .int .i64 1, .int .i64 0, .int .i64 0, .int .i64 2, .int .i64 (-1)] 50)) (by intro x hx; simp only [List.mem_cons, List.not_mem_nil, or_false] at hx; rcases hx with rfl | rfl <;> exact spx_wf (by decide) (by decide) (by decide)) (by decide))
          have HT := hid (HT.out.fr0 (fr0_alloc w43 (.cells #[.int .i64 1, .int .i64 1, .int .i64 0, .int .i64 0, .int .i64 0, .int .i64 (-1), .int .i64 4, .int .i64 1, .int .i64 0, .int .i64 0, .int .i64 2, .int .i64 (-1)] 50)))
          have HF := hid (HF.out.alloc (.cells #[.int .i64 1, .int .i64 1, .int .i64 0, .int .i64 0, .int .i64 0, .int .i64 (-1), .int .i64 4, .int .i64 1, .int .i64 0, .int .i64 0, .int .i64 2, .int .i64 (-1)] 50))
          go_upto_region 15 with (fail)
          generalize w43.alloc (.cells #[.int .i64 1, .int .i64 1, .int .i64 0, .int .i64 0, .int .i64 0, .int .i64 (-1), .int .i64 4, .int .i64 1, .int .i64 0, .int .i64 0, .int .i64 2, .int .i64 (-1)] 50) = wp at HP HT HF ⊢
          generalize w43.heap.size = pb at HP ⊢
          have HOR := hid (HOR.out.fr0 HF.out)
          have HMY := hid (show SpansIn wp am bm 0 (mnyL k) ∧ k ≤ capm ∧ (am = none → capm = 0) from ⟨HMY.out.1.fr0 HF.out, HMY.out.2⟩)
          have HFC := hid (HFC.out.trans0 HF.out)
          clear HF
          go_wp2_with fail
          go_loopw [8] (fun i wr => ∃ j : Nat, i = .int .i64 j ∧ j ≤ 9 ∧ Hid (Fr0 wp wr)) (fun i _ => 9 - (intOf i).toNat)
          case atStart => exact ⟨0, rfl, by omega, hid (Fr.refl _ _)⟩
          case round =>
            obtain ⟨j, rfl, hj, hR⟩ := hrel
            by_cases hlt : j < 9
            · have i8 := fun W => index58 ob j hlt W
              obtain ⟨ao, bo, co, o, ho1, ho2, ho3⟩ := HOR.out.fr0 hR.out j hlt
              have HO := hid (And.intro ho2 ho3)
              have HOC := hid ho1
              have HT1 := hid (HT.out.fr0 hR.out)
              have HP1 := hid (HP.out.fr0 hR.out)
              have hc1 := hid (orderHolds_walk2 _ _ 0 2 [spx 1 0 5, spx 3 3 4] ao bo 0 co o _ HT1.out (by decide) HO.out.1 HO.out.2)
              have hc2 := hid (fun W (hW : Fr0 _ W) => orderHolds_walk2 _ _ 0 2 [spx 1 0 (-1), spx 4 2 (-1)] ao bo 0 co o W (HP1.out.fr0 hW) (by decide) (HO.out.1.fr0 hW) HO.out.2)
              have hc3 := hid (fun W (hW : Fr0 _ W) => orderHolds_walk2 none 0 0 0 [] ao bo 0 co o W (SpansIn.nil _) (by decide) (HO.out.1.fr0 hW) HO.out.2)
              simp only [List.length_cons, List.length_nil, Nat.zero_add, Nat.reduceAdd] at hc1 hc2 hc3
              clear ho2 ho3
              go_wp2_with fail
              refine hc1.out.mono ?_
              rintro e w50 ⟨rfl, hf⟩
              have HF1 := hid hf
              have ho4 := (hf.cell (p := ⟨ob, j, none⟩) (World.block_lt_of_cell? _ _ HOC.out) id).trans HOC.out
              clear hf ho1 hc1
              go_wp2_with fail
              refine (hc2.out _ HF1.out).mono ?_
              rintro e w51 ⟨rfl, hf⟩
              have HF2 := hid (HF1.out.trans0 hf)
              have ho5 := (HF2.out.cell (p := ⟨ob, j, none⟩) (World.block_lt_of_cell? _ _ HOC.out) id).trans HOC.out
              clear hf ho4 hc2
              go_wp2_with fail
              refine (hc3.out _ HF2.out).mono ?_
              rintro e w52 ⟨rfl, hf⟩
              have HF3 := hid ((hR.out.trans0 HF2.out).trans0 hf)
              clear hf ho5 hc3 i8
              go_wp2
              go_roundw
              case rel => exact ⟨j + 1, by go_num, by omega, HF3⟩
              case measure => simp [intOf]; omega
            · have HP1 := hid (HP.out.fr0 hR.out)
              have HFD := hid (HFC.out.trans0 hR.out)
              have HMY := hid (show SpansIn wr am bm 0 (mnyL k) ∧ k ≤ capm ∧ (am = none → capm = 0) from ⟨HMY.out.1.fr0 hR.out, HMY.out.2⟩)
              clear hR HOR HT HP HFC
              go_wp2_with fail
              clear hlt hj
              generalize Value.int .i64 (j : Int) = zj
              obtain ⟨wl, rfl⟩ : ∃ wl : World, wl = wr := ⟨_, rfl⟩
              go_loopw [9] (fun i wr => ∃ x : Nat, i = .int .i64 x ∧ 1 ≤ x ∧ x ≤ 5 ∧ Hid (Fr0 wl wr)) (fun i _ => 5 - (intOf i).toNat)
              case atStart => exact ⟨1, rfl, by omega, by omega, hid (Fr.refl _ _)⟩
              case round =>
                obtain ⟨x, rfl, hx1, hx5, hR⟩ := hrel
                by_cases hltx : x ≤ 4
                · have hlbx : decide ((x : Int) ≤ 4) = true := by rw [decide_eq_true_eq]; omega
                  go_wp2_with fail
                  try simp only [hlbx]
                  obtain ⟨wl2, rfl⟩ : ∃ wl2 : World, wl2 = wr := ⟨_, rfl⟩
                  go_loopw [10] (fun i wr => ∃ y : Nat, i = .int .i64 y ∧ 1 ≤ y ∧ y ≤ 5 ∧ Hid (Fr0 wl wr)) (fun i _ => 5 - (intOf i).toNat)
                  case atStart => exact ⟨1, rfl, by omega, by omega, hR⟩
                  case round =>
                    obtain ⟨y, rfl, hy1, hy5, hR2⟩ := hrel
                    by_cases hlty : y ≤ 4
                    · have hlby : decide ((y : Int) ≤ 4) = true := by rw [decide_eq_true_eq]; omega
                      go_wp2_with fail
                      try simp only [hlby]
                      obtain ⟨wl3, rfl⟩ : ∃ wl3 : World, wl3 = wr := ⟨_, rfl⟩
                      go_loopw [11] (fun i wr => ∃ z : Nat, i = .int .i64 z ∧ z ≤ 6 ∧ Hid (Fr0 wl wr)) (fun i _ => 6 - (intOf i).toNat)
                      case atStart => exact ⟨0, rfl, by omega, hR2⟩
                      case round =>
                        obtain ⟨z, rfl, hz6, hR3⟩ := hrel
                        by_cases hltz : z < 6
                        · have htm : ((z : Int).tdiv 5) = ((z : Int) / 5) := Int.tdiv_eq_ediv_of_nonneg (by omega)
                          have e1 : IntKind.i64.wrap (2 + (z : Int)) = 2 + (z : Int) := IntWalk.i64_in _ (by omega)
                          have e2 : IntKind.i64.wrap (5 * ((z : Int) / 5)) = 5 * ((z : Int) / 5) := IntWalk.i64_in _ (by omega)
                          have e3 : IntKind.i64.wrap (4 - 5 * ((z : Int) / 5)) = 4 - 5 * ((z : Int) / 5) := IntWalk.i64_in _ (by omega)
                          have e4 : IntKind.i64.wrap ((z : Int) / 5) = ((z : Int) / 5) := IntWalk.i64_in _ (by omega)
                          have HWF : Hid (∀ s ∈ [spx 1 0 z, spx x z 5, spx y 2 (2 + (z : Int)), spx 3 1 (4 - 5 * ((z : Int) / 5))], s.wf) := hid (by
                            have q1 : (Lit.int .i64 (z : Int)).wf = true := WalkArith.wf_i64 ⟨by omega, by omega⟩
                            have q2 : (Lit.int .i64 (x : Int)).wf = true := WalkArith.wf_i64 ⟨by omega, by omega⟩
                            have q3 : (Lit.int .i64 (y : Int)).wf = true := WalkArith.wf_i64 ⟨by omega, by omega⟩
                            have q4 : (Lit.int .i64 (2 + (z : Int))).wf = true := WalkArith.wf_i64 ⟨by omega, by omega⟩
                            have q5 : (Lit.int .i64 (4 - 5 * ((z : Int) / 5))).wf = true := WalkArith.wf_i64 ⟨by omega, by omega⟩
                            intro s hs
                            simp only [List.mem_cons, List.not_mem_nil, or_false] at hs
                            rcases hs with rfl | rfl | rfl | rfl
                            · exact spx_wf (by decide) (by decide) q1
                            · exact spx_wf q2 q1 (by decide)
                            · exact spx_wf q3 (by decide) q4
                            · exact spx_wf (by decide) (by decide) q5)
                          go_wp2_with fail
                          refine (span_any 1 0 z _).mono ?_
                          rintro e w60 ⟨rfl, hf⟩
                          have HF := hid (hR3.out.trans0 hf)
                          clear hf
                          go_wp2_with fail
                          refine (span_any x z 5 _).mono ?_
                          rintro e w61 ⟨rfl, hf⟩
                          have HF := hid (HF.out.trans0 hf)
                          clear hf
                          go_wp2_with fail
                          refine (span_any y 2 (2 + (z : Int)) _).mono ?_
                          rintro e w62 ⟨rfl, hf⟩
                          have HF := hid (HF.out.trans0 hf)
                          clear hf
                          go_wp2_with fail
                          refine (span_any 3 1 (4 - 5 * ((z : Int) / 5)) _).mono ?_
                          rintro e w63 ⟨rfl, hf⟩
                          have HF := hid (HF.out.trans0 hf)
                          clear hf e1 e2 e3 e4 htm
                          have HL := hid (spans_block [spx 1 0 z, spx x z 5, spx y 2 (2 + (z : Int)), spx 3 1 (4 - 5 * ((z : Int) / 5))] (alloc_block w63 (.cells #[.int .i64 1, .int .i64 1, .int .i64 0, .int .i64 0, .int .i64 0, .int .i64 z, .int .i64 x, .int .i64 1, .int .i64 0, .int .i64 0, .int .i64 z, .int .i64 5, .int .i64 y, .int .i64 1, .int .i64 0, .int .i64 0, .int .i64 2, .int .i64 (2 + (z : Int)), .int .i64 3, .int .i64 1, .int .i64 0, .int .i64 0, .int .i64 1, .int .i64 (4 - 5 * ((z : Int) / 5))] 50)) HWF.out (by simp))
                          have HF := hid (HF.out.alloc (.cells #[.int .i64 1, .int .i64 1, .int .i64 0, .int .i64 0, .int .i64 0, .int .i64 z, .int .i64 x, .int .i64 1, .int .i64 0, .int .i64 0, .int .i64 z, .int .i64 5, .int .i64 y, .int .i64 1, .int .i64 0, .int .i64 0, .int .i64 2, .int .i64 (2 + (z : Int)), .int .i64 3, .int .i64 1, .int .i64 0, .int .i64 0, .int .i64 1, .int .i64 (4 - 5 * ((z : Int) / 5))] 50))
                          obtain ⟨LL, hLL⟩ : ∃ LL, LL = [spx 1 0 z, spx x z 5, spx y 2 (2 + (z : Int)), spx 3 1 (4 - 5 * ((z : Int) / 5))] := ⟨_, rfl⟩
                          have hl4 : Hid (LL.length = 4) := hid (by rw [hLL]; rfl)
                          rw [← hLL] at HL
                          clear hLL HWF
                          go_upto_region 30 with (fail)
                          generalize w63.alloc (.cells #[.int .i64 1, .int .i64 1, .int .i64 0, .int .i64 0, .int .i64 0, .int .i64 z, .int .i64 x, .int .i64 1, .int .i64 0, .int .i64 0, .int .i64 z, .int .i64 5, .int .i64 y, .int .i64 1, .int .i64 0, .int .i64 0, .int .i64 2, .int .i64 (2 + (z : Int)), .int .i64 3, .int .i64 1, .int .i64 0, .int .i64 0, .int .i64 1, .int .i64 (4 - 5 * ((z : Int) / 5))] 50) = w64 at HL HF ⊢
                          generalize w63.heap.size = lb at HL ⊢
                          have hc1 := hid (orderExact_walk (some ⟨lb, 0, none⟩) lb 0 4 LL w64 HL.out)
                          have hc2 := hid (fun W (hW : Fr0 w64 W) => small_any (some ⟨lb, 0, none⟩) lb 0 4 LL W (HL.out.fr0 hW))
                          rw [hl4.out] at hc1 hc2
                          go_wp2_with fail
                          refine hc1.out.mono ?_
                          rintro e w65 ⟨rfl, hf⟩
                          have HF1 := hid hf
                          clear hf hc1
                          go_wp2_with fail
                          refine (hc2.out _ HF1.out).mono ?_
                          rintro e w66 ⟨vs, rfl, hvs, hf⟩
                          have hs6 := smlL_len LL
                          obtain ⟨a5, b5, c5, rfl, hs5, hc5, hn5⟩ := spansOwn hvs (smlL_wf LL) (by omega)
                          have HF2 := hid (HF1.out.trans0 hf)
                          have hc3 := hid (orderLines_walk a5 b5 0 c5 (smlL LL) w66 hs5 hc5 hn5)
                          clear hf hvs hs5 hc5 hn5 hc2 hs6
                          go_wp2_with fail
                          refine hc3.out.mono ?_
                          rintro e w67 ⟨rfl, hf⟩
                          have HF3 := hid ((HF.out.trans0 HF2.out).trans0 hf)
                          clear hf hc3
                          go_wp2
                          go_roundw
                          case rel => exact ⟨z + 1, by go_num, by omega, HF3⟩
                          case measure => simp [intOf]; omega
                        · go_wp2
                          go_roundw
                          case rel => exact ⟨y + 1, by go_num, by omega, by omega, hR3⟩
                          case measure => simp [intOf]; omega
                    · go_wp2
                      go_roundw
                      case rel => exact ⟨x + 1, by go_num, by omega, by omega, hR2⟩
                      case measure => simp [intOf]; omega
                · have HFE := hid (HFD.out.trans0 hR.out)
                  have HP2 := hid (HP1.out.fr0 hR.out)
                  have HMZ := hid (show SpansIn wr am bm 0 (mnyL k) ∧ k ≤ capm ∧ (am = none → capm = 0) from ⟨HMY.out.1.fr0 hR.out, HMY.out.2⟩)
                  clear hR HP1 HMY HFD
                  go_wp2_with fail
                  clear hx1 hx5 hltx
                  generalize Value.int .i64 (x : Int) = zx
                  have HMB := hid (alloc_block wr (.cells #[.int .i64 2, .int .i64 0, .int .i64 0, .int .i64 0, .int .i64 9007199254740991, .int .i64 9007199254740991] 50))
                  have HF := hid (fr0_alloc wr (.cells #[.int .i64 2, .int .i64 0, .int .i64 0, .int .i64 0, .int .i64 9007199254740991, .int .i64 9007199254740991] 50))
                  go_upto_region 33 with (fail)
                  generalize wr.alloc (.cells #[.int .i64 2, .int .i64 0, .int .i64 0, .int .i64 0, .int .i64 9007199254740991, .int .i64 9007199254740991] 50) = wm at HMB HF ⊢
                  generalize hmb : wr.heap.size = mb at HMB ⊢
                  clear hmb
                  have hck := hid (fun W (hW : Fr0 wr W) => check_any am bm 0 capm (mnyL k) W (HMZ.out.1.fr0 hW))
                  have hl1 := hid (fun W (hW : Fr0 wr W) => orderLines_walk am bm 0 capm (mnyL k) W (HMZ.out.1.fr0 hW) (by rw [mnyL_len]; exact HMZ.out.2.1) HMZ.out.2.2)
                  have hc256 : 256 ≤ capm := by have := HMZ.out.2.1; have := HK257.out; omega
                  have hsu : ∀ W, (Instr.slice 45 (.slice am k capm) none (some (.int .i64 256)) none).run Try.prog W = .ok (.slice (cutA am capm 0 6) 256 capm) W := fun W => slice_upto Try.underlying45 W (size50 W) 256 hc256
                  have hl2 := hid (fun W (hW : Fr0 wr W) => orderLines_walk (cutA am capm 0 6) bm 0 capm ((mnyL k).take 256) W ((HMZ.out.1.fr0 hW).take 256 capm) (by simp; omega) (fun h => HMZ.out.2.2 (cutA_none h)))
                  have hl256 : Hid (((mnyL k).take 256).length = 256) := hid (by rw [List.length_take, mnyL_len]; have := HK257.out; omega)
                  rw [mnyL_len, show chk (mnyL k) = 5 from by rw [HK257.out]; exact known_many] at hck
                  rw [mnyL_len] at hl1
                  rw [hl256.out] at hl2
                  clear hc256
                  go_wp2_with fail
                  refine (works28_any _).mono ?_
                  rintro e w70 ⟨rfl, hf⟩
                  have HF := hid (HF.out.trans0 hf)
                  have HMB := hid (hf.at HMB.out id)
                  clear hf
                  go_wp2_with fail
                  refine (hck.out _ HF.out).mono ?_
                  rintro e w71 ⟨rfl, hf⟩
                  have HF := hid (HF.out.trans0 hf)
                  have HMB := hid (hf.at HMB.out id)
                  clear hf hck
                  go_wp2_with fail
                  refine (hl1.out _ HF.out).mono ?_
                  rintro e w72 ⟨rfl, hf⟩
                  have HF := hid (HF.out.trans0 hf)
                  have HMB := hid (hf.at HMB.out id)
                  clear hf hl1
                  go_wp2_with fail
                  refine (hl2.out _ HF.out).mono ?_
                  rintro e w73 ⟨rfl, hf⟩
                  have HF := hid (HF.out.trans0 hf)
                  have HMB := hid (hf.at HMB.out id)
                  clear hf hl2 hsu
                  have HN0 := hid (alloc_block w73 (.cells #[.int .i64 0] 3))
                  have HF := hid (HF.out.alloc (.cells #[.int .i64 0] 3))
                  have HMB := hid ((fr0_alloc w73 (.cells #[.int .i64 0] 3)).at HMB.out id)
                  have HN0 := hid ((fr0_alloc (w73.alloc (.cells #[.int .i64 0] 3)) (.cells #[.int .i64 2, .int .i64 0, .int .i64 0, .int .i64 0, .int .i64 9007199254740991, .int .i64 9007199254740991] 50)).at HN0.out id)
                  have HSB := hid (alloc_block (w73.alloc (.cells #[.int .i64 0] 3)) (.cells #[.int .i64 2, .int .i64 0, .int .i64 0, .int .i64 0, .int .i64 9007199254740991, .int .i64 9007199254740991] 50))
                  have HF := hid (HF.out.alloc (.cells #[.int .i64 2, .int .i64 0, .int .i64 0, .int .i64 0, .int .i64 9007199254740991, .int .i64 9007199254740991] 50))
                  have hsz : (w73.alloc (.cells #[.int .i64 0] 3)).heap.size = w73.heap.size + 1 := by simp
                  have HMOST := hid (lines_any 0 _ _ 0 1 [mostS] _ _ 0 1 [0] _ (spans_block [mostS] HSB.out (by intro s hs; rw [List.mem_singleton.1 hs]; exact ⟨⟨by decide, by decide, by decide, by decide⟩, by decide, by decide⟩) (by decide)) (nums_block [0] HN0.out (by decide)) known_most)
                  rw [hsz] at HMOST
                  clear hsz
                  have m0 : (w73.alloc (.cells #[.int .i64 0] 3)).cell? ⟨mb, 0, none⟩ = some (.int .i64 2) := cell_of_block HMB.out 0
                  have m1 : (w73.alloc (.cells #[.int .i64 0] 3)).cell? ⟨mb, 1, none⟩ = some (.int .i64 0) := cell_of_block HMB.out 1
                  have m2 : (w73.alloc (.cells #[.int .i64 0] 3)).cell? ⟨mb, 2, none⟩ = some (.int .i64 0) := cell_of_block HMB.out 2
                  have m3 : (w73.alloc (.cells #[.int .i64 0] 3)).cell? ⟨mb, 3, none⟩ = some (.int .i64 0) := cell_of_block HMB.out 3
                  have m4 : (w73.alloc (.cells #[.int .i64 0] 3)).cell? ⟨mb, 4, none⟩ = some (.int .i64 9007199254740991) := cell_of_block HMB.out 4
                  have m5 : (w73.alloc (.cells #[.int .i64 0] 3)).cell? ⟨mb, 5, none⟩ = some (.int .i64 9007199254740991) := cell_of_block HMB.out 5
                  go_wp2_with fail
                  clear m0 m1 m2 m3 m4 m5
                  refine HMOST.out.mono ?_
                  rintro e w74 ⟨rfl, hf⟩
                  have HF := hid (HF.out.trans0 hf)
                  clear hf HMOST HMB HSB HN0
                  go_wp2_with fail
                  refine (lines_any 0 none 0 0 0 [] none 0 0 0 [] _ (SpansIn.nil _) (NumsIn.nil _) known_none).mono ?_
                  rintro e w75 ⟨rfl, hf⟩
                  have HF := hid (HF.out.trans0 hf)
                  clear hf
                  go_wp2_with fail
                  refine (lines_any 0 _ _ 0 2 [spx 1 0 (-1), spx 4 2 (-1)] none 0 0 0 [] _ (HP2.out.fr0 HF.out) (NumsIn.nil _) known_pend).mono ?_
                  rintro e w76 ⟨rfl, hf⟩
                  go_wp2
                  go_ret
                  exact ⟨rfl, (HFE.out.trans0 HF.out).trans0 hf⟩
end Go.Proofs.Ytjaabbjobnfmmaa

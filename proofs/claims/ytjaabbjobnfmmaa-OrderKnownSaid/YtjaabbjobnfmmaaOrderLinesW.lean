/-
  OrderLines, walked.
-/
import Derived.Test.YtjaabbjobnfmmaaOwnS
import Derived.Test.YtjaabbjobnfmmaaRefLineW
import Derived.Test.YtjaabbjobnfmmaaOrderHoldsW
namespace Go.Proofs.Ytjaabbjobnfmmaa
open Go.RowKit

set_option maxRecDepth 100000 in
set_option maxHeartbeats 16000000 in
theorem orderLines_walk (a : Option Addr) (b off cap : Nat) (S : List Sp) (w : World) (h : SpansIn w a b off S) (hc : S.length ≤ cap) (hn : a = none → cap = 0) :
    Calls Try.prog 7 #[.slice a S.length cap] w fun e w' => e = .returned (.bool true) ∧ Fr0 w w' := by
  obtain ⟨i0, hi, hz0, hz1, hz2⟩ := info_parts info50
  have HZ := hid (show Try.prog.info? 50 = some i0 ∧ i0.zero = some zero50 ∧ i0.size = 6 ∧ i0.bytes = 48 from ⟨hi, hz0, hz1, hz2⟩)
  have hsm := h.small
  have HC := hid hc
  clear hi hz0 hz1 hz2
  by_cases q1 : S.length ≤ 300
  · have hL := h
    have hlen : S.length = S.length := rfl
    have hm0 := q1
    have HS : Hid (SpansIn w a b off (S)) := hid hL
    have hll : (S).length = S.length := hlen
    have hm : S.length ≤ 300 := hm0
    have HC3 := hid hm
    have HN := hid hn
    clear h hn hL hlen hll hm0
    go_enter Try.func7, Try.ntmps7
    go_wp2_with (at_builtin; refine append_own_any _ rfl (.tmp 14) (.tmp 15) 45 rfl w.heap.size 50 i0 zero50 6 48 Try.underlying45 HZ.out.1 HZ.out.2.1 HZ.out.2.2.1 HZ.out.2.2.2 rfl (by decide) _ 0 [] rfl (World.ownsRow_nil _ _ _ _) a (S.length) cap (flat Sp.enc (S)) rfl (by rw [flat_length enc6]) ?c1 ?c2 ?c3 ?c4 ?c5 ?c6 ?_)
    case c1 => intro ha; have h1 := HN.out ha; have h2 := HC.out; first | exact ⟨List.eq_nil_of_length_eq_zero (by omega), h1⟩ | omega
    case c2 =>
      intro ad had j u hu
      have hj : j < (S).length * 6 := by
        have := (List.getElem?_eq_some_iff.1 hu).1
        rwa [flat_length enc6] at this
      have ha := HS.out.addr (by omega)
      rw [ha] at had
      cases had
      rw [Addr.add_lit, HS.out.cells j hj, hu]
    case c3 => exact flat_one enc6_one (S)
    case c4 => have := HC3.out; simp only [maxLen]; omega
    case c5 => have := HC3.out; omega
    try (case c6 => exact Nat.le_refl _)
    intro v' w1 hown hg
    have hown1 : OwnS w1 w.heap.size v' (S) := by unfold OwnS; simpa using hown
    have hf1 : Fr0 w w1 := (Fr.of_grown hg).mono (fun i hi e => by simp [Value.ownBlock] at e)
    obtain ⟨a1, g1, cap1, rfl, hs1⟩ := spansIn_own hown1 HS.out.wf (by have := HC3.out; omega)
    clear hown hg hown1
    have HF1 := hid hf1
    have HS1 := hid hs1
    clear hf1 hs1
    have H26 := hid (lineR_any a1 g1 0 cap1 (S) w1 HS1.out)
    have hlr := hid (lineR_len (S))
    obtain ⟨rr, hrr⟩ : ∃ rr, rr = lineR (S) := ⟨_, rfl⟩
    have HRR := hid hrr
    rw [← hrr] at H26 hlr
    clear hrr
    go_wp2_with fail
    refine H26.out.mono ?_
    rintro e w2 ⟨⟨v2, rfl, hv2⟩, hf2⟩
    obtain ⟨a2, g2, cap2, rfl, hn2⟩ := hv2.nums (by have := hlr.out; omega)
    have HF2 := hid hf2
    have HN2 : Hid (NumsIn w2 a2 g2 0 (ints rr.2)) := hid hn2
    clear hv2 hf2 hn2 H26
    have H27 := hid (refLine_any a b off cap (S) w2 (HS.out.fr0 (HF1.out.trans0 HF2.out)))
    rw [← HRR.out] at H27
    go_wp2_with fail
    refine H27.out.mono ?_
    rintro e w3 ⟨⟨v3, rfl, hv3⟩, hf3⟩
    obtain ⟨a3, g3, cap3, rfl, hn3⟩ := hv3.nums (by have := hlr.out; omega)
    have HF3 := hid hf3
    have HN3 : Hid (NumsIn w3 a3 g3 0 (ints rr.2)) := hid hn3
    clear hv3 hf3 hn3 H27
    go_wp2_with fail
    have HS1' := hid (HS1.out.fr0 (HF2.out.trans0 HF3.out))
    have HS' := hid (HS.out.fr0 ((HF1.out.trans0 HF2.out).trans0 HF3.out))
    go_loopw [8] (fun i wr => ∃ k : Nat, i = .int .i64 k ∧ k ≤ S.length ∧ Hid (Fr0 w3 wr)) (fun i _ => S.length - (intOf i).toNat)
    case atStart => exact ⟨0, rfl, Nat.zero_le _, hid (Fr.refl _ _)⟩
    case round =>
      obtain ⟨k, rfl, hk, hR⟩ := hrel
      by_cases hlt : k < S.length
      · have hlt2 : k < (S).length := hlt
        have i1 := fun W => HS1'.out.index cap1 k hlt2 W
        have i2 := fun W => HS'.out.index cap k hlt2 W
        obtain ⟨c0, c1, c2, c3, c4, c5⟩ := (HS1'.out.fr0 hR.out).at k hlt2
        obtain ⟨d0, d1, d2, d3, d4, d5⟩ := (HS'.out.fr0 hR.out).at k hlt2
        simp only [Nat.zero_add] at i1 c0 c1 c2 c3 c4 c5
        have hgd := guard50
        have hne := fun W => neqR50 ((S)[k]) W
        generalize (S)[k] = y at c0 c1 c2 c3 c4 c5 d0 d1 d2 d3 d4 d5 hne
        clear hlt2
        go_wp2
        go_region
        go_wp2
        go_roundw
        case rel => exact ⟨k + 1, by go_num, by omega, hid hR.out.drew⟩
        case measure => simp [intOf]; omega
      · obtain rfl : k = S.length := by omega
        have HF4 := hid (((HF1.out.trans0 HF2.out).trans0 HF3.out).trans0 hR.out)
        have HC1 := hid (check_any a b off cap (S) wr (HS.out.fr0 HF4.out))
        have HC2 := hid (fun W (hW : Fr0 wr W) => refCheck_any a b off cap (S) W (HS.out.fr0 (HF4.out.trans0 hW)))
        have HE := hid (fun W (hW : Fr0 wr W) => eqInts_any a2 g2 0 cap2 (ints rr.2) a3 g3 0 cap3 (ints rr.2) W (HN2.out.fr0 ((HF3.out.trans0 hR.out).trans0 hW)) (HN3.out.fr0 (hR.out.trans0 hW)))
        rw [decide_eq_true rfl, show (ints rr.2).length = rr.2.length by simp [ints]] at HE
        have hcc : (chk (S) == chk (S)) = true := by simp
        have hrr : (rr.1 == rr.1) = true := by simp
        generalize chk (S) = c at HC1 HC2 hcc
        clear hR hk
        go_wp2_with fail
        refine HC1.out.mono ?_
        rintro e w5 ⟨rfl, hf5⟩
        have HF5 := hid hf5
        clear hf5
        go_wp2_with fail
        refine (HC2.out _ HF5.out).mono ?_
        rintro e w6 ⟨rfl, hf6⟩
        have HF6 := hid (HF5.out.trans0 hf6)
        clear hf6
        go_wp2_with fail
        refine (HE.out _ HF6.out).mono ?_
        rintro e w7 ⟨rfl, hf7⟩
        have HF7 := hid (HF6.out.trans0 hf7)
        clear hf7
        go_wp2_with fail
        refine (works28_any _).mono ?_
        rintro e w8 ⟨rfl, hf8⟩
        go_wp2
        go_ret
        exact ⟨rfl, (HF4.out.trans0 HF7.out).trans0 hf8⟩
  · obtain ⟨L, hLe⟩ : ∃ L, L = S.take 300 := ⟨_, rfl⟩
    have hL : SpansIn w a b off L := by rw [hLe]; exact h.upto 300
    have hlen : L.length = 300 := by rw [hLe]; simp; omega
    have hm0 : (300 : Nat) ≤ 300 := Nat.le_refl _
    have hcap : 300 ≤ cap := by omega
    clear hLe
    have HS : Hid (SpansIn w a b off (L)) := hid hL
    have hll : (L).length = 300 := hlen
    have HLL := hid hll
    have hm : 300 ≤ 300 := hm0
    have HC3 := hid hm
    have HN := hid hn
    clear h hn hL hlen hll hm0
    go_enter Try.func7, Try.ntmps7
    go_wp2_with (at_builtin; refine append_own_any _ rfl (.tmp 14) (.tmp 15) 45 rfl w.heap.size 50 i0 zero50 6 48 Try.underlying45 HZ.out.1 HZ.out.2.1 HZ.out.2.2.1 HZ.out.2.2.2 rfl (by decide) _ 0 [] rfl (World.ownsRow_nil _ _ _ _) a (300) cap (flat Sp.enc (L)) rfl (by rw [flat_length enc6, HLL.out]) ?c1 ?c2 ?c3 ?c4 ?c5 ?c6 ?_)
    case c1 => intro ha; have h1 := HN.out ha; have h2 := HC.out; first | exact ⟨List.eq_nil_of_length_eq_zero (by omega), h1⟩ | omega
    case c2 =>
      intro ad had j u hu
      have hj : j < (L).length * 6 := by
        have := (List.getElem?_eq_some_iff.1 hu).1
        rwa [flat_length enc6] at this
      have ha := HS.out.addr (by omega)
      rw [ha] at had
      cases had
      rw [Addr.add_lit, HS.out.cells j hj, hu]
    case c3 => exact flat_one enc6_one (L)
    case c4 => have := HC3.out; simp only [maxLen]; omega
    case c5 => have := HC3.out; omega
    try (case c6 => exact Nat.le_refl _)
    intro v' w1 hown hg
    have hown1 : OwnS w1 w.heap.size v' (L) := by unfold OwnS; rw [HLL.out]; simpa using hown
    have hf1 : Fr0 w w1 := (Fr.of_grown hg).mono (fun i hi e => by simp [Value.ownBlock] at e)
    obtain ⟨a1, g1, cap1, rfl, hs1⟩ := spansIn_own hown1 HS.out.wf (by rw [HLL.out]; have := HC3.out; omega)
    clear hown hg hown1
    rw [HLL.out]
    have HF1 := hid hf1
    have HS1 := hid hs1
    clear hf1 hs1
    have H26 := hid (lineR_any a1 g1 0 cap1 (L) w1 HS1.out)
    have hlr := hid (lineR_len (L))
    obtain ⟨rr, hrr⟩ : ∃ rr, rr = lineR (L) := ⟨_, rfl⟩
    have HRR := hid hrr
    rw [← hrr] at H26 hlr
    rw [HLL.out] at H26
    clear hrr
    go_wp2_with fail
    refine H26.out.mono ?_
    rintro e w2 ⟨⟨v2, rfl, hv2⟩, hf2⟩
    obtain ⟨a2, g2, cap2, rfl, hn2⟩ := hv2.nums (by have := hlr.out; omega)
    have HF2 := hid hf2
    have HN2 : Hid (NumsIn w2 a2 g2 0 (ints rr.2)) := hid hn2
    clear hv2 hf2 hn2 H26
    have H27 := hid (refLine_any a b off cap (L) w2 (HS.out.fr0 (HF1.out.trans0 HF2.out)))
    rw [← HRR.out] at H27
    rw [HLL.out] at H27
    go_wp2_with fail
    refine H27.out.mono ?_
    rintro e w3 ⟨⟨v3, rfl, hv3⟩, hf3⟩
    obtain ⟨a3, g3, cap3, rfl, hn3⟩ := hv3.nums (by have := hlr.out; omega)
    have HF3 := hid hf3
    have HN3 : Hid (NumsIn w3 a3 g3 0 (ints rr.2)) := hid hn3
    clear hv3 hf3 hn3 H27
    go_wp2_with fail
    have HS1' := hid (HS1.out.fr0 (HF2.out.trans0 HF3.out))
    have HS' := hid (HS.out.fr0 ((HF1.out.trans0 HF2.out).trans0 HF3.out))
    go_loopw [8] (fun i wr => ∃ k : Nat, i = .int .i64 k ∧ k ≤ 300 ∧ Hid (Fr0 w3 wr)) (fun i _ => 300 - (intOf i).toNat)
    case atStart => exact ⟨0, rfl, Nat.zero_le _, hid (Fr.refl _ _)⟩
    case round =>
      obtain ⟨k, rfl, hk, hR⟩ := hrel
      by_cases hlt : k < 300
      · have hlt2 : k < (L).length := by rw [HLL.out]; exact hlt
        have i1 := fun W => HS1'.out.index cap1 k hlt2 W
        have i2 := fun W => HS'.out.index cap k hlt2 W
        rw [HLL.out] at i1 i2
        obtain ⟨c0, c1, c2, c3, c4, c5⟩ := (HS1'.out.fr0 hR.out).at k hlt2
        obtain ⟨d0, d1, d2, d3, d4, d5⟩ := (HS'.out.fr0 hR.out).at k hlt2
        simp only [Nat.zero_add] at i1 c0 c1 c2 c3 c4 c5
        have hgd := guard50
        have hne := fun W => neqR50 ((L)[k]) W
        generalize (L)[k] = y at c0 c1 c2 c3 c4 c5 d0 d1 d2 d3 d4 d5 hne
        clear hlt2
        go_wp2
        go_region
        go_wp2
        go_roundw
        case rel => exact ⟨k + 1, by go_num, by omega, hid hR.out.drew⟩
        case measure => simp [intOf]; omega
      · obtain rfl : k = 300 := by omega
        have HF4 := hid (((HF1.out.trans0 HF2.out).trans0 HF3.out).trans0 hR.out)
        have HC1 := hid (check_any a b off cap (L) wr (HS.out.fr0 HF4.out))
        have HC2 := hid (fun W (hW : Fr0 wr W) => refCheck_any a b off cap (L) W (HS.out.fr0 (HF4.out.trans0 hW)))
        have HE := hid (fun W (hW : Fr0 wr W) => eqInts_any a2 g2 0 cap2 (ints rr.2) a3 g3 0 cap3 (ints rr.2) W (HN2.out.fr0 ((HF3.out.trans0 hR.out).trans0 hW)) (HN3.out.fr0 (hR.out.trans0 hW)))
        rw [HLL.out] at HC1 HC2
        rw [decide_eq_true rfl, show (ints rr.2).length = rr.2.length by simp [ints]] at HE
        have hcc : (chk (L) == chk (L)) = true := by simp
        have hrr : (rr.1 == rr.1) = true := by simp
        generalize chk (L) = c at HC1 HC2 hcc
        clear hR hk
        go_wp2_with fail
        refine HC1.out.mono ?_
        rintro e w5 ⟨rfl, hf5⟩
        have HF5 := hid hf5
        clear hf5
        go_wp2_with fail
        refine (HC2.out _ HF5.out).mono ?_
        rintro e w6 ⟨rfl, hf6⟩
        have HF6 := hid (HF5.out.trans0 hf6)
        clear hf6
        go_wp2_with fail
        refine (HE.out _ HF6.out).mono ?_
        rintro e w7 ⟨rfl, hf7⟩
        have HF7 := hid (HF6.out.trans0 hf7)
        clear hf7
        go_wp2_with fail
        refine (works28_any _).mono ?_
        rintro e w8 ⟨rfl, hf8⟩
        go_wp2
        go_ret
        exact ⟨rfl, (HF4.out.trans0 HF7.out).trans0 hf8⟩
end Go.Proofs.Ytjaabbjobnfmmaa

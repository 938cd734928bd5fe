/-
  Check of the document.
-/
import Derived.Test.YthbcbnihghmniaaRefA
import Derived.Test.YthbcbnihghmniaaCheck
namespace Go.Proofs.Ythbcbnihghmniaa
open Go.RowKit

theorem chk_len {L : List Int} (h : ¬(1 ≤ L.length ∧ L.length ≤ 16)) : chk L = 10 := by
  unfold chk
  rw [if_neg]
  rintro ⟨_, h2⟩
  exact h h2

theorem upto_snoc {L : List Int} {k : Nat} (hk : k < L.length) (h : Hid (∀ i (h : i < L.length), i < k → good i L[i])) (hr : good k L[k]) : Hid (∀ i (h : i < L.length), i < k + 1 → good i L[i]) := by
  refine hid fun i hi hik => ?_
  rcases Nat.lt_or_ge i k with hl | hl
  · exact h.out i hi hl
  · have : i = k := by omega
    subst this
    exact hr

set_option maxHeartbeats 8000000 in
set_option maxRecDepth 1000000 in
theorem refCheck_any (s : ByteArray) (w : World) (hs : s.size ≤ 17592186044416) :
    Calls Try.prog 11 #[.string s] w fun e w' => e = .returned (.int .i64 (chk (rn s))) ∧ Fr0 w w' := by
  have R := runes_any s w hs
  have hv := hid (rn_vld s)
  have hlen := rn_len s
  generalize rn s = L at *
  by_cases c0 : L.length < 1
  · have HC : Hid (chk L = 10) := hid (chk_len (by omega))
    go_enter Try.func11, Try.ntmps11
    go_wp2_with (go_at_call 27; refine R.mono ?_; rintro e w1 ⟨v, rfl, hf, ho⟩; obtain ⟨a, g, cap, rfl, ha, hg, hc, hz⟩ := ho.form; clear R ha hg hc hz ho)
    go_ret
    exact ⟨by rw [HC.out]; rfl, hf⟩
  by_cases c1 : 16 < L.length
  · have HC : Hid (chk L = 10) := hid (chk_len (by omega))
    go_enter Try.func11, Try.ntmps11
    go_wp2_with (go_at_call 27; refine R.mono ?_; rintro e w1 ⟨v, rfl, hf, ho⟩; obtain ⟨a, g, cap, rfl, ha, hg, hc, hz⟩ := ho.form; clear R ha hg hc hz ho)
    go_ret
    exact ⟨by rw [HC.out]; rfl, hf⟩
  have h00 : 0 < L.length := by omega
  have F0 := refFold_any L[0] (hv.out _ (List.getElem_mem h00))
  have S0 := refSmall_any (fo L[0])
  by_cases hsm : isSmall (fo L[0])
  · rw [decide_eq_true hsm] at S0
    have HS := hid hsm
    clear hsm
    go_enter Try.func11, Try.ntmps11
    go_wp2_with (first
      | (go_at_call 27; refine R.mono ?_; rintro e w1 ⟨v, rfl, hf, ho⟩; obtain ⟨a, g, cap, rfl, ha, hg, hc, hz⟩ := ho.form; have HA := hid ha; have HF := hid hf; have HCL := hid hc; have c := hc 0 h00; have hi0 : ∀ W, (Instr.indexAt 36 (.slice a L.length cap) (.int .i64 0)).run Try.prog W = .ok (.pointer (some ⟨g, 0, none⟩)) W := fun W => index36 ha cap 0 h00 W; clear R ha hg hc hz ho hf)
      | (go_at_call 29; refine (F0 _).mono ?_; rintro e w2 ⟨rfl, rfl⟩)
      | (go_at_call 28; refine (S0 _).mono ?_; rintro e w2 ⟨rfl, rfl⟩))
    clear F0 S0 c hi0
    go_loopw [4] (fun i wr => ∃ k : Nat, i = .int .i64 k ∧ k ≤ L.length ∧ Hid (Fr0 w wr) ∧ Hid (∀ j (hj : j < L.length), wr.cell? ⟨g, j, none⟩ = some (.int .i32 L[j])) ∧ Hid (∀ i (h : i < L.length), i < k → good i L[i]))
      (fun i _ => L.length - (intOf i).toNat)
    case atStart => exact ⟨0, rfl, Nat.zero_le _, HF, HCL, hid (fun _ _ h => absurd h (Nat.not_lt_zero _))⟩
    case round =>
      obtain ⟨k, rfl, hk, HF2, HC2, hG⟩ := hrel
      by_cases hlt : k < L.length
      · have hix := index36 HA.out cap k hlt
        have c := HC2.out k hlt
        have F := refFold_any L[k] (hv.out _ (List.getElem_mem hlt))
        have S := refSmall_any (fo L[k])
        have hgd := hid (fun h => upto_snoc hlt hG h)
        have hbad := hid (fun h => chk_bad k hlt h)
        have hk0 : Hid (¬isSmall (fo L[k]) → k ≠ 0) := hid (fun h e => by subst e; exact h HS.out)
        obtain ⟨r, hr⟩ : ∃ r, r = L[k] := ⟨_, rfl⟩
        rw [← hr] at c F S hgd hbad hk0
        clear hr
        by_cases hsm : isSmall (fo r)
        · rw [decide_eq_true hsm] at S
          have hcs : (48 ≤ r ∧ r ≤ 57) ∨ (r = 45) ∨ (r = 95) ∨ (r < 48 ∧ r ≠ 45) ∨ (57 < r ∧ r ≠ 95) := by omega
          rcases hcs with ⟨o1, o2⟩ | rfl | rfl | ⟨o1, o2⟩ | ⟨o1, o2⟩
          · have b1 : (r != 45) = true := by simp; omega
            have b2 : (r != 95) = true := by simp; omega
            have hg := hgd.out (Or.inl hsm)
            clear hgd hbad hk0 hsm
            go_wp2_with (first | (go_at_call 29; refine (F _).mono ?_; rintro e w2 ⟨rfl, rfl⟩) | (go_at_call 28; refine (S _).mono ?_; rintro e w2 ⟨rfl, rfl⟩))
            go_roundw
            case rel => exact ⟨k + 1, by go_num, by omega, HF2, HC2, hg⟩
            case measure => simp [intOf]; omega
          · have hg := hgd.out (Or.inl hsm)
            clear hgd hbad hk0 hsm
            go_wp2_with (first | (go_at_call 29; refine (F _).mono ?_; rintro e w2 ⟨rfl, rfl⟩) | (go_at_call 28; refine (S _).mono ?_; rintro e w2 ⟨rfl, rfl⟩))
            go_roundw
            case rel => exact ⟨k + 1, by go_num, by omega, HF2, HC2, hg⟩
            case measure => simp [intOf]; omega
          · have hg := hgd.out (Or.inl hsm)
            clear hgd hbad hk0 hsm
            go_wp2_with (first | (go_at_call 29; refine (F _).mono ?_; rintro e w2 ⟨rfl, rfl⟩) | (go_at_call 28; refine (S _).mono ?_; rintro e w2 ⟨rfl, rfl⟩))
            go_roundw
            case rel => exact ⟨k + 1, by go_num, by omega, HF2, HC2, hg⟩
            case measure => simp [intOf]; omega
          · have b1 : (r != 45) = true := by simp; omega
            have b2 : (r != 95) = true := by simp; omega
            have hg := hgd.out (Or.inl hsm)
            clear hgd hbad hk0 hsm
            go_wp2_with (first | (go_at_call 29; refine (F _).mono ?_; rintro e w2 ⟨rfl, rfl⟩) | (go_at_call 28; refine (S _).mono ?_; rintro e w2 ⟨rfl, rfl⟩))
            go_roundw
            case rel => exact ⟨k + 1, by go_num, by omega, HF2, HC2, hg⟩
            case measure => simp [intOf]; omega
          · have b1 : (r != 45) = true := by simp; omega
            have b2 : (r != 95) = true := by simp; omega
            have hg := hgd.out (Or.inl hsm)
            clear hgd hbad hk0 hsm
            go_wp2_with (first | (go_at_call 29; refine (F _).mono ?_; rintro e w2 ⟨rfl, rfl⟩) | (go_at_call 28; refine (S _).mono ?_; rintro e w2 ⟨rfl, rfl⟩))
            go_roundw
            case rel => exact ⟨k + 1, by go_num, by omega, HF2, HC2, hg⟩
            case measure => simp [intOf]; omega
        · rw [decide_eq_false hsm] at S
          have hcs : (48 ≤ r ∧ r ≤ 57) ∨ (r = 45) ∨ (r = 95) ∨ (r < 48 ∧ r ≠ 45) ∨ (57 < r ∧ r ≠ 95) := by omega
          rcases hcs with ⟨o1, o2⟩ | rfl | rfl | ⟨o1, o2⟩ | ⟨o1, o2⟩
          · have b1 : (r != 45) = true := by simp; omega
            have b2 : (r != 95) = true := by simp; omega
            have hg := hgd.out (Or.inr ⟨by unfold isOther; omega, hk0.out hsm⟩)
            clear hgd hbad hk0 hsm
            go_wp2_with (first | (go_at_call 29; refine (F _).mono ?_; rintro e w2 ⟨rfl, rfl⟩) | (go_at_call 28; refine (S _).mono ?_; rintro e w2 ⟨rfl, rfl⟩))
            go_roundw
            case rel => exact ⟨k + 1, by go_num, by omega, HF2, HC2, hg⟩
            case measure => simp [intOf]; omega
          · have hg := hgd.out (Or.inr ⟨by unfold isOther; omega, hk0.out hsm⟩)
            clear hgd hbad hk0 hsm
            go_wp2_with (first | (go_at_call 29; refine (F _).mono ?_; rintro e w2 ⟨rfl, rfl⟩) | (go_at_call 28; refine (S _).mono ?_; rintro e w2 ⟨rfl, rfl⟩))
            go_roundw
            case rel => exact ⟨k + 1, by go_num, by omega, HF2, HC2, hg⟩
            case measure => simp [intOf]; omega
          · have hg := hgd.out (Or.inr ⟨by unfold isOther; omega, hk0.out hsm⟩)
            clear hgd hbad hk0 hsm
            go_wp2_with (first | (go_at_call 29; refine (F _).mono ?_; rintro e w2 ⟨rfl, rfl⟩) | (go_at_call 28; refine (S _).mono ?_; rintro e w2 ⟨rfl, rfl⟩))
            go_roundw
            case rel => exact ⟨k + 1, by go_num, by omega, HF2, HC2, hg⟩
            case measure => simp [intOf]; omega
          · have b1 : (r != 45) = true := by simp; omega
            have b2 : (r != 95) = true := by simp; omega
            have hng := hid (hbad.out (fun hg => by
              rcases hg with hg | ⟨hg, _⟩
              · exact hsm hg
              · unfold isOther at hg; omega))
            clear hgd hbad hk0 hsm
            go_wp2_with (first | (go_at_call 29; refine (F _).mono ?_; rintro e w2 ⟨rfl, rfl⟩) | (go_at_call 28; refine (S _).mono ?_; rintro e w2 ⟨rfl, rfl⟩))
            go_ret
            exact ⟨by rw [hng.out]; rfl, HF2.out⟩
          · have b1 : (r != 45) = true := by simp; omega
            have b2 : (r != 95) = true := by simp; omega
            have b3 : decide (r ≤ 57) = false := by simp; omega
            have hng := hid (hbad.out (fun hg => by
              rcases hg with hg | ⟨hg, _⟩
              · exact hsm hg
              · unfold isOther at hg; omega))
            clear hgd hbad hk0 hsm
            go_wp2_with (first | (go_at_call 29; refine (F _).mono ?_; rintro e w2 ⟨rfl, rfl⟩) | (go_at_call 28; refine (S _).mono ?_; rintro e w2 ⟨rfl, rfl⟩))
            go_ret
            exact ⟨by rw [hng.out]; rfl, HF2.out⟩
      · have HC : Hid (chk L = 0) := hid (by
          unfold chk
          rw [if_pos ⟨fun i hi => hG.out i hi (by omega), by omega, by omega⟩])
        clear hG
        go_wp2
        go_ret
        exact ⟨by rw [HC.out]; rfl, HF2.out⟩
  · rw [decide_eq_false hsm] at S0
    have HC : Hid (chk L = 10) := hid (chk_bad 0 h00 (fun hg => by
      rcases hg with hg | ⟨_, hg⟩
      · exact hsm hg
      · exact hg rfl))
    clear hsm
    go_enter Try.func11, Try.ntmps11
    go_wp2_with (first
      | (go_at_call 27; refine R.mono ?_; rintro e w1 ⟨v, rfl, hf, ho⟩; obtain ⟨a, g, cap, rfl, ha, hg, hc, hz⟩ := ho.form; have c := hc 0 h00; have hi0 : ∀ W, (Instr.indexAt 36 (.slice a L.length cap) (.int .i64 0)).run Try.prog W = .ok (.pointer (some ⟨g, 0, none⟩)) W := fun W => index36 ha cap 0 h00 W; clear R ha hg hc hz ho)
      | (go_at_call 29; refine (F0 _).mono ?_; rintro e w2 ⟨rfl, rfl⟩)
      | (go_at_call 28; refine (S0 _).mono ?_; rintro e w2 ⟨rfl, rfl⟩))
    go_ret
    exact ⟨by rw [HC.out]; rfl, hf⟩
end Go.Proofs.Ythbcbnihghmniaa

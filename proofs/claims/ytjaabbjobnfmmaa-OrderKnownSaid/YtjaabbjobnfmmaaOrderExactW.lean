/-
  OrderExact, walked.
-/
import Derived.Test.YtjaabbjobnfmmaaSmallW
import Derived.Test.YtjaabbjobnfmmaaSrch
namespace Go.Proofs.Ytjaabbjobnfmmaa
open Go.RowKit

theorem smlL_len (l : List Sp) : (smlL l).length ≤ 6 := by simp [smlL]; omega
theorem smlL_wf (l : List Sp) : ∀ x ∈ smlL l, x.wf := by
  intro x hx
  obtain ⟨y, _, rfl⟩ := List.mem_map.1 (List.mem_of_mem_take hx)
  exact sml_wf y

set_option maxRecDepth 100000 in
set_option maxHeartbeats 8000000 in
theorem orderExact_walk (a : Option Addr) (b off cap : Nat) (l : List Sp) (w : World) (h : SpansIn w a b off l) :
    Calls Try.prog 10 #[.slice a l.length cap] w fun e w' => e = .returned (.bool true) ∧ Fr0 w w' := by
  have H := hid h
  clear h
  go_enter Try.func10, Try.ntmps10
  go_wp2_with fail
  refine (works28_any _).mono ?_
  rintro e w1 ⟨rfl, hf1⟩
  have HF1 := hid hf1
  clear hf1
  have HSM := hid (small_any a b off cap l w1 (H.out.fr0 HF1.out))
  go_wp2_with fail
  refine HSM.out.mono ?_
  rintro e w2 ⟨v, rfl, hv, hf2⟩
  have hlen := smlL_len l
  have HCH := hid (sml_chk l)
  have hwf := smlL_wf l
  generalize smlL l = S at hv hlen HCH hwf
  obtain ⟨a2, g2, cap2, rfl, hs2⟩ := spansIn_own hv hwf (by omega)
  have HS := hid hs2
  have HF2 := hid (HF1.out.trans0 hf2)
  clear hv hf2 hs2 hwf HSM
  have HL := hid (lineR_any a2 g2 0 cap2 S w2 HS.out)
  rcases lineR_ways S with ⟨_, hl, hr⟩ | ⟨hc, _⟩ | ⟨o, hc, hl, ho, hr⟩
  · rw [hr] at HL
    have HNO : Hid (¬ ∃ o, IsOrd S o) := hid (by
      rintro ⟨o, ho⟩
      obtain ⟨o', ho'⟩ := line_complete HCH.out ho
      rw [hl] at ho'; cases ho')
    clear hl hr
    go_wp2_with fail
    refine HL.out.mono ?_
    rintro e w3 ⟨⟨v, rfl, hv⟩, hf3⟩
    obtain ⟨a3, g3, cap3, rfl, hn3⟩ := hv.nums (by simp)
    have HF3 := hid hf3
    clear hv hf3 hn3 HL
    simp only [List.length_nil]
    have HSR : Hid (Calls Try.prog 35 #[.slice a2 S.length cap2, .slice none 0 0] w3 (SrchRes S w3)) := hid (search_any S hlen S.length [] (by simp) List.nodup_nil (by simp) a2 g2 0 cap2 none 0 0 0 w3 (HS.out.fr0 HF3.out) (NumsIn.nil _) (Nat.le_refl _) (fun _ => rfl))
    go_wp2_with fail
    refine HSR.out.mono ?_
    rintro e w4 ⟨⟨r, rfl, hr⟩, hf4⟩
    have hrf : r = false := by
      cases r with
      | false => rfl
      | true => exact absurd (hr rfl) HNO.out
    subst hrf
    have HF4 := hid hf4
    clear hr hf4 HSR
    go_wp2
    go_ret
    exact ⟨rfl, (HF2.out.trans0 HF3.out).trans0 HF4.out⟩
  · exact absurd HCH.out hc
  · rw [hr] at HL
    have HHM := hid (ho.holds hc)
    have hol := ho.good.len
    clear hl hr hc ho
    go_wp2_with fail
    refine HL.out.mono ?_
    rintro e w3 ⟨⟨v, rfl, hv⟩, hf3⟩
    obtain ⟨a3, g3, cap3, rfl, hn3⟩ := hv.nums (by show o.length ≤ 1000; omega)
    have HF3 := hid hf3
    have HN3 : Hid (NumsIn w3 a3 g3 0 (ints o)) := hid hn3
    clear hv hf3 hn3 HL
    simp only
    have HH := hid (holds_any a2 g2 0 cap2 S a3 g3 0 cap3 (ints o) w3 (HS.out.fr0 HF3.out) HN3.out)
    rw [show (ints o).length = o.length by simp [ints], HHM.out] at HH
    go_wp2_with fail
    refine HH.out.mono ?_
    rintro e w4 ⟨rfl, hf4⟩
    have HF4 := hid hf4
    clear hf4
    go_wp2
    go_ret
    exact ⟨rfl, (HF2.out.trans0 HF3.out).trans0 HF4.out⟩
end Go.Proofs.Ytjaabbjobnfmmaa

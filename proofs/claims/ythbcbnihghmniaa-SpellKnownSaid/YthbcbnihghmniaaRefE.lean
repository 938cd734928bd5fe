/-
  Less of the document.
-/
import Derived.Test.YthbcbnihghmniaaLess
namespace Go.Proofs.Ythbcbnihghmniaa
open Go.RowKit

set_option maxHeartbeats 4000000 in
set_option maxRecDepth 100000 in
theorem refLess_any (a b : ByteArray) (w : World) (ha : a.size ≤ 17592186044416) (hb : b.size ≤ 17592186044416) :
    Calls Try.prog 20 #[.string a, .string b] w fun e w' => e = .returned (.bool (lessB a b)) ∧ Fr0 w w' := by
  have A := fun W => folded_any a W ha
  have B := fun W => folded_any b W hb
  have la := rn_len a
  have lb := rn_len b
  have ma : ((rn a).map fo).length ≤ 17592186044416 := by rw [List.length_map]; omega
  have mb : ((rn b).map fo).length ≤ 17592186044416 := by rw [List.length_map]; omega
  unfold lessB
  generalize (rn a).map fo = X at *
  generalize (rn b).map fo = Y at *
  clear la lb
  go_enter Try.func20, Try.ntmps20
  go_wp2_with (fail)
  refine (A _).mono ?_
  rintro e w1 ⟨v1, rfl, hf1, ho1⟩
  obtain ⟨a1, g1, cap1, rfl, hr1⟩ := ho1.row
  have R1 := hid hr1
  have HF1 := hid hf1
  clear hr1 hf1 ho1
  go_wp2_with (fail)
  refine (B _).mono ?_
  rintro e w2 ⟨v2, rfl, hf2, ho2⟩
  obtain ⟨a2, g2, cap2, rfl, hr2⟩ := ho2.row
  have RX := hid (R1.out.fr0 hf2)
  have RY := hid hr2
  have HF := hid (HF1.out.trans0 hf2)
  clear hr2 hf2 ho2 R1 HF1
  go_wp2_with (fail)
  go_loopw [7] (fun i wr => ∃ k : Nat, i = .int .i64 k ∧ k ≤ X.length ∧ k ≤ Y.length ∧ Hid (cmpL X Y = cmpL (X.drop k) (Y.drop k)) ∧ Hid (Fr0 w2 wr))
    (fun i _ => X.length - (intOf i).toNat)
  case atStart => exact ⟨0, rfl, Nat.zero_le _, Nat.zero_le _, hid (by simp), hid (Fr.refl _ _)⟩
  case round =>
    obtain ⟨k, rfl, hk, hky, hE, hF⟩ := hrel
    by_cases hlt : k < X.length
    · by_cases hlt2 : k < Y.length
      · have rx := RX.out.fr0 hF.out
        have ry := RY.out.fr0 hF.out
        have hix := index36 rx.addr cap1 k hlt
        have c0 := rx.cells k hlt
        have hiy := index36 ry.addr cap2 k hlt2
        have d0 := ry.cells k hlt2
        have hS := cmpL_step hlt hlt2
        have HFd := hid hF.out.drew
        have HFdd := hid hF.out.drew.drew
        clear rx ry
        generalize X[k] = x at *
        generalize Y[k] = y at *
        by_cases h0 : x = y
        · have hb0 : (x != y) = false := by simp [h0]
          have HE : Hid (cmpL X Y = cmpL (X.drop (k + 1)) (Y.drop (k + 1))) := hid (by rw [hE.out, hS, h0]; simp)
          clear hS hE h0
          go_wp2
          go_region
          go_wp2
          go_roundw
          case rel => exact ⟨k + 1, by go_num, by omega, by omega, HE, HFd⟩
          case measure => simp [intOf]; omega
        · have hb0 : (x != y) = true := by simp [h0]
          have HE : Hid (decide (cmpL X Y < 0) = decide (x < y)) := hid (by
            rw [hE.out, hS]
            by_cases h1 : x < y
            · simp [h1]
            · have h2 : y < x := by omega
              simp [h1, h2])
          clear hS hE h0
          go_wp2
          go_region
          go_wp2
          go_region
          go_wp2
          go_ret
          exact ⟨by rw [HE.out]; rfl, HF.out.trans0 HFdd.out⟩
      · have HE : Hid (decide (cmpL X Y < 0) = decide (X.length < Y.length)) := hid (by
          rw [hE.out, cmpL_long hlt (by omega)]
          have : ¬X.length < Y.length := by omega
          simp [this])
        clear hE
        go_wp2
        go_ret
        exact ⟨by rw [HE.out]; first | rfl | simp, HF.out.trans0 hF.out⟩
    · by_cases hlt2 : X.length < Y.length
      · have HE : Hid (decide (cmpL X Y < 0) = decide (X.length < Y.length)) := hid (by
          rw [hE.out, cmpL_short (by omega) (by omega)]
          have : X.length < Y.length := by omega
          simp [this])
        clear hE
        go_wp2
        go_ret
        exact ⟨by rw [HE.out]; first | rfl | simp [hlt2], HF.out.trans0 hF.out⟩
      · have HE : Hid (decide (cmpL X Y < 0) = decide (X.length < Y.length)) := hid (by
          rw [hE.out, cmpL_end (by omega) (by omega)]
          have : ¬X.length < Y.length := by omega
          simp [this])
        clear hE
        go_wp2
        go_ret
        exact ⟨by rw [HE.out]; first | rfl | simp [hlt2], HF.out.trans0 hF.out⟩
end Go.Proofs.Ythbcbnihghmniaa

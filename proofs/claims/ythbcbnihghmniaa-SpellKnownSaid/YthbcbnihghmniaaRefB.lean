/-
  folded and Fold of the document.
-/
import Derived.Test.YthbcbnihghmniaaRefA
namespace Go.Proofs.Ythbcbnihghmniaa
open Go.RowKit

set_option maxHeartbeats 4000000 in
set_option maxRecDepth 1000000 in
theorem folded_any (s : ByteArray) (w : World) (hs : s.size ≤ 17592186044416) :
    Calls Try.prog 32 #[.string s] w fun e w' => ∃ v, e = .returned v ∧ Fr0 w w' ∧ OwnR w' (w.heap.size + 1) v ((rn s).map fo) := by
  have R := runes_any s w hs
  have hlen := rn_len s
  have hv := hid (rn_vld s)
  generalize rn s = L at *
  go_enter Try.func32, Try.ntmps32
  go_wp2_with (go_at_call 27; refine R.mono ?_; rintro e w1 ⟨v, rfl, hf, ho⟩; obtain ⟨a, g, cap, hveq, ha, hg, _, _⟩ := ho.form; subst hveq; have HF := hid hf; have HA := hid ha; have HG := hid (fun h => (hg h).1); have HO := hid ho; clear R ha hg ho hf)
  go_loopw [4] (fun i wr => ∃ k : Nat, i = .int .i64 k ∧ k ≤ L.length ∧ Hid (OwnR wr (w.heap.size + 1) (.slice a L.length cap) (upto L k)) ∧ Hid (Fr0 w wr))
    (fun i _ => L.length - (intOf i).toNat)
  case atStart => exact ⟨0, rfl, Nat.zero_le _, hid (by rw [upto_zero]; exact HO.out), HF⟩
  case round =>
    obtain ⟨k, rfl, hk, hO, hF⟩ := hrel
    by_cases hlt : k < L.length
    · have hae := HA.out (by omega)
      have hix := index36 HA.out cap k hlt
      have hgb := HG.out (by omega)
      have hO' := hO.out
      rw [← upto_len L k, hae] at hO'
      obtain ⟨a2, g2, cap2, hv2, ha2, hg2, hc2, hz2⟩ := hO'.form
      simp only [Value.slice.injEq] at hv2
      obtain ⟨hv2, _, hv3⟩ := hv2
      have hgg : g2 = g := by
        have := ha2 (by rw [upto_len]; omega)
        rw [← hv2] at this
        simpa using this.symm
      subst hgg
      have c0 := hc2 k (by rw [upto_len]; exact hlt)
      rw [upto_get L k hlt] at c0
      have z0 := hz2 k (by rw [upto_len]; exact hlt)
      have F := refFold_any L[k] (hv.out _ (List.getElem_mem hlt))
      have hS := own_set hO' k (fo L[k])
      rw [upto_set L k hlt, upto_len, ← hae] at hS
      have HS := hid hS
      have HF2 : Hid (Fr0 w (wr.setCell ⟨g2, k, none⟩ (.int .i32 (fo L[k])))) := hid (hF.out.setCell (fun h => by have : g2 < w.heap.size := h; omega) _)
      clear hS hO hO' ha2 hg2 hc2 hz2 hv2 hv3 hF hae hgb
      go_wp2_with (go_at_call 29; refine (F _).mono ?_; rintro e w2 ⟨rfl, rfl⟩)
      go_roundw
      case rel => exact ⟨k + 1, by go_num, by omega, HS, HF2⟩
      case measure => simp [intOf]; omega
    · have hkl : k = L.length := by omega
      subst hkl
      have HE := hid (show OwnR wr (w.heap.size + 1) (.slice a L.length cap) (L.map fo) by have := hO.out; rwa [upto_all] at this)
      clear hO
      go_wp2
      go_ret
      exact ⟨_, rfl, hF.out, HE.out⟩
end Go.Proofs.Ythbcbnihghmniaa

/-
  Cut of the document.
-/
import Derived.Test.YthbcbnihghmniaaRefC
namespace Go.Proofs.Ythbcbnihghmniaa
open Go.RowKit

theorem cutA_own {w : World} {B : Nat} {a : Option Addr} {n cap : Nat} {L : List Int} (h : OwnR w B (.slice a n cap) L) : cutA a cap 0 1 = a ∧ n ≤ cap := by
  obtain ⟨hl, ⟨h1, h0⟩ | ⟨g, c2, cur, h1, hb, hg, hn2, hc, hs, ht⟩⟩ := h
  · simp only [Value.slice.injEq] at h1
    obtain ⟨rfl, rfl, rfl⟩ := h1
    exact ⟨by simp [cutA], Nat.le_refl _⟩
  · simp only [Value.slice.injEq] at h1
    obtain ⟨rfl, rfl, rfl⟩ := h1
    exact ⟨cutA_zero rfl, hn2⟩

/-- What cutting gives, as a conversion of what is cut. -/
theorem cut_conv {w : World} {B : Nat} {a : Option Addr} {cap : Nat} {L : List Int} (h : OwnR w B (.slice a L.length cap) L) (hv : ∀ r ∈ L, Vld r) (k : Nat) (hk : k ≤ L.length) :
    (Instr.slice 36 (.slice a L.length cap) none (some (.int .i64 k)) none).run Try.prog w = .ok (.slice a k cap) w ∧
    (convert 36 9 (.slice a k cap)).run Try.prog w = .ok (.string ⟨(enc (L.take k)).toArray⟩) w := by
  obtain ⟨h1, h2⟩ := cutA_own h
  have hs : (sizeOf 21).run Try.prog w = .ok 1 w := by go_simp
  have e := slice_upto (n := L.length) (a := a) (cap := cap) Try.underlying36 w hs k (by omega)
  rw [h1] at e
  exact ⟨e, convert_own h rfl hv k hk cap⟩

set_option maxHeartbeats 1000000 in
theorem refCutS_any (s : ByteArray) (n : Int) (w : World) (hs : s.size ≤ 17592186044416) :
    Calls Try.prog 22 #[.string s, .int .i64 n] w fun e w' => e = .returned (.string (cutS s n)) ∧ Fr0 w w' := by
  have R := runes_any s w hs
  have hv := hid (rn_vld s)
  unfold cutS
  generalize rn s = L at *
  obtain ⟨K, hK, hKl, hKt⟩ : ∃ K : Nat, (K : Int) = max 0 (min n L.length) ∧ K ≤ L.length ∧ L.take K = L.take n.toNat := by
    refine ⟨(max 0 (min n L.length)).toNat, by omega, by omega, ?_⟩
    by_cases c : n.toNat ≤ L.length
    · congr 1
      omega
    · rw [List.take_of_length_le (by omega), List.take_of_length_le (by omega)]
  rw [← hKt]
  have HK := hid hK
  clear hKt hK
  go_enter Try.func22, Try.ntmps22
  go_wp2_with (go_at_call 27; refine R.mono ?_; rintro e w1 ⟨v, rfl, hf, ho⟩; obtain ⟨a, g, cap, hveq, _⟩ := ho.form; subst hveq; obtain ⟨k1, k2⟩ := cut_conv ho hv.out K hKl; rw [HK.out] at k1; clear R ho)
  go_ret
  exact ⟨by rfl, hf⟩
end Go.Proofs.Ythbcbnihghmniaa

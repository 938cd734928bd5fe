/-
  The walk of SpellCut.
-/
import Derived.Test.YthbcbnihghmniaaGreat
import Derived.Test.YthbcbnihghmniaaLoopB
import Derived.Test.YthbcbnihghmniaaTextB
namespace Go.Proofs.Ythbcbnihghmniaa
open Go.RowKit

theorem take_vld {L : List Int} (h : ∀ r ∈ L, Vld r) (k : Nat) : ∀ r ∈ L.take k, Vld r := fun r hr => h r (List.mem_of_mem_take hr)
theorem rn_cut (s : ByteArray) (n : Int) : rn (cutS s n) = (rn s).take n.toNat := rn_enc _ (take_vld (rn_vld s) _)
theorem cut_cut (s : ByteArray) (n : Int) : cutS (cutS s n) n = cutS s n := by
  rw [cutS, rn_cut, List.take_take, Nat.min_self, cutS]
theorem cut_size (s : ByteArray) (n : Int) : (cutS s n).size ≤ 4 * s.size := by
  have h1 := enc_size ((rn s).take n.toNat)
  have h2 := rn_len s
  have h3 := List.length_take_le n.toNat (rn s)
  have h4 : ((rn s).take n.toNat).length ≤ (rn s).length := by rw [List.length_take]; omega
  unfold cutS
  omega
theorem cut_fresh (s : ByteArray) (n : Int) : Fresh (cutS s n).data.toList := by
  have := fresh_enc _ (take_vld (rn_vld s) n.toNat)
  simpa [cutS] using this

set_option maxHeartbeats 8000000 in
theorem cutLaw_any (s : ByteArray) (n : Int) (hn : n ≤ 9223372036854775807) (hs : s.size ≤ 1048576) (w : World) :
    Calls Try.prog 8 #[.string s, .int .i64 n] w fun e w' => e = .returned (.bool true) ∧ Fr0 w w' := by
  have hf : Fr0 w w := Fr.refl _ _
  have hks := rn_len s
  have hcs := cut_size s n
  have A := fun W => cutS_any s n hn W (by omega)
  have R := fun W => runesN_any s W (by omega)
  have Rt := fun W => runesN_any (cutS s n) W (by omega)
  have A2 := fun W => cutS_any (cutS s n) n hn W (by omega)
  rw [cut_cut] at A2
  have A3 := fun W => cutS_any s ((rn s).length : Int) (by omega) W (by omega)
  have A4 := fun W => cutS_any s 4611686018427387904 (by decide) W (by omega)
  have e3 : cutS s 4611686018427387904 = cutS s ((rn s).length : Int) := by
    unfold cutS
    rw [List.take_of_length_le (by omega), List.take_of_length_le (by omega)]
  rw [e3] at A4
  have hz : (s ++ cutS s n).size = s.size + (cutS s n).size := ByteArray.size_append
  have Rc := fun W => runesN_any (s ++ cutS s n) W (by omega)
  rw [rn_app s _ (cut_fresh s n), List.length_append] at Rc
  have hm : (((rn (cutS s n)).length : Nat) : Int) = max 0 (min n (rn s).length) := by
    rw [rn_cut, List.length_take]
    omega
  clear e3 hz
  generalize cutS s ((rn s).length : Int) = u at *
  generalize (rn (cutS s n)).length = m at *
  generalize (rn s).length = k at *
  generalize cutS s n = t at *
  have hb : ((m : Int) == max 0 (min n k)) = true := by simp [hm]
  have hle : (m : Int) ≤ 1048576 := by omega
  have hk0 : (k : Int) ≤ 1048576 := by omega
  clear hm
  go_enter Try.func8, Try.ntmps8
  go_wp2_with (fail)
  refine (A _).mono ?_; rintro e w' ⟨rfl, hf'⟩; replace hf := hf.trans0 hf'; clear hf'
  go_wp2_with (fail)
  refine (R _).mono ?_; rintro e w' ⟨rfl, hf'⟩; replace hf := hf.trans0 hf'; clear hf'
  go_wp2_with (fail)
  refine (Rt _).mono ?_; rintro e w' ⟨rfl, hf'⟩; replace hf := hf.trans0 hf'; clear hf'
  go_wp2_with (fail)
  refine (A2 _).mono ?_; rintro e w' ⟨rfl, hf'⟩; replace hf := hf.trans0 hf'; clear hf'
  go_wp2_with (fail)
  refine (A3 _).mono ?_; rintro e w' ⟨rfl, hf'⟩; replace hf := hf.trans0 hf'; clear hf'
  go_wp2_with (fail)
  refine (A4 _).mono ?_; rintro e w' ⟨rfl, hf'⟩; replace hf := hf.trans0 hf'; clear hf'
  go_wp2_with (fail)
  refine (Rc _).mono ?_; rintro e w' ⟨rfl, hf'⟩; replace hf := hf.trans0 hf'; clear hf'
  go_wp2_with (fail)
  refine (Rt _).mono ?_; rintro e w' ⟨rfl, hf'⟩; replace hf := hf.trans0 hf'; clear hf'
  go_wp2_with (fail)
  refine (works_any _).mono ?_; rintro e w' ⟨rfl, hf'⟩; replace hf := hf.trans0 hf'; clear hf'
  go_wp2_with (fail)
  go_ret
  exact ⟨by rfl, hf⟩
end Go.Proofs.Ythbcbnihghmniaa

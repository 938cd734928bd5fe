/-
  The walks of SpellNames, SpellPairs and SpellCuts.
-/
import Derived.Test.YthbcbnihghmniaaWorks
import Derived.Test.YthbcbnihghmniaaRefD
import Derived.Test.YthbcbnihghmniaaRefE
namespace Go.Proofs.Ythbcbnihghmniaa
open Go.RowKit

set_option maxHeartbeats 4000000 in
theorem names_any (s : ByteArray) (hs : s.size ≤ 17592186044416) (w : World) : Calls Try.prog 3 #[.string s] w fun e w' => e = .returned (.bool true) ∧ Fr0 w w' := by
  have hf : Fr0 w w := Fr.refl _ _
  have A := fun W => check_any s W hs
  have B := fun W => refCheck_any s W hs
  have C := fun W => runesN_any s W (by omega)
  have D := fun W => refRunesN_any s W hs
  have E := fun W => foldS_any s W hs
  have F := fun W => refFoldS_any s W hs
  generalize chk (rn s) = c at *
  generalize (rn s).length = n at *
  generalize foldS s = t at *
  go_enter Try.func3, Try.ntmps3
  go_wp2_with (fail)
  refine (A _).mono ?_; rintro e w' ⟨rfl, hf'⟩; replace hf := hf.trans0 hf'; clear hf'
  go_wp2_with (fail)
  refine (B _).mono ?_; rintro e w' ⟨rfl, hf'⟩; replace hf := hf.trans0 hf'; clear hf'
  go_wp2_with (fail)
  refine (C _).mono ?_; rintro e w' ⟨rfl, hf'⟩; replace hf := hf.trans0 hf'; clear hf'
  go_wp2_with (fail)
  refine (D _).mono ?_; rintro e w' ⟨rfl, hf'⟩; replace hf := hf.trans0 hf'; clear hf'
  go_wp2_with (fail)
  refine (E _).mono ?_; rintro e w' ⟨rfl, hf'⟩; replace hf := hf.trans0 hf'; clear hf'
  go_wp2_with (fail)
  refine (F _).mono ?_; rintro e w' ⟨rfl, hf'⟩; replace hf := hf.trans0 hf'; clear hf'
  go_wp2_with (fail)
  refine (works_any _).mono ?_; rintro e w' ⟨rfl, hf'⟩; replace hf := hf.trans0 hf'; clear hf'
  go_wp2_with (fail)
  go_ret
  exact ⟨by rfl, hf⟩

set_option maxHeartbeats 4000000 in
theorem pairs_any (a b : ByteArray) (ha : a.size ≤ 17592186044416) (hb : b.size ≤ 17592186044416) (w : World) : Calls Try.prog 4 #[.string a, .string b] w fun e w' => e = .returned (.bool true) ∧ Fr0 w w' := by
  have hf : Fr0 w w := Fr.refl _ _
  have A := fun W => same_any a b W ha hb
  have B := fun W => refSame_any a b W ha hb
  have C := fun W => less_any a b W ha hb
  have D := fun W => refLess_any a b W ha hb
  generalize ((foldS a).toList == (foldS b).toList) = c at *
  generalize lessB a b = d at *
  go_enter Try.func4, Try.ntmps4
  go_wp2_with (fail)
  refine (A _).mono ?_; rintro e w' ⟨rfl, hf'⟩; replace hf := hf.trans0 hf'; clear hf'
  go_wp2_with (fail)
  refine (B _).mono ?_; rintro e w' ⟨rfl, hf'⟩; replace hf := hf.trans0 hf'; clear hf'
  go_wp2_with (fail)
  refine (C _).mono ?_; rintro e w' ⟨rfl, hf'⟩; replace hf := hf.trans0 hf'; clear hf'
  go_wp2_with (fail)
  refine (D _).mono ?_; rintro e w' ⟨rfl, hf'⟩; replace hf := hf.trans0 hf'; clear hf'
  go_wp2_with (fail)
  refine (works_any _).mono ?_; rintro e w' ⟨rfl, hf'⟩; replace hf := hf.trans0 hf'; clear hf'
  go_wp2_with (fail)
  go_ret
  exact ⟨by rfl, hf⟩

set_option maxHeartbeats 4000000 in
theorem cuts_any (s : ByteArray) (n : Int) (hn : n ≤ 9223372036854775807) (hs : s.size ≤ 17592186044416) (w : World) : Calls Try.prog 5 #[.string s, .int .i64 n] w fun e w' => e = .returned (.bool true) ∧ Fr0 w w' := by
  have hf : Fr0 w w := Fr.refl _ _
  have A := fun W => cutS_any s n hn W hs
  have B := fun W => refCutS_any s n W hs
  generalize cutS s n = t at *
  go_enter Try.func5, Try.ntmps5
  go_wp2_with (fail)
  refine (A _).mono ?_; rintro e w' ⟨rfl, hf'⟩; replace hf := hf.trans0 hf'; clear hf'
  go_wp2_with (fail)
  refine (B _).mono ?_; rintro e w' ⟨rfl, hf'⟩; replace hf := hf.trans0 hf'; clear hf'
  go_wp2_with (fail)
  refine (works_any _).mono ?_; rintro e w' ⟨rfl, hf'⟩; replace hf := hf.trans0 hf'; clear hf'
  go_wp2_with (fail)
  go_ret
  exact ⟨by rfl, hf⟩
end Go.Proofs.Ythbcbnihghmniaa

/-
  Fold, Cut and Same of the document; Same of the program.
-/
import Derived.Test.YthbcbnihghmniaaRefB
import Derived.Test.YthbcbnihghmniaaBytes
import Derived.Test.YthbcbnihghmniaaLoopB
namespace Go.Proofs.Ythbcbnihghmniaa
open Go.RowKit

theorem convert_own {w : World} {B : Nat} {a : Option Addr} {n cap : Nat} {L : List Int} (h : OwnR w B (.slice a n cap) L) (hn : n = L.length) (hv : ∀ r ∈ L, Vld r) (k : Nat) (hk : k ≤ L.length) (cap' : Nat) :
    (convert 36 9 (.slice a k cap')).run Try.prog w = .ok (.string ⟨(enc (L.take k)).toArray⟩) w := by
  subst hn
  obtain ⟨hl, ⟨h1, h0⟩ | ⟨g, c2, cur, h1, hb, hg, hn2, hc, hs, ht⟩⟩ := h
  · simp only [Value.slice.injEq] at h1
    obtain ⟨rfl, _, _⟩ := h1
    have hL : L = [] := List.eq_nil_of_length_eq_zero h0
    subst hL
    rw [run_convert_runes_nil w 36 9 21 k cap' Try.underlying36 Try.underlying21 Try.underlying9]
    simp [enc_nil]
    rfl
  · simp only [Value.slice.injEq] at h1
    obtain ⟨rfl, _, _⟩ := h1
    rw [run_convert_runes w 36 9 21 ⟨g, 0, none⟩ k cap' L hk Try.underlying36 Try.underlying21 Try.underlying9, runesBytes_eq _ (fun r hr => hv r (List.mem_of_mem_take hr))]
    intro j hj
    have e : (cur.toList.take (L.length * 1))[j]? = (cel L)[j]? := by rw [ht]
    rw [List.getElem?_take, if_pos (by omega)] at e
    rw [Addr.add_lit, Nat.zero_add, cell_of_block hg]
    unfold cel at e
    rw [Array.getElem?_toList] at e
    rw [e]
    simp [hj, List.getD]

theorem map_vld {L : List Int} (h : ∀ r ∈ L, Vld r) : ∀ r ∈ L.map fo, Vld r := by
  intro r hr
  obtain ⟨x, hx, rfl⟩ := List.mem_map.1 hr
  exact fo_vld (h x hx)

set_option maxHeartbeats 1000000 in
theorem refFoldS_any (s : ByteArray) (w : World) (hs : s.size ≤ 17592186044416) :
    Calls Try.prog 15 #[.string s] w fun e w' => e = .returned (.string (foldS s)) ∧ Fr0 w w' := by
  have R := folded_any s w hs
  have hv := hid (map_vld (rn_vld s))
  unfold foldS
  generalize (rn s).map fo = L at *
  go_enter Try.func15, Try.ntmps15
  go_wp2_with (go_at_call 32; refine R.mono ?_; rintro e w1 ⟨v, rfl, hf, ho⟩; obtain ⟨a, g, cap, hveq, _⟩ := ho.form; subst hveq; have hcv := convert_own ho rfl hv.out L.length (Nat.le_refl _) cap; rw [List.take_length] at hcv; clear R ho)
  go_ret
  exact ⟨by rfl, hf⟩

set_option maxHeartbeats 1000000 in
theorem same_any (a b : ByteArray) (w : World) (ha : a.size ≤ 17592186044416) (hb : b.size ≤ 17592186044416) :
    Calls Try.prog 17 #[.string a, .string b] w fun e w' => e = .returned (.bool ((foldS a).toList == (foldS b).toList)) ∧ Fr0 w w' := by
  have A := fun W => foldS_any a W ha
  have B := fun W => foldS_any b W hb
  generalize foldS a = x at *
  generalize foldS b = y at *
  go_enter Try.func17, Try.ntmps17
  go_wp2_with (fail)
  refine (A _).mono ?_
  rintro e w1 ⟨rfl, hf1⟩
  go_wp2_with (fail)
  refine (B _).mono ?_
  rintro e w2 ⟨rfl, hf2⟩
  go_wp2_with (fail)
  go_ret
  exact ⟨by rfl, hf1.trans0 hf2⟩

set_option maxHeartbeats 1000000 in
theorem refSame_any (a b : ByteArray) (w : World) (ha : a.size ≤ 17592186044416) (hb : b.size ≤ 17592186044416) :
    Calls Try.prog 18 #[.string a, .string b] w fun e w' => e = .returned (.bool ((foldS a).toList == (foldS b).toList)) ∧ Fr0 w w' := by
  have A := fun W => refFoldS_any a W ha
  have B := fun W => refFoldS_any b W hb
  generalize foldS a = x at *
  generalize foldS b = y at *
  go_enter Try.func18, Try.ntmps18
  go_wp2_with (fail)
  refine (A _).mono ?_
  rintro e w1 ⟨rfl, hf1⟩
  go_wp2_with (fail)
  refine (B _).mono ?_
  rintro e w2 ⟨rfl, hf2⟩
  go_wp2_with (fail)
  go_ret
  exact ⟨by rfl, hf1.trans0 hf2⟩
end Go.Proofs.Ythbcbnihghmniaa

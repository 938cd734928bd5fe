/-
  SpellOrder returns true for any three texts: Less is an order, Same its equality. Condition: the arguments are together of bulk at most 1048576.
-/
import Derived.Test.YthbcbnihghmniaaOrderLaw
import Derived.ProofKit
import Derived.OpenShut
import Derived.JoinedCond
import Derived.SizedLaws
import Derived.DeepKeys4
import Derived.ChangeOld
import Derived.ChangeMaps5
import Derived.ShutString
namespace Go.Proofs.Ythbcbnihghmniaa
open Go.ChangeShapes Go.WideShapes Go.ChangeAt Go.RowKit Go.ChangeMaps

theorem ownKnob' : ownKnob Try.prog.godebug = none := by kernel_rfl

set_option maxRecDepth 100000 in
theorem spellOrder_lifted (os : Os) (started : os.Started) (H : Type) (enc : TypeId × Value → H) (F : Stop.Interp) :
    ReturnsInHanded {} Try.checked os 7 .any ((Rows.OpenSpec.upto Rows.spellOrderSpec).pre6 enc Try.prog Try.f7 Rows.spellOrderUptoRow.domain false) (((Rows.OpenSpec.upto Rows.spellOrderSpec).at F).post enc Try.prog Try.f7 false true false false) := by
  refine returnsInHanded_of_cond (C := Try.checked) (s := Rows.OpenSpec.upto Rows.spellOrderSpec) (k := Rows.uptoSmall) rfl ownKnob' started (by kernel_rfl) Try.func7
    (OpenSpec.witness (enc := enc) (C := Try.checked) (s := Rows.OpenSpec.upto Rows.spellOrderSpec) (k := Rows.uptoSmall) rfl false ⟨#[], #[.string ⟨#[]⟩, .string ⟨#[]⟩, .string ⟨#[]⟩], []⟩ 8 (by kernel_rfl) (by kernel_rfl) (by kernel_rfl)
      (x := ([.lit (.string []), .lit (.string []), .lit (.string [])], [], [])) (by kernel_rfl) rfl (by kernel_rfl)) ?_
  intro W base args ds gs before hval0 hW _ hk _
  have hval : ∀ (j : Nat) t v, Try.f7.params[j]? = some t → args[j]? = some v → Value.okWide Try.prog W .any base t v := hval0
  have hW' := hW
  obtain ⟨p, q, hA0, hV, rfl, _, _⟩ := hW
  have hA : DataW.TrodAll enc Try.prog W 0 (fun _ => true) true Try.f7.params.toList args.toList ds p := hA0
  rw [Try.params7] at hA hval
  obtain ⟨v0, v1, v2, d0, d1, d2, p0, p1, p2, rfl, rfl, rfl, h0, h1, h2⟩ := trodAll_three hA
  obtain ⟨s0, rfl, rfl, rfl, ws0⟩ := open_string Try.underlying9 (hval 0 9 v0 rfl rfl) h0
  obtain ⟨s1, rfl, rfl, rfl, ws1⟩ := open_string Try.underlying9 (hval 1 9 v1 rfl rfl) h1
  obtain ⟨s2, rfl, rfl, rfl, ws2⟩ := open_string Try.underlying9 (hval 2 9 v2 rfl rfl) h2
  obtain ⟨rfl, rfl⟩ := trodVars_none hV
  clear hA0 hval0
  have hb := of_decide_eq_true hk
  simp only [List.append_nil, Rows.uptoBulkAll, Rows.uptoBulk] at hb
  simp only [List.append_nil] at hW'
  have b0 : s0.size ≤ 1048576 := by
    have e : s0.data.toList.length = s0.size := size_list s0
    omega
  have b1 : s1.size ≤ 1048576 := by
    have e : s1.data.toList.length = s1.size := size_list s1
    omega
  have b2 : s2.size ≤ 1048576 := by
    have e : s2.data.toList.length = s2.size := size_list s2
    omega
  refine (orderLaw_any s0 s1 s2 b0 b1 b2 W).mono fun e W' ⟨he, hf⟩ => ?_
  subst he
  have bel := hf.toBelow
  exact ⟨_, rfl, _, _, _, [], _, [], hW', trodAll_mk1 (shut_bool Try.underlying4 _), trodAll_mk3 (shut_string Try.underlying9 ws0) (shut_string Try.underlying9 ws1) (shut_string Try.underlying9 ws2), rfl, bel.frame _, fun h => by cases h⟩

theorem spellOrder_holds : Rows.SpellOrderUptoSaid :=
  OpenClaim.holds_of_cond 7 Try.f7 rfl rfl rfl rfl rfl rfl rfl ⟨rfl, rfl, rfl, rfl, rfl⟩ rfl rfl rfl rfl rfl (by kernel_rfl) Try.func7 (by kernel_rfl)
    (of_decide_eq_true (by kernel_rfl)) (by unfold Func.isWrapper; first | (rw [if_pos (by decide +kernel)]; kernel_rfl) | (rw [if_neg (by decide +kernel)]; exact ⟨rfl, rfl⟩))
    (fun os started H enc _ F => spellOrder_lifted os started H enc F)
#print axioms spellOrder_holds
end Go.Proofs.Ythbcbnihghmniaa

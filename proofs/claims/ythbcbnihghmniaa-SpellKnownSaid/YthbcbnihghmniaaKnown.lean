/-
  The walk of SpellKnown.
-/
import Derived.Test.YthbcbnihghmniaaNames
import Derived.Test.YthbcbnihghmniaaFoldLaw
import Derived.Test.YthbcbnihghmniaaCutLaw
import Derived.Test.YthbcbnihghmniaaExt
import Derived.Laws.Runes
import Derived.Deep.RegionHeld3
import Derived.Deep.DeepCutAuto
namespace Go.Proofs.Ythbcbnihghmniaa
open Go.RowKit

theorem encode_small (r : Int) : (Utf8.encode r).size ≤ 1000 := by have := encode_size_le r; omega
theorem cat_small (r : Int) : ((⟨#[97]⟩ : ByteArray) ++ Utf8.encode r).size ≤ 1000 := by
  rw [ByteArray.size_append]
  have := encode_size_le r
  have h : (⟨#[97]⟩ : ByteArray).size = 1 := rfl
  omega
theorem names_s (s : ByteArray) (h : s.size ≤ 1000) (w : World) : Calls Try.prog 3 #[.string s] w fun e w' => e = .returned (.bool true) ∧ Fr0 w w' := names_any s (by omega) w
theorem pairs_s (a b : ByteArray) (ha : a.size ≤ 1000) (hb : b.size ≤ 1000) (w : World) : Calls Try.prog 4 #[.string a, .string b] w fun e w' => e = .returned (.bool true) ∧ Fr0 w w' := pairs_any a b (by omega) (by omega) w
theorem cuts_s (s : ByteArray) (n : Int) (hn : n ≤ 1000) (h : s.size ≤ 1000) (w : World) : Calls Try.prog 5 #[.string s, .int .i64 n] w fun e w' => e = .returned (.bool true) ∧ Fr0 w w' := cuts_any s n (by omega) (by omega) w
theorem fold_s (s : ByteArray) (h : s.size ≤ 1000) (w : World) : Calls Try.prog 6 #[.string s] w fun e w' => e = .returned (.bool true) ∧ Fr0 w w' := foldLaw_any s (by omega) w
theorem cut_s (s : ByteArray) (n : Int) (hn : n ≤ 1000) (h : s.size ≤ 1000) (w : World) : Calls Try.prog 8 #[.string s, .int .i64 n] w fun e w' => e = .returned (.bool true) ∧ Fr0 w w' := cutLaw_any s n (by omega) (by omega) w

/-- Thirteen short texts in a row. -/
structure More (w : World) (b : Nat) : Prop where
  cells : ∀ i, i < 13 → ∃ s : ByteArray, w.cell? ⟨b, i, none⟩ = some (.string s) ∧ s.size ≤ 1000
  lt : b < w.heap.size
theorem More.fr0 {w w' : World} {b : Nat} (h : More w b) (hf : Fr0 w w') : More w' b :=
  ⟨fun i hi => by
    obtain ⟨s, h1, h2⟩ := h.cells i hi
    exact ⟨s, (hf.cell (p := ⟨b, i, none⟩) h.lt (fun h => h)).trans h1, h2⟩, hf.lt h.lt⟩

theorem more_new (w : World) (L : List ByteArray) (t : TypeId) (hl : L.length = 13) (hs : L.all (fun s => decide (s.size ≤ 1000)) = true) : More (w.alloc (.cells (L.map Value.string).toArray t)) w.heap.size := by
  refine ⟨fun i hi => ?_, lt_of_block (alloc_block w _)⟩
  have hi' : i < L.length := by omega
  refine ⟨L[i], ?_, ?_⟩
  · rw [cell_of_block (alloc_block w _)]
    simp [hi']
  · have := List.all_eq_true.1 hs L[i] (List.getElem_mem hi')
    simpa using this

theorem index33 (b : Nat) (k : Nat) (hk : k < 13) (W : World) :
    (Instr.indexAt 33 (.slice (some ⟨b, 0, none⟩) 13 13) (.int .i64 k)).run Try.prog W = .ok (.pointer (some ⟨b, k, none⟩)) W := by
  have hs : (sizeOf 9).run Try.prog W = .ok 1 W := by go_simp
  have := index_of0 (n := 13) (a := some ⟨b, 0, none⟩) Try.underlying33 W hs (fun _ => rfl) 13 k hk
  simpa using this

/-- The law's texts. -/
def moreL : List ByteArray := [⟨#[255, 254]⟩, ⟨#[97, 195]⟩, ⟨#[237, 160, 128]⟩, ⟨#[240, 159, 152, 128]⟩, ⟨#[230, 151, 165, 230, 156, 172]⟩, ⟨#[97, 97, 97, 97, 97, 97, 97, 97, 97, 97, 97, 97, 97, 97, 97, 97]⟩, ⟨#[97, 97, 97, 97, 97, 97, 97, 97, 97, 97, 97, 97, 97, 97, 97, 97, 97]⟩, ⟨#[195, 164, 195, 182, 195, 188, 195, 164, 195, 182, 195, 188, 195, 164, 195, 182, 195, 188, 195, 164, 195, 182, 195, 188, 195, 164, 195, 182, 195, 188, 195, 164]⟩, ⟨#[195, 164, 195, 182, 195, 188, 195, 164, 195, 182, 195, 188, 195, 164, 195, 182, 195, 188, 195, 164, 195, 182, 195, 188, 195, 164, 195, 182, 195, 188, 195, 164, 195, 182]⟩, ⟨#[97, 0]⟩, ⟨#[45, 97]⟩, ⟨#[95, 97]⟩, ⟨#[97, 45, 95, 57]⟩]

set_option maxHeartbeats 16000000 in
set_option maxRecDepth 100000 in
theorem known_any (w : World) : Calls Try.prog 9 #[] w fun e w' => e = .returned (.bool true) ∧ Fr0 w w' := by
  have hf0 : Fr0 w w := Fr.refl _ _
  go_enter Try.func9, Try.ntmps9
  go_wp2_with (fail)
  go_loopw [1] (fun i wx => ∃ n : Int, i = .int .i32 n ∧ 0 ≤ n ∧ n ≤ 1280 ∧ Fr0 w wx)
    (fun i _ => (1280 - intOf i).toNat)
  case atStart => exact ⟨0, rfl, by omega, by omega, hf0⟩
  case round =>
    obtain ⟨n, rfl, h1, h2, hf⟩ := hrel
    by_cases h : n < 1280
    · have hz := encode_size_le n
      have hz2 := encode_size_le (n + 32)
      go_wp2_with (fail)
      refine (names_s _ (encode_small _) _).mono ?_; rintro e w' ⟨rfl, hf'⟩; replace hf := hf.trans0 hf'; clear hf'
      go_wp2_with (fail)
      refine (names_s _ (cat_small _) _).mono ?_; rintro e w' ⟨rfl, hf'⟩; replace hf := hf.trans0 hf'; clear hf'
      go_wp2_with (fail)
      refine (fold_s _ (encode_small _) _).mono ?_; rintro e w' ⟨rfl, hf'⟩; replace hf := hf.trans0 hf'; clear hf'
      go_wp2_with (fail)
      refine (pairs_s _ _ (encode_small _) (encode_small _) _).mono ?_; rintro e w' ⟨rfl, hf'⟩; replace hf := hf.trans0 hf'; clear hf'
      go_wp2_with (fail)
      go_roundw
      case rel => exact ⟨n + 1, by go_num, by omega, by omega, hf⟩
      case measure => (try simp [intOf]); omega
    · go_upto_region 9 with (fail)
      generalize hW : World.alloc wr _ = W
      have hM : More W wr.heap.size := by
        rw [← hW]
        exact more_new wr moreL 9 (by decide) (by decide +kernel)
      have HM := hid hM
      have HFW : Hid (Fr0 w W) := hid (hW ▸ hf.alloc _)
      clear hM hf hW
      generalize wr.heap.size = b at *
      go_loopw [4] (fun i wr => ∃ k : Nat, i = .int .i64 k ∧ k ≤ 13 ∧ Hid (Fr0 W wr)) (fun i _ => 13 - (intOf i).toNat)
      case atStart => exact ⟨0, rfl, Nat.zero_le _, hid (Fr.refl _ _)⟩
      case round =>
        obtain ⟨k, rfl, hk, hF1⟩ := hrel
        by_cases hlt : k < 13
        · have hix := index33 b k hlt
          have ek : decide ((k : Int) < 13) = true := by simp; omega
          go_wp2_with (fail)
          go_loopw [5] (fun j wr => ∃ n : Int, j = .int .i64 n ∧ -1 ≤ n ∧ n ≤ 19 ∧ Hid (Fr0 W wr)) (fun j _ => (19 - intOf j).toNat)
          case atStart => exact ⟨-1, rfl, by omega, by omega, hF1⟩
          case round =>
            obtain ⟨n, rfl, h1, h2, hF2⟩ := hrel
            by_cases hn : n < 19
            · obtain ⟨s, hc, hs⟩ := (HM.out.fr0 hF2.out).cells k hlt
              have hbl := (HM.out.fr0 hF2.out).lt
              go_wp2_with (fail)
              refine (cuts_s s n (by omega) hs _).mono ?_
              rintro e w1 ⟨rfl, hf1⟩
              have hc1 : w1.cell? ⟨b, k, none⟩ = some (.string s) := (hf1.cell (p := ⟨b, k, none⟩) hbl (fun h => h)).trans hc
              have hF3 := hid (hF2.out.trans0 hf1)
              clear hf1
              go_wp2_with (fail)
              refine (cut_s s n (by omega) hs _).mono ?_
              rintro e w2 ⟨rfl, hf2⟩
              go_wp2_with (fail)
              go_roundw
              case rel => exact ⟨n + 1, by go_num, by omega, by omega, hid (hF3.out.trans0 hf2)⟩
              case measure => (try simp [intOf]); omega
            · obtain ⟨s, hc, hs⟩ := (HM.out.fr0 hF2.out).cells k hlt
              obtain ⟨s2, hc2, hs2⟩ := (HM.out.fr0 hF2.out).cells ((k + 1) % 13) (Nat.mod_lt _ (by decide))
              have hix2 := index33 b ((k + 1) % 13) (Nat.mod_lt _ (by decide))
              have em : (((k + 1) % 13 : Nat) : Int) = Int.tmod ((k : Int) + 1) 13 := by rw [Int.tmod_eq_emod_of_nonneg (by omega)]; omega
              have hwr : IntKind.i64.wrap ((k : Int) + 1) = (k : Int) + 1 := by simp [IntKind.wrap, IntKind.signed, IntKind.bits]; omega
              rw [em, ← hwr] at hix2
              clear hwr
              have e0 : ∀ q : Ext wr, q.out.cell? ⟨b, k, none⟩ = some (.string s) := fun q => q.cell hc
              have e1 : ∀ q : Ext wr, q.out.cell? ⟨b, (k + 1) % 13, none⟩ = some (.string s2) := fun q => q.cell hc2
              clear hc hc2 em
              go_upto_region 16 with (fail)
              refine wp_region_ext (by kernel_rfl) (by kernel_rfl) ?_
              repeat (refine wpQuiet_step (fun K hK => ?_); go_simp; first | (refine hK _ ?_; clear hK K) | (apply Exists.intro; refine ⟨fun _ => ?_, hK _ ?_⟩; (first | (go_at_call 3; refine calls_ext (names_s s hs _)) | (go_at_call 6; refine calls_ext (fold_s s hs _)) | (go_at_call 4; refine calls_ext (pairs_s s s2 hs hs2 _))); clear hK K))
              refine wpQuiet_nil ?_
              intro _ hw'
              obtain ⟨q, hw''⟩ := hw'
              subst hw''
              have hW1 := hid (hF2.out.trans0 q.fr)
              generalize q.out = W1 at hW1 ⊢
              clear q e0 e1
              go_wp2
              exact ⟨⟨k + 1, by go_num, by omega, hW1⟩, by (try simp [intOf]); omega⟩
        · go_wp2_with (fail)
          refine (works_any _).mono ?_
          rintro e w2 ⟨rfl, hf2⟩
          go_wp2_with (fail)
          go_ret
          exact ⟨by rfl, (HFW.out.trans0 hF1.out).trans0 hf2⟩
end Go.Proofs.Ythbcbnihghmniaa

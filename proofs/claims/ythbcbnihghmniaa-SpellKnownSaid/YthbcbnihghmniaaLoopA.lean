/-
  Runes, Fold and Cut of the program: loops over a text.
-/
import Derived.Test.YthbcbnihghmniaaFold
import Derived.Test.YthbcbnihghmniaaBuild
import Derived.WalkKit
import Derived.BigCall
namespace Go.Proofs.Ythbcbnihghmniaa
open Go.RowKit

theorem Fy_width (s : ByteArray) (pos : Nat) (_h : pos < s.size) : 1 ≤ (Utf8.decode s pos).2 := by
  rw [← Lib.decodeL_drop]
  exact dec_width _

set_option maxHeartbeats 4000000 in
set_option maxRecDepth 100000 in
theorem runesN_any (s : ByteArray) (w : World) (hs : s.size ≤ 35184372088832) :
    Calls Try.prog 12 #[.string s] w fun e w' => e = .returned (.int .i64 (rn s).length) ∧ Fr0 w w' := by
  go_enter Try.func12, Try.ntmps12
  go_wp2
  go_loopw [2] (fun t wr => ∃ (pos fuel : Nat) (acc : List Int), t = .int .i64 acc.length ∧ wr.heap[w.heap.size]? = some (.stringIter s pos) ∧ Below w.heap.size w wr ∧ Hid (At s pos fuel acc))
    (fun _ wr => s.size - wr.iterPos w.heap.size)
  case atStart =>
    refine ⟨0, s.size, [], rfl, ?_, (Below.refl _ w).alloc (Nat.le_refl _) _, hid (At.start s)⟩
    have := World.iter_heap w s 0
    simpa using this
  case round =>
    obtain ⟨pos, fuel, acc, rfl, hit, hbw, hA⟩ := hrel
    have hsz : w.heap.size < wr.heap.size := (Array.getElem?_eq_some_iff.1 hit).1
    have hal := hA.out.pos
    by_cases hp : pos < s.size
    · have hnx : ∀ ty, (Instr.next (.pointer (some ⟨w.heap.size, 0, none⟩)) true ty).run Try.prog wr = _ := fun ty => Lib.run_next_any_at wr w.heap.size s pos ty hit hp
      have hwd := Fy_width s pos hp
      have hit2 := Lib.iterAt_heap wr w.heap.size s pos (pos + (Utf8.decode s pos).2) hit
      have hbw2 := Lib.below_iterAt hbw (k := w.heap.size) (by omega) s (pos + (Utf8.decode s pos).2)
      obtain ⟨f, rfl, hA2⟩ := hA.out.step hp
      have HA2 := hid hA2
      clear hA2 hA
      go_wp2
      go_roundw
      case rel => exact ⟨_, f, _, by simp, hit2, hbw2, HA2⟩
      case measure =>
        simp only [World.iterPos, hit2, hit]
        omega
    · have hnx : ∀ ty, (Instr.next (.pointer (some ⟨w.heap.size, 0, none⟩)) true ty).run Try.prog wr = _ := fun ty => Lib.run_next_end_at wr w.heap.size s pos ty hit hp
      have HE := hid (hA.out.done hp)
      clear hA
      go_wp2
      go_ret
      exact ⟨by rw [← HE.out]; rfl, Fr.of_below hbw⟩

/-- A builder that no change reaches. -/
theorem bld_fr0 {T e : TypeId} {B b : Nat} {bs : List Value} {w w' : World} (h : Lib.IsBuilderF T e B b bs w) (hf : Fr0 w w') : Lib.IsBuilderF T e B b bs w' := by
  have key : ∀ p, Lib.BuilderAtF T e B b p bs w → Lib.BuilderAtF T e B b p bs w' := by
    rintro p ⟨hB, v, hb, hown, hne⟩
    refine ⟨hB, v, hf.at hb (fun h => h), ⟨hown.1, ?_⟩, hne⟩
    rcases hown.2 with hn | ⟨g, cap, cur, fz, rfl, hbg, hgg, rest⟩
    · exact .inl hn
    · exact .inr ⟨g, cap, cur, fz, rfl, hbg, hf.at hgg (fun h => h), rest⟩
  rcases h with h | h
  · exact .inl (key _ h)
  · exact .inr (key _ h)

theorem byteLen (l : List UInt8) : (Lib.byteCells l).length = l.length := Lib.byteCells_length l

/-- A text, folded. -/
def foldS (s : ByteArray) : ByteArray := ⟨(enc ((rn s).map fo)).toArray⟩

set_option maxHeartbeats 4000000 in
set_option maxRecDepth 1000000 in
theorem foldS_any (s : ByteArray) (w : World) (hs : s.size ≤ 17592186044416) :
    Calls Try.prog 14 #[.string s] w fun e w' => e = .returned (.string (foldS s)) ∧ Fr0 w w' := by
  go_enter Try.func14, Try.ntmps14
  go_wp2
  go_loopw [] (fun wr => ∃ (pos fuel : Nat) (acc : List Int), Lib.IsBuilderF 41 5 w.heap.size w.heap.size (Lib.byteCells (enc (acc.map fo))) wr ∧ wr.heap[w.heap.size + 1]? = some (.stringIter s pos) ∧ Below w.heap.size w wr ∧ Hid (At s pos fuel acc))
    (fun wr => s.size - wr.iterPos (w.heap.size + 1))
  case atStart =>
    refine ⟨0, s.size, [], (Lib.IsBuilderF.of (Lib.fresh_isBuilder 41 5 w)).alloc _, ?_, ((Below.refl _ w).alloc (Nat.le_refl _) _).alloc (by simp) _, hid (At.start s)⟩
    have := World.iter_heap (w.alloc (.cells #[.pointer none, .slice none 0 0] 41)) s 0
    simpa using this
  case round =>
    obtain ⟨pos, fuel, acc, hI, hit, hbw, hA⟩ := hrel
    have hsz : w.heap.size + 1 < wr.heap.size := (Array.getElem?_eq_some_iff.1 hit).1
    have hel := enc_len (acc.map fo)
    rw [List.length_map] at hel
    have hal := hA.out.pos
    by_cases hp : pos < s.size
    · have hnx : ∀ ty, (Instr.next (.pointer (some ⟨w.heap.size + 1, 0, none⟩)) true ty).run Try.prog wr = _ := fun ty => Lib.run_next_any_at wr (w.heap.size + 1) s pos ty hit hp
      have hwd := Fy_width s pos hp
      have hI2 := hI.iterAt hit (pos + (Utf8.decode s pos).2)
      have hit2 := Lib.iterAt_heap wr (w.heap.size + 1) s pos (pos + (Utf8.decode s pos).2) hit
      have hbw2 := Lib.below_iterAt hbw (k := w.heap.size + 1) (by omega) s (pos + (Utf8.decode s pos).2)
      have hsz2 : w.heap.size ≤ (wr.iterAt (w.heap.size + 1) s (pos + (Utf8.decode s pos).2)).heap.size := by rw [Lib.iterAt_size]; omega
      have hv := At.here s pos
      have hvf := fo_vld hv
      have hvf2 : -2147483648 ≤ fo ((Utf8.decode s pos).1 : Int) ∧ fo ((Utf8.decode s pos).1 : Int) ≤ 2147483647 := by unfold Vld at hvf; omega
      obtain ⟨f, rfl, hA2⟩ := hA.out.step hp
      have HA2 := hid hA2
      have HV := hid hv
      have F := fold_any ((Utf8.decode s pos).1 : Int) hv
      clear hA2 hA hv hvf hI
      go_wp2_with (go_at_call 26; refine (F _).mono ?_)
      rintro e W0 ⟨rfl, hf0⟩
      have hI3 := bld_fr0 hI2 hf0
      have hit3 := hf0.at hit2 (fun h => h)
      have hsz3 : w.heap.size ≤ W0.heap.size := Nat.le_trans hsz2 hf0.size
      have hbw3 := hbw2.trans (hf0.below (B := w.heap.size) (fun _ _ h => h) hsz2)
      clear F hI2
      go_wp2_with (go_at_call 30; refine (writeRune_k w.heap.size w.heap.size _ _ hvf2.1 hvf2.2 _ hI3 (by rw [byteLen]; omega) hsz3).mono ?_)
      rintro e W1 ⟨rfl, h1, b1, k1⟩
      go_wp2
      go_roundw
      case rel =>
        refine ⟨_, f, _, ?_, k1.iter hit3 (by omega), hbw3.trans b1, HA2⟩
        rw [List.map_append, enc_append, Lib.byteCells_append]
        simp only [List.map_cons, List.map_nil, enc_cons, enc_nil, List.append_nil]
        rw [Lib.byteCells_encodeRune]
        exact Or.inr h1
      case measure =>
        simp only [World.iterPos, k1.iter hit3 (by omega), hit]
        omega
    · have hnx : ∀ ty, (Instr.next (.pointer (some ⟨w.heap.size + 1, 0, none⟩)) true ty).run Try.prog wr = _ := fun ty => Lib.run_next_end_at wr (w.heap.size + 1) s pos ty hit hp
      have HE := hid (hA.out.done hp)
      clear hA
      go_wp2_with (go_at_call 31; refine (string_k w.heap.size w.heap.size (enc (acc.map fo)) _ hI (by omega)).mono ?_)
      rintro e W1 ⟨rfl, _, b1, _⟩
      go_wp2
      go_ret
      refine ⟨?_, Fr.of_below (hbw.trans b1)⟩
      unfold foldS
      rw [← HE.out]
      rfl
end Go.Proofs.Ythbcbnihghmniaa

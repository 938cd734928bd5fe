/-
  Cut and Check of the program.
-/
import Derived.Test.YthbcbnihghmniaaLoopA
namespace Go.Proofs.Ythbcbnihghmniaa
open Go.RowKit

/-- The first runes. -/
def cutS (s : ByteArray) (n : Int) : ByteArray := ⟨(enc ((rn s).take n.toNat)).toArray⟩

theorem At.take {s : ByteArray} {pos fuel : Nat} {acc : List Int} (h : At s pos fuel acc) : (rn s).take acc.length = acc := by
  rw [← h.eq, List.take_left]

set_option maxHeartbeats 4000000 in
set_option maxRecDepth 1000000 in
theorem cutS_any (s : ByteArray) (n : Int) (hn : n ≤ 9223372036854775807) (w : World) (hs : s.size ≤ 17592186044416) :
    Calls Try.prog 21 #[.string s, .int .i64 n] w fun e w' => e = .returned (.string (cutS s n)) ∧ Fr0 w w' := by
  go_enter Try.func21, Try.ntmps21
  go_wp2
  go_loopw [1] (fun t wr => ∃ (pos fuel : Nat) (acc : List Int), t = .int .i64 (n - acc.length) ∧ acc.length ≤ n.toNat ∧ Lib.IsBuilderF 41 5 w.heap.size w.heap.size (Lib.byteCells (enc acc)) wr ∧ wr.heap[w.heap.size + 1]? = some (.stringIter s pos) ∧ Below w.heap.size w wr ∧ Hid (At s pos fuel acc))
    (fun _ wr => s.size - wr.iterPos (w.heap.size + 1))
  case atStart =>
    refine ⟨0, s.size, [], by simp, by simp, (Lib.IsBuilderF.of (Lib.fresh_isBuilder 41 5 w)).alloc _, ?_, ((Below.refl _ w).alloc (Nat.le_refl _) _).alloc (by simp) _, hid (At.start s)⟩
    have := World.iter_heap (w.alloc (.cells #[.pointer none, .slice none 0 0] 41)) s 0
    simpa using this
  case round =>
    obtain ⟨pos, fuel, acc, rfl, hle, hI, hit, hbw, hA⟩ := hrel
    have hsz : w.heap.size + 1 < wr.heap.size := (Array.getElem?_eq_some_iff.1 hit).1
    have hel := enc_len acc
    have hal := hA.out.pos
    by_cases hp : pos < s.size
    · have hnx : ∀ ty, (Instr.next (.pointer (some ⟨w.heap.size + 1, 0, none⟩)) true ty).run Try.prog wr = _ := fun ty => Lib.run_next_any_at wr (w.heap.size + 1) s pos ty hit hp
      have hwd := Fy_width s pos hp
      have hI2 := hI.iterAt hit (pos + (Utf8.decode s pos).2)
      have hit2 := Lib.iterAt_heap wr (w.heap.size + 1) s pos (pos + (Utf8.decode s pos).2) hit
      have hbw2 := Lib.below_iterAt hbw (k := w.heap.size + 1) (by omega) s (pos + (Utf8.decode s pos).2)
      have hsz2 : w.heap.size ≤ (wr.iterAt (w.heap.size + 1) s (pos + (Utf8.decode s pos).2)).heap.size := by rw [Lib.iterAt_size]; omega
      by_cases hm : n - acc.length ≤ 0
      · have HE := hid (show acc = (rn s).take n.toNat by
          have : n.toNat = acc.length := by omega
          rw [this]
          exact hA.out.take.symm)
        clear hA hI
        go_wp2_with (go_at_call 31; refine (string_k w.heap.size w.heap.size (enc acc) _ hI2 hsz2).mono ?_)
        rintro e W1 ⟨rfl, _, b1, _⟩
        go_wp2
        go_ret
        refine ⟨?_, Fr.of_below (hbw2.trans b1)⟩
        unfold cutS
        rw [← HE.out]
        rfl
      · have hv := At.here s pos
        have hvf2 : -2147483648 ≤ ((Utf8.decode s pos).1 : Int) ∧ ((Utf8.decode s pos).1 : Int) ≤ 2147483647 := by unfold Vld at hv; omega
        obtain ⟨f, rfl, hA2⟩ := hA.out.step hp
        have HA2 := hid hA2
        clear hA2 hA hv hI
        go_wp2_with (go_at_call 30; refine (writeRune_k w.heap.size w.heap.size _ _ hvf2.1 hvf2.2 _ hI2 (by rw [byteLen]; omega) hsz2).mono ?_; rintro e W1 ⟨rfl, h1, b1, k1⟩)
        go_roundw
        case rel =>
          refine ⟨_, f, _, ?_, ?_, ?_, k1.iter hit2 (by omega), hbw2.trans b1, HA2⟩
          · go_num
          · simp; omega
          · rw [enc_append, Lib.byteCells_append]
            simp only [enc_cons, enc_nil, List.append_nil]
            rw [Lib.byteCells_encodeRune]
            exact Or.inr h1
        case measure =>
          simp only [World.iterPos, k1.iter hit2 (by omega), hit]
          omega
    · have hnx : ∀ ty, (Instr.next (.pointer (some ⟨w.heap.size + 1, 0, none⟩)) true ty).run Try.prog wr = _ := fun ty => Lib.run_next_end_at wr (w.heap.size + 1) s pos ty hit hp
      have HE := hid (show acc = (rn s).take n.toNat by
        have h := hA.out.done hp
        rw [← h, List.take_of_length_le hle])
      clear hA
      go_wp2_with (go_at_call 31; refine (string_k w.heap.size w.heap.size (enc acc) _ hI (by omega)).mono ?_)
      rintro e W1 ⟨rfl, _, b1, _⟩
      go_wp2
      go_ret
      refine ⟨?_, Fr.of_below (hbw.trans b1)⟩
      unfold cutS
      rw [← HE.out]
      rfl
end Go.Proofs.Ythbcbnihghmniaa

/-
  Check of the program.
-/
import Derived.Test.YthbcbnihghmniaaLoopA
namespace Go.Proofs.Ythbcbnihghmniaa
open Go.RowKit

/-- A rune that may stand behind the first. -/
def isOther (r : Int) : Prop := (48 ≤ r ∧ r ≤ 57) ∨ r = 45 ∨ r = 95
instance (r : Int) : Decidable (isOther r) := by unfold isOther; infer_instance
/-- A rune that may stand at a place. -/
def good (n : Nat) (r : Int) : Prop := isSmall (fo r) ∨ (isOther r ∧ n ≠ 0)
instance (n : Nat) (r : Int) : Decidable (good n r) := by unfold good; infer_instance
def allGood (L : List Int) : Prop := ∀ i (h : i < L.length), good i L[i]
/-- What Check answers. -/
def chk (L : List Int) : Int := if (∀ i (h : i < L.length), good i L[i]) ∧ 1 ≤ L.length ∧ L.length ≤ 16 then 0 else 10

theorem chk_bad {L : List Int} (i : Nat) (h : i < L.length) (hb : ¬good i L[i]) : chk L = 10 := by
  unfold chk
  rw [if_neg]
  rintro ⟨h1, _⟩
  exact hb (h1 i h)

theorem good_snoc {L : List Int} {r : Int} (h : Hid (allGood L)) (hr : good L.length r) : Hid (allGood (L ++ [r])) := by
  refine hid fun i hi => ?_
  simp at hi
  rcases Nat.lt_or_ge i L.length with hl | hl
  · rw [List.getElem_append_left hl]
    exact h.out i hl
  · have : i = L.length := by omega
    subst this
    simpa using hr

theorem At.bad {s : ByteArray} {pos fuel : Nat} {acc : List Int} (h : At s pos fuel acc) (hp : pos < s.size) (hb : ¬good acc.length ((Utf8.decode s pos).1 : Int)) : chk (rn s) = 10 := by
  obtain ⟨f, rfl, h2⟩ := h.step hp
  have e := h2.eq
  rw [List.append_assoc] at e
  refine chk_bad acc.length (by rw [← e]; simp) ?_
  have : (rn s)[acc.length]'(by rw [← e]; simp) = ((Utf8.decode s pos).1 : Int) := by
    simp [← e]
  rw [this]
  exact hb

set_option maxHeartbeats 8000000 in
set_option maxRecDepth 1000000 in
theorem check_any (s : ByteArray) (w : World) (hs : s.size ≤ 17592186044416) :
    Calls Try.prog 10 #[.string s] w fun e w' => e = .returned (.int .i64 (chk (rn s))) ∧ Fr0 w w' := by
  go_enter Try.func10, Try.ntmps10
  go_wp2
  go_loopw [3] (fun t wr => ∃ (pos fuel : Nat) (acc : List Int), t = .int .i64 acc.length ∧ wr.heap[w.heap.size]? = some (.stringIter s pos) ∧ Below w.heap.size w wr ∧ Hid (allGood acc) ∧ Hid (At s pos fuel acc))
    (fun _ wr => s.size - wr.iterPos w.heap.size)
  case atStart =>
    refine ⟨0, s.size, [], rfl, ?_, (Below.refl _ w).alloc (Nat.le_refl _) _, hid (fun i h => absurd h (Nat.not_lt_zero _)), hid (At.start s)⟩
    have := World.iter_heap w s 0
    simpa using this
  case round =>
    obtain ⟨pos, fuel, acc, rfl, hit, hbw, hG, hA⟩ := hrel
    have hsz : w.heap.size < wr.heap.size := (Array.getElem?_eq_some_iff.1 hit).1
    have hal := hA.out.pos
    by_cases hp : pos < s.size
    · have hnx : ∀ ty, (Instr.next (.pointer (some ⟨w.heap.size, 0, none⟩)) true ty).run Try.prog wr = _ := fun ty => Lib.run_next_any_at wr w.heap.size s pos ty hit hp
      have hwd := Fy_width s pos hp
      have hit2 := Lib.iterAt_heap wr w.heap.size s pos (pos + (Utf8.decode s pos).2) hit
      have hbw2 := Lib.below_iterAt hbw (k := w.heap.size) (by omega) s (pos + (Utf8.decode s pos).2)
      have hsz2 : w.heap.size ≤ (wr.iterAt w.heap.size s (pos + (Utf8.decode s pos).2)).heap.size := by rw [Lib.iterAt_size]; omega
      have hv := At.here s pos
      have hst := hid (hA.out.step hp)
      have hbad := hid (fun hb => hA.out.bad hp hb)
      have F := fold_any ((Utf8.decode s pos).1 : Int) hv
      have S := small_any (fo ((Utf8.decode s pos).1 : Int))
      obtain ⟨r, hr⟩ : ∃ r, r = ((Utf8.decode s pos).1 : Int) := ⟨_, rfl⟩
      rw [← hr] at hst hbad F S hnx
      generalize Utf8.decode s pos = dd at *
      have HR := hid hr
      clear hv hA hr
      by_cases hsm : isSmall (fo r)
      · rw [decide_eq_true hsm] at S
        have hcs : (48 ≤ r ∧ r ≤ 57) ∨ (r = 45) ∨ (r = 95) ∨ (r < 48 ∧ r ≠ 45) ∨ (57 < r ∧ r ≠ 95) := by omega
        rcases hcs with ⟨o1, o2⟩ | rfl | rfl | ⟨o1, o2⟩ | ⟨o1, o2⟩
        · have b1 : (r == 45) = false := by simp; omega
          have b2 : (r == 95) = false := by simp; omega
          have hg : Hid (good acc.length r) := hid (Or.inl hsm)
          clear hbad hsm
          go_wp2_with (first | (go_at_call 26; refine (F _).mono ?_; rintro e W0 ⟨rfl, hf0⟩; have hit3 := hf0.at hit2 (fun h => h); have hbw3 := hbw2.trans (hf0.below (B := w.heap.size) (fun _ _ h => h) hsz2); have hsz3 : w.heap.size ≤ W0.heap.size := Nat.le_trans hsz2 hf0.size; clear F) | (go_at_call 25; refine (S _).mono ?_; rintro e W1 ⟨rfl, hf1⟩; have hit4 := hf1.at hit3 (fun h => h); have hbw4 := hbw3.trans (hf1.below (B := w.heap.size) (fun _ _ h => h) hsz3); clear S))
          obtain ⟨f, rfl, hA2⟩ := hst.out
          go_roundw
          case rel => exact ⟨_, f, _, by simp, hit4, hbw4, good_snoc hG hg.out, hid hA2⟩
          case measure =>
            simp only [World.iterPos, hit4, hit]
            omega
        · have hg : Hid (good acc.length 45) := hid (Or.inl hsm)
          clear hbad hsm
          go_wp2_with (first | (go_at_call 26; refine (F _).mono ?_; rintro e W0 ⟨rfl, hf0⟩; have hit3 := hf0.at hit2 (fun h => h); have hbw3 := hbw2.trans (hf0.below (B := w.heap.size) (fun _ _ h => h) hsz2); have hsz3 : w.heap.size ≤ W0.heap.size := Nat.le_trans hsz2 hf0.size; clear F) | (go_at_call 25; refine (S _).mono ?_; rintro e W1 ⟨rfl, hf1⟩; have hit4 := hf1.at hit3 (fun h => h); have hbw4 := hbw3.trans (hf1.below (B := w.heap.size) (fun _ _ h => h) hsz3); clear S))
          obtain ⟨f, rfl, hA2⟩ := hst.out
          go_roundw
          case rel => exact ⟨_, f, _, by simp, hit4, hbw4, good_snoc hG hg.out, hid hA2⟩
          case measure =>
            simp only [World.iterPos, hit4, hit]
            omega
        · have hg : Hid (good acc.length 95) := hid (Or.inl hsm)
          clear hbad hsm
          go_wp2_with (first | (go_at_call 26; refine (F _).mono ?_; rintro e W0 ⟨rfl, hf0⟩; have hit3 := hf0.at hit2 (fun h => h); have hbw3 := hbw2.trans (hf0.below (B := w.heap.size) (fun _ _ h => h) hsz2); have hsz3 : w.heap.size ≤ W0.heap.size := Nat.le_trans hsz2 hf0.size; clear F) | (go_at_call 25; refine (S _).mono ?_; rintro e W1 ⟨rfl, hf1⟩; have hit4 := hf1.at hit3 (fun h => h); have hbw4 := hbw3.trans (hf1.below (B := w.heap.size) (fun _ _ h => h) hsz3); clear S))
          obtain ⟨f, rfl, hA2⟩ := hst.out
          go_roundw
          case rel => exact ⟨_, f, _, by simp, hit4, hbw4, good_snoc hG hg.out, hid hA2⟩
          case measure =>
            simp only [World.iterPos, hit4, hit]
            omega
        · have b1 : (r == 45) = false := by simp; omega
          have b2 : (r == 95) = false := by simp; omega
          have hg : Hid (good acc.length r) := hid (Or.inl hsm)
          clear hbad hsm
          go_wp2_with (first | (go_at_call 26; refine (F _).mono ?_; rintro e W0 ⟨rfl, hf0⟩; have hit3 := hf0.at hit2 (fun h => h); have hbw3 := hbw2.trans (hf0.below (B := w.heap.size) (fun _ _ h => h) hsz2); have hsz3 : w.heap.size ≤ W0.heap.size := Nat.le_trans hsz2 hf0.size; clear F) | (go_at_call 25; refine (S _).mono ?_; rintro e W1 ⟨rfl, hf1⟩; have hit4 := hf1.at hit3 (fun h => h); have hbw4 := hbw3.trans (hf1.below (B := w.heap.size) (fun _ _ h => h) hsz3); clear S))
          obtain ⟨f, rfl, hA2⟩ := hst.out
          go_roundw
          case rel => exact ⟨_, f, _, by simp, hit4, hbw4, good_snoc hG hg.out, hid hA2⟩
          case measure =>
            simp only [World.iterPos, hit4, hit]
            omega
        · have b1 : (r == 45) = false := by simp; omega
          have b2 : (r == 95) = false := by simp; omega
          have hg : Hid (good acc.length r) := hid (Or.inl hsm)
          clear hbad hsm
          go_wp2_with (first | (go_at_call 26; refine (F _).mono ?_; rintro e W0 ⟨rfl, hf0⟩; have hit3 := hf0.at hit2 (fun h => h); have hbw3 := hbw2.trans (hf0.below (B := w.heap.size) (fun _ _ h => h) hsz2); have hsz3 : w.heap.size ≤ W0.heap.size := Nat.le_trans hsz2 hf0.size; clear F) | (go_at_call 25; refine (S _).mono ?_; rintro e W1 ⟨rfl, hf1⟩; have hit4 := hf1.at hit3 (fun h => h); have hbw4 := hbw3.trans (hf1.below (B := w.heap.size) (fun _ _ h => h) hsz3); clear S))
          obtain ⟨f, rfl, hA2⟩ := hst.out
          go_roundw
          case rel => exact ⟨_, f, _, by simp, hit4, hbw4, good_snoc hG hg.out, hid hA2⟩
          case measure =>
            simp only [World.iterPos, hit4, hit]
            omega
      · rw [decide_eq_false hsm] at S
        have hcs : (48 ≤ r ∧ r ≤ 57) ∨ (r = 45) ∨ (r = 95) ∨ (r < 48 ∧ r ≠ 45) ∨ (57 < r ∧ r ≠ 95) := by omega
        rcases hcs with ⟨o1, o2⟩ | rfl | rfl | ⟨o1, o2⟩ | ⟨o1, o2⟩
        · have b1 : (r == 45) = false := by simp; omega
          have b2 : (r == 95) = false := by simp; omega
          by_cases hz : acc.length = 0
          · have z : ((acc.length : Int) == 0) = true := by simp [hz]
            have hng : Hid (chk (rn s) = 10) := hid (hbad.out (fun hg => by
              rcases hg with hg | ⟨_, hg⟩
              · exact hsm hg
              · exact hg hz))
            clear hbad hsm hst hz
            go_wp2_with (first | (go_at_call 26; refine (F _).mono ?_; rintro e W0 ⟨rfl, hf0⟩; have hit3 := hf0.at hit2 (fun h => h); have hbw3 := hbw2.trans (hf0.below (B := w.heap.size) (fun _ _ h => h) hsz2); have hsz3 : w.heap.size ≤ W0.heap.size := Nat.le_trans hsz2 hf0.size; clear F) | (go_at_call 25; refine (S _).mono ?_; rintro e W1 ⟨rfl, hf1⟩; have hit4 := hf1.at hit3 (fun h => h); have hbw4 := hbw3.trans (hf1.below (B := w.heap.size) (fun _ _ h => h) hsz3); clear S))
            go_ret
            exact ⟨by rw [hng.out]; rfl, Fr.of_below hbw4⟩
          · have z : ((acc.length : Int) == 0) = false := by rw [beq_eq_false_iff_ne]; omega
            have hg : Hid (good acc.length r) := hid (Or.inr ⟨by unfold isOther; omega, hz⟩)
            clear hbad hsm
            go_wp2_with (first | (go_at_call 26; refine (F _).mono ?_; rintro e W0 ⟨rfl, hf0⟩; have hit3 := hf0.at hit2 (fun h => h); have hbw3 := hbw2.trans (hf0.below (B := w.heap.size) (fun _ _ h => h) hsz2); have hsz3 : w.heap.size ≤ W0.heap.size := Nat.le_trans hsz2 hf0.size; clear F) | (go_at_call 25; refine (S _).mono ?_; rintro e W1 ⟨rfl, hf1⟩; have hit4 := hf1.at hit3 (fun h => h); have hbw4 := hbw3.trans (hf1.below (B := w.heap.size) (fun _ _ h => h) hsz3); clear S))
            obtain ⟨f, rfl, hA2⟩ := hst.out
            go_roundw
            case rel => exact ⟨_, f, _, by simp, hit4, hbw4, good_snoc hG hg.out, hid hA2⟩
            case measure =>
              simp only [World.iterPos, hit4, hit]
              omega
        · by_cases hz : acc.length = 0
          · have z : ((acc.length : Int) == 0) = true := by simp [hz]
            have hng : Hid (chk (rn s) = 10) := hid (hbad.out (fun hg => by
              rcases hg with hg | ⟨_, hg⟩
              · exact hsm hg
              · exact hg hz))
            clear hbad hsm hst hz
            go_wp2_with (first | (go_at_call 26; refine (F _).mono ?_; rintro e W0 ⟨rfl, hf0⟩; have hit3 := hf0.at hit2 (fun h => h); have hbw3 := hbw2.trans (hf0.below (B := w.heap.size) (fun _ _ h => h) hsz2); have hsz3 : w.heap.size ≤ W0.heap.size := Nat.le_trans hsz2 hf0.size; clear F) | (go_at_call 25; refine (S _).mono ?_; rintro e W1 ⟨rfl, hf1⟩; have hit4 := hf1.at hit3 (fun h => h); have hbw4 := hbw3.trans (hf1.below (B := w.heap.size) (fun _ _ h => h) hsz3); clear S))
            go_ret
            exact ⟨by rw [hng.out]; rfl, Fr.of_below hbw4⟩
          · have z : ((acc.length : Int) == 0) = false := by rw [beq_eq_false_iff_ne]; omega
            have hg : Hid (good acc.length 45) := hid (Or.inr ⟨by unfold isOther; omega, hz⟩)
            clear hbad hsm
            go_wp2_with (first | (go_at_call 26; refine (F _).mono ?_; rintro e W0 ⟨rfl, hf0⟩; have hit3 := hf0.at hit2 (fun h => h); have hbw3 := hbw2.trans (hf0.below (B := w.heap.size) (fun _ _ h => h) hsz2); have hsz3 : w.heap.size ≤ W0.heap.size := Nat.le_trans hsz2 hf0.size; clear F) | (go_at_call 25; refine (S _).mono ?_; rintro e W1 ⟨rfl, hf1⟩; have hit4 := hf1.at hit3 (fun h => h); have hbw4 := hbw3.trans (hf1.below (B := w.heap.size) (fun _ _ h => h) hsz3); clear S))
            obtain ⟨f, rfl, hA2⟩ := hst.out
            go_roundw
            case rel => exact ⟨_, f, _, by simp, hit4, hbw4, good_snoc hG hg.out, hid hA2⟩
            case measure =>
              simp only [World.iterPos, hit4, hit]
              omega
        · by_cases hz : acc.length = 0
          · have z : ((acc.length : Int) == 0) = true := by simp [hz]
            have hng : Hid (chk (rn s) = 10) := hid (hbad.out (fun hg => by
              rcases hg with hg | ⟨_, hg⟩
              · exact hsm hg
              · exact hg hz))
            clear hbad hsm hst hz
            go_wp2_with (first | (go_at_call 26; refine (F _).mono ?_; rintro e W0 ⟨rfl, hf0⟩; have hit3 := hf0.at hit2 (fun h => h); have hbw3 := hbw2.trans (hf0.below (B := w.heap.size) (fun _ _ h => h) hsz2); have hsz3 : w.heap.size ≤ W0.heap.size := Nat.le_trans hsz2 hf0.size; clear F) | (go_at_call 25; refine (S _).mono ?_; rintro e W1 ⟨rfl, hf1⟩; have hit4 := hf1.at hit3 (fun h => h); have hbw4 := hbw3.trans (hf1.below (B := w.heap.size) (fun _ _ h => h) hsz3); clear S))
            go_ret
            exact ⟨by rw [hng.out]; rfl, Fr.of_below hbw4⟩
          · have z : ((acc.length : Int) == 0) = false := by rw [beq_eq_false_iff_ne]; omega
            have hg : Hid (good acc.length 95) := hid (Or.inr ⟨by unfold isOther; omega, hz⟩)
            clear hbad hsm
            go_wp2_with (first | (go_at_call 26; refine (F _).mono ?_; rintro e W0 ⟨rfl, hf0⟩; have hit3 := hf0.at hit2 (fun h => h); have hbw3 := hbw2.trans (hf0.below (B := w.heap.size) (fun _ _ h => h) hsz2); have hsz3 : w.heap.size ≤ W0.heap.size := Nat.le_trans hsz2 hf0.size; clear F) | (go_at_call 25; refine (S _).mono ?_; rintro e W1 ⟨rfl, hf1⟩; have hit4 := hf1.at hit3 (fun h => h); have hbw4 := hbw3.trans (hf1.below (B := w.heap.size) (fun _ _ h => h) hsz3); clear S))
            obtain ⟨f, rfl, hA2⟩ := hst.out
            go_roundw
            case rel => exact ⟨_, f, _, by simp, hit4, hbw4, good_snoc hG hg.out, hid hA2⟩
            case measure =>
              simp only [World.iterPos, hit4, hit]
              omega
        · have b1 : (r == 45) = false := by simp; omega
          have b2 : (r == 95) = false := by simp; omega
          have hng : Hid (chk (rn s) = 10) := hid (hbad.out (fun hg => by
            rcases hg with hg | ⟨hg, _⟩
            · exact hsm hg
            · unfold isOther at hg; omega))
          clear hbad hsm hst
          go_wp2_with (first | (go_at_call 26; refine (F _).mono ?_; rintro e W0 ⟨rfl, hf0⟩; have hit3 := hf0.at hit2 (fun h => h); have hbw3 := hbw2.trans (hf0.below (B := w.heap.size) (fun _ _ h => h) hsz2); have hsz3 : w.heap.size ≤ W0.heap.size := Nat.le_trans hsz2 hf0.size; clear F) | (go_at_call 25; refine (S _).mono ?_; rintro e W1 ⟨rfl, hf1⟩; have hit4 := hf1.at hit3 (fun h => h); have hbw4 := hbw3.trans (hf1.below (B := w.heap.size) (fun _ _ h => h) hsz3); clear S))
          go_ret
          exact ⟨by rw [hng.out]; rfl, Fr.of_below hbw4⟩
        · have b1 : (r == 45) = false := by simp; omega
          have b2 : (r == 95) = false := by simp; omega
          have hng : Hid (chk (rn s) = 10) := hid (hbad.out (fun hg => by
            rcases hg with hg | ⟨hg, _⟩
            · exact hsm hg
            · unfold isOther at hg; omega))
          clear hbad hsm hst
          go_wp2_with (first | (go_at_call 26; refine (F _).mono ?_; rintro e W0 ⟨rfl, hf0⟩; have hit3 := hf0.at hit2 (fun h => h); have hbw3 := hbw2.trans (hf0.below (B := w.heap.size) (fun _ _ h => h) hsz2); have hsz3 : w.heap.size ≤ W0.heap.size := Nat.le_trans hsz2 hf0.size; clear F) | (go_at_call 25; refine (S _).mono ?_; rintro e W1 ⟨rfl, hf1⟩; have hit4 := hf1.at hit3 (fun h => h); have hbw4 := hbw3.trans (hf1.below (B := w.heap.size) (fun _ _ h => h) hsz3); clear S))
          go_ret
          exact ⟨by rw [hng.out]; rfl, Fr.of_below hbw4⟩
    · have hnx : ∀ ty, (Instr.next (.pointer (some ⟨w.heap.size, 0, none⟩)) true ty).run Try.prog wr = _ := fun ty => Lib.run_next_end_at wr w.heap.size s pos ty hit hp
      have hE := hA.out.done hp
      by_cases h0 : acc.length = 0
      · have z : ((acc.length : Int) == 0) = true := by simp [h0]
        have hng : Hid (chk (rn s) = 10) := hid (by unfold chk; rw [if_neg]; rw [← hE]; omega)
        clear hA hE h0
        go_wp2
        go_ret
        exact ⟨by rw [hng.out]; rfl, Fr.of_below hbw⟩
      · have z : ((acc.length : Int) == 0) = false := by rw [beq_eq_false_iff_ne]; omega
        by_cases h16 : 16 < acc.length
        · have hng : Hid (chk (rn s) = 10) := hid (by unfold chk; rw [if_neg]; rw [← hE]; omega)
          clear hA hE h0
          go_wp2
          go_ret
          exact ⟨by rw [hng.out]; rfl, Fr.of_below hbw⟩
        · have hng : Hid (chk (rn s) = 0) := hid (by unfold chk; rw [if_pos]; rw [← hE]; exact ⟨hG.out, by omega, by omega⟩)
          clear hA hE h0
          go_wp2
          go_ret
          exact ⟨by rw [hng.out]; rfl, Fr.of_below hbw⟩
end Go.Proofs.Ythbcbnihghmniaa

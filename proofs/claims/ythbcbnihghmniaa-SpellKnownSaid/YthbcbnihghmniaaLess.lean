/-
  Less of the program.
-/
import Derived.Test.YthbcbnihghmniaaCmp
import Derived.Laws.IdiomStrings
namespace Go.Proofs.Ythbcbnihghmniaa
open Go.RowKit

theorem runesFrom_eq (s : ByteArray) : ∀ (f i : Nat) (acc : Array Value), Conv.runesFrom s f i acc = acc ++ (cel (rnL f (s.data.toList.drop i))).toArray
  | 0, i, acc => by simp [Conv.runesFrom, rnL, cel]
  | f + 1, i, acc => by
    unfold Conv.runesFrom rnL
    by_cases h : i < s.size
    · rw [if_pos h, if_neg (drop_ne h), Lib.decodeL_drop, List.drop_drop]
      show Conv.runesFrom s f (i + (Utf8.decode s i).2) (acc.push (.int .i32 (Int.ofNat (Utf8.decode s i).1))) = _
      rw [runesFrom_eq s f]
      simp [cel]
    · rw [if_neg h, if_pos (List.drop_eq_nil_of_le (by rw [size_list]; omega))]
      simp [cel]

theorem runesFrom_rn (s : ByteArray) : Conv.runesFrom s s.size 0 #[] = (cel (rn s)).toArray := by
  rw [runesFrom_eq]
  simp [rn]

/-- '[]rune(t)': a new row of t's runes. -/
theorem conv_row (t : ByteArray) (L : List Int) (hL : rn t = L) (w : World) (hs : L.length ≤ 70368744177664) :
    ∃ cap o, (convert 9 36 (.string t)).run Try.prog w = .ok (.slice (some ⟨w.heap.size, 0, none⟩) L.length cap) ((w.alloc o).drew) ∧ RowIs ((w.alloc o).drew) (some ⟨w.heap.size, 0, none⟩) w.heap.size L := by
  have hz : (Conv.runesFrom t t.size 0 #[]).size = L.length := by rw [runesFrom_rn, hL]; simp [cel]
  have h := run_runes_of_string (P := Try.prog) w 9 36 21 t Try.underlying9 Try.underlying36 Try.underlying21 (by rw [hz]; exact hs)
  rw [hz] at h
  refine ⟨_, _, h, fun _ => rfl, fun j hj => ?_, fun _ => ?_⟩
  · rw [runesFrom_rn, hL]
    have hb := alloc_block w.drew (.cells ((cel L).toArray ++ Array.replicate (grownCap w L.length 0 21 - L.length) (.int .i32 0)) 21)
    have := cell_of_block hb j
    refine Eq.trans this ?_
    rw [Array.getElem?_append_left (by simp [cel]; exact hj)]
    simp [cel, hj]
  · simp

/-- Which text is Less. -/
def lessB (a b : ByteArray) : Bool := decide (cmpL ((rn a).map fo) ((rn b).map fo) < 0)

set_option maxHeartbeats 2000000 in
set_option maxRecDepth 100000 in
theorem less_any (a b : ByteArray) (w : World) (ha : a.size ≤ 17592186044416) (hb : b.size ≤ 17592186044416) :
    Calls Try.prog 19 #[.string a, .string b] w fun e w' => e = .returned (.bool (lessB a b)) ∧ Fr0 w w' := by
  have A := fun W => foldS_any a W ha
  have B := fun W => foldS_any b W hb
  have ea : rn (foldS a) = (rn a).map fo := rn_enc _ (map_vld (rn_vld a))
  have eb : rn (foldS b) = (rn b).map fo := rn_enc _ (map_vld (rn_vld b))
  have la := rn_len a
  have lb := rn_len b
  have ma : ((rn a).map fo).length ≤ 17592186044416 := by rw [List.length_map]; omega
  have mb : ((rn b).map fo).length ≤ 17592186044416 := by rw [List.length_map]; omega
  unfold lessB
  generalize (rn a).map fo = X at *
  generalize (rn b).map fo = Y at *
  generalize foldS a = x at *
  generalize foldS b = y at *
  have EA := hid ea
  have EB := hid eb
  obtain ⟨c, hc⟩ : ∃ c, c = cmpL X Y := ⟨_, rfl⟩
  rw [← hc]
  have Hc := hid hc
  clear la lb ea eb hc
  go_enter Try.func19, Try.ntmps19
  go_wp2_with (fail)
  refine (A _).mono ?_
  rintro e w1 ⟨rfl, hf1⟩
  obtain ⟨cap, o, h1, r1⟩ := conv_row x X EA.out w1 (by omega)
  have R1 := hid r1
  have HF1 := hid ((hf1.alloc o).drew)
  clear r1 hf1
  go_wp2_with (fail)
  refine (B _).mono ?_
  rintro e w2 ⟨rfl, hf2⟩
  obtain ⟨cap2, o2, h2, r2⟩ := conv_row y Y EB.out w2 (by omega)
  have R1' := R1.out.fr0 ((hf2.alloc o2).drew)
  have HF2 := hid (HF1.out.trans0 ((hf2.alloc o2).drew))
  have C := compare_any _ _ _ _ cap cap2 X Y _ R1' r2 (by omega) (by omega)
  rw [← Hc.out] at C
  clear r2 hf2 R1' h1
  go_wp2_with (go_at_call 33; refine C.mono ?_; rintro e w3 ⟨rfl, rfl⟩)
  go_ret
  exact ⟨by rfl, HF2.out⟩
end Go.Proofs.Ythbcbnihghmniaa

/-
  slices.rotateCmpFunc at a row of pointers.
-/
import Derived.Test.YtjaabbjobnfmmaaRotA
namespace Go.Proofs.Ytjaabbjobnfmmaa
open Go.RowKit

theorem swapRange_int (g cap : Nat) (p : Nat → Nat) (X A M B Y : List Nat) (hAB : A.length = B.length) (cmp : Value) (a b n : Int) (len : Nat) (ha : a = X.length) (hb : b = X.length + A.length + M.length) (hn : n = A.length)
    (hlen : len = X.length + A.length + M.length + B.length + Y.length) (hcap : len ≤ 4398046511104) (w : World) (h : PRow w g p (X ++ A ++ M ++ B ++ Y)) :
    Calls Try.prog 97 #[.slice (some ⟨g, 0, none⟩) len cap, .int .i64 a, .int .i64 b, .int .i64 n, cmp] w fun e w' => e = .returned (.tuple #[]) ∧ Fr (· = g) w w' ∧ PRow w' g p (X ++ B ++ M ++ A ++ Y) := by
  have hb2 : b = ((X.length + A.length + M.length : Nat) : Int) := by rw [hb]; omega
  rw [ha, hb2, hn]
  exact swapRange_any g cap p X A M B Y hAB cmp _ _ _ len rfl rfl rfl hlen hcap w h

/-- How the loop of rotate stands. -/
structure RotRel (w wr : World) (g : Nat) (p : Nat → Nat) (len m : Nat) (T X U V Y : List Nat) : Prop where
  row : PRow wr g p (X ++ U ++ V ++ Y)
  fr : Fr (· = g) w wr
  goal : X ++ V ++ U ++ Y = T
  mid : m = X.length + U.length
  len : len = X.length + U.length + V.length + Y.length
  u : 0 < U.length
  v : 0 < V.length

set_option maxRecDepth 100000 in
set_option maxHeartbeats 2000000 in
theorem rotate_any (g cap : Nat) (p : Nat → Nat) (X U V Y : List Nat) (hU : 0 < U.length) (hV : 0 < V.length) (cmp : Value) (a m b len : Nat) (ha : a = X.length) (hm : m = X.length + U.length) (hb : b = X.length + U.length + V.length)
    (hlen : len = X.length + U.length + V.length + Y.length) (hcap : len ≤ 4398046511104) (w : World) (h : PRow w g p (X ++ U ++ V ++ Y)) :
    Calls Try.prog 91 #[.slice (some ⟨g, 0, none⟩) len cap, .int .i64 a, .int .i64 m, .int .i64 b, cmp] w fun e w' => e = .returned (.tuple #[]) ∧ Fr (· = g) w w' ∧ PRow w' g p (X ++ V ++ U ++ Y) := by
  have HR := hid (show RotRel w w g p len m (X ++ V ++ U ++ Y) X U V Y from ⟨h, Fr.refl _ _, rfl, hm, hlen, hU, hV⟩)
  have e1 : m - a = U.length := by omega
  have e2 : b - m = V.length := by omega
  have hma : a ≤ m := by omega
  have hmb : m ≤ b := by omega
  have hbl : b ≤ len := by omega
  have E1 := hid e1
  have E2 := hid e2
  clear h ha hm hb hlen hU hV e1 e2
  generalize X ++ V ++ U ++ Y = T at HR ⊢
  go_enter Try.func91, Try.ntmps91
  go_wp2
  go_loopw [10, 11] (fun i j wr => ∃ ui vj : Nat, i = .int .i64 ui ∧ j = .int .i64 vj ∧ ui ≤ m ∧ vj ≤ len ∧ Hid (∃ X U V Y, RotRel w wr g p len m T X U V Y ∧ ui = U.length ∧ vj = V.length))
    (fun i j _ => (intOf i).toNat + (intOf j).toNat)
  case atStart => exact ⟨m - a, b - m, by congr 1; omega, by congr 1; omega, by omega, by omega, hid ⟨X, U, V, Y, HR.out, E1.out, E2.out⟩⟩
  case round =>
    clear HR E1 E2
    obtain ⟨ui, vj, rfl, rfl, hui, hvj, hR⟩ := hrel
    obtain ⟨X, U, V, Y, hR1, hu, hv⟩ := hR.out
    have HR := hid (And.intro hR1 (And.intro hu hv))
    have hu0 : 0 < ui := by have := hR1.u; omega
    have hv0 : 0 < vj := by have := hR1.v; omega
    have hmv : m + vj ≤ len := by have := hR1.mid; have := hR1.len; omega
    clear hR hR1 hu hv
    rcases Nat.lt_trichotomy ui vj with hlt | heq | hgt
    · have hne : ((ui : Int) != (vj : Int)) = true := by simp; omega
      have hng : ¬ ((vj : Int) < (ui : Int)) := by omega
      have hd : (V.drop (vj - ui)).length = U.length := by have := HR.out.2; simp; omega
      have ht : (V.take (vj - ui)).length = vj - ui := by have := HR.out.2; simp; omega
      have H1 := hid (And.intro hd ht)
      have hrow : PRow wr g p (X ++ U ++ V.take (vj - ui) ++ V.drop (vj - ui) ++ Y) := by
        have := HR.out.1.row
        rw [List.append_assoc (X ++ U), List.take_append_drop]
        exact this
      have hC := swapRange_int g cap p X U (V.take (vj - ui)) (V.drop (vj - ui)) Y hd.symm cmp ((m : Int) - ui) ((m : Int) + vj - ui) ui len (by have := HR.out.1.mid; have := HR.out.2; omega) (by have := HR.out.1.mid; have := HR.out.2; omega) (by have := HR.out.2; omega)
        (by have := HR.out.1.len; have := HR.out.2; omega) hcap wr hrow
      clear hd ht hrow
      go_wp2_with fail
      refine hC.mono ?_
      rintro e w2 ⟨rfl, hf2, hr2⟩
      have HS : Hid (RotRel w w2 g p len m T X (V.drop (vj - ui)) (V.take (vj - ui)) (U ++ Y) ∧ ui = (V.drop (vj - ui)).length ∧ vj - ui = (V.take (vj - ui)).length) := hid (by
        obtain ⟨hd, ht⟩ := H1.out
        have h0 := HR.out
        refine ⟨⟨by simpa using hr2, h0.1.fr.trans' hf2, ?_, by rw [hd]; exact h0.1.mid, ?_, by rw [hd]; exact h0.1.u, by rw [ht]; omega⟩, by rw [hd]; exact h0.2.1, ht.symm⟩
        · rw [← h0.1.goal]
          have := List.take_append_drop (vj - ui) V
          calc X ++ V.take (vj - ui) ++ V.drop (vj - ui) ++ (U ++ Y) = X ++ (V.take (vj - ui) ++ V.drop (vj - ui)) ++ U ++ Y := by simp only [List.append_assoc]
            _ = X ++ V ++ U ++ Y := by rw [this]
        · have := h0.1.len
          rw [hd, ht]
          simp
          omega)
      clear hf2 hr2 hC
      go_wp2
      go_roundw
      case rel => exact ⟨ui, vj - ui, rfl, by congr 1; omega, by omega, by omega, hid ⟨_, _, _, _, HS.out⟩⟩
      case measure => simp [intOf]; omega
    · subst heq
      have hne : ((ui : Int) != (ui : Int)) = false := by simp
      have hC := swapRange_int g cap p X U [] V Y (by have := HR.out.2; omega) cmp ((m : Int) - ui) m ui len (by have := HR.out.1.mid; have := HR.out.2; omega) (by have := HR.out.1.mid; simp; omega) (by have := HR.out.2; omega)
        (by have := HR.out.1.len; simp; omega) hcap wr (by have := HR.out.1.row; simpa using this)
      go_wp2_with fail
      refine hC.mono ?_
      rintro e w2 ⟨rfl, hf2, hr2⟩
      have HS : Hid (Fr (· = g) w w2 ∧ PRow w2 g p T) := hid ⟨HR.out.1.fr.trans' hf2, by have := HR.out.1.goal; rw [← this]; simpa using hr2⟩
      clear hf2 hr2 hC
      go_wp2
      go_end0
      exact ⟨rfl, HS.out⟩
    · have hne : ((ui : Int) != (vj : Int)) = true := by simp; omega
      have hd : (U.drop vj).length = ui - vj := by have := HR.out.2; simp; omega
      have ht : (U.take vj).length = V.length := by have := HR.out.2; simp; omega
      have H1 := hid (And.intro hd ht)
      have hrow : PRow wr g p (X ++ U.take vj ++ U.drop vj ++ V ++ Y) := by
        have := HR.out.1.row
        rw [List.append_assoc X, List.take_append_drop]
        exact this
      have hC := swapRange_int g cap p X (U.take vj) (U.drop vj) V Y ht cmp ((m : Int) - ui) m vj len (by have := HR.out.1.mid; have := HR.out.2; omega) (by have := HR.out.1.mid; have := HR.out.2; omega) (by have := HR.out.2; omega)
        (by have := HR.out.1.len; have := HR.out.2; omega) hcap wr hrow
      clear hd ht hrow
      go_wp2_with fail
      refine hC.mono ?_
      rintro e w2 ⟨rfl, hf2, hr2⟩
      have HS : Hid (RotRel w w2 g p len m T (X ++ V) (U.drop vj) (U.take vj) Y ∧ ui - vj = (U.drop vj).length ∧ vj = (U.take vj).length) := hid (by
        obtain ⟨hd, ht⟩ := H1.out
        have h0 := HR.out
        refine ⟨⟨hr2, h0.1.fr.trans' hf2, ?_, ?_, ?_, by rw [hd]; omega, by rw [ht]; exact h0.1.v⟩, hd.symm, by rw [ht]; exact h0.2.2⟩
        · rw [← h0.1.goal]
          have := List.take_append_drop vj U
          calc X ++ V ++ U.take vj ++ U.drop vj ++ Y = X ++ V ++ (U.take vj ++ U.drop vj) ++ Y := by simp only [List.append_assoc]
            _ = X ++ V ++ U ++ Y := by rw [this]
        · have := h0.1.mid
          rw [hd]
          simp
          omega
        · have := h0.1.len
          rw [hd, ht]
          simp
          omega)
      clear hf2 hr2 hC
      go_wp2
      go_roundw
      case rel => exact ⟨ui - vj, vj, by congr 1; omega, rfl, by omega, by omega, hid ⟨_, _, _, _, HS.out⟩⟩
      case measure => simp [intOf]; omega
end Go.Proofs.Ytjaabbjobnfmmaa

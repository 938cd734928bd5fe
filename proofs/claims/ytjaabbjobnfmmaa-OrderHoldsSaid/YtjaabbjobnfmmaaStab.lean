/-
  slices.SortStableFunc at a row of pointers to calls.
-/
import Derived.Test.YtjaabbjobnfmmaaStabP
namespace Go.Proofs.Ytjaabbjobnfmmaa
open Go.RowKit

/-- slices.insertionSortCmpFunc at one block of the row M. -/
theorem ins_blk (g cap : Nat) (p : Nat → Nat) (t : Nat → Int) (N : Nat) (ht : ∀ i, i < N → -1 ≤ t i) (L : List Nat) (hL : L.Pairwise (· < ·)) (hN : ∀ i ∈ L, i < N) (M : List Nat) (k bs len : Nat) (h : InsAt t L M bs k) (a b : Int) (hk : k * bs ≤ len) (ha : a = (k * bs : Nat)) (hb : b = (min (k * bs + bs) len : Nat))
    (hlen : len = M.length) (hcap : len ≤ 4398046511104) (w : World) (hr : PRow w g p M) (hT : Tos w g p t N) :
    Calls Try.prog 79 #[.slice (some ⟨g, 0, none⟩) len cap, .int .i64 a, .int .i64 b, .func (.func 55) #[] #[]] w fun e w' => e = .returned (.tuple #[]) ∧ Fr (· = g) w w' ∧ ∃ M', InsAt t L M' bs (k + 1) ∧ PRow w' g p M' := by
  have hM := cut_blk M k bs
  have hbM : blk M k bs = blk L k bs := by unfold blk; rw [h.rest]
  have hbl : (blk M k bs).length = min (k * bs + bs) len - k * bs := by unfold blk; simp; omega
  rw [ha, hb]
  refine (insertion_any g cap p t N ht (M.take (k * bs)) (blk M k bs) (M.drop (k * bs + bs)) (by rw [hbM]; exact blk_asc hL k bs) (fun i hi => by rw [hbM] at hi; exact hN i (mem_blk hi)) _ _ len (by simp; omega) (by rw [hbl]; simp; omega)
    (by rw [hbl]; simp; omega) hcap w (by rw [← hM]; exact hr) hT).mono ?_
  rintro e w' ⟨he, hf, C, hC1, hC2, hC3⟩
  exact ⟨he, hf, _, h.step (hbM ▸ hC1) hC2 (by omega), hC3⟩

/-- slices.symMergeCmpFunc at two neighbouring blocks of the row M. -/
theorem sym_blk (g cap : Nat) (p : Nat → Nat) (t : Nat → Int) (N : Nat) (ht : ∀ i, i < N → -1 ≤ t i) (L : List Nat) (hL : L.Pairwise (· < ·)) (hN : ∀ i ∈ L, i < N) (M : List Nat) (k bs len : Nat) (h : MrgAt t L M bs k) (hbs : 0 < bs) (a m b : Int) (hk : k * (2 * bs) + bs < len) (ha : a = (k * (2 * bs) : Nat)) (hm : m = (k * (2 * bs) + bs : Nat)) (hb : b = (min (k * (2 * bs) + 2 * bs) len : Nat))
    (hlen : len = M.length) (hcap : len ≤ 4398046511104) (w : World) (hr : PRow w g p M) (hT : Tos w g p t N) :
    Calls Try.prog 80 #[.slice (some ⟨g, 0, none⟩) len cap, .int .i64 a, .int .i64 m, .int .i64 b, .func (.func 55) #[] #[]] w fun e w' => e = .returned (.tuple #[]) ∧ Fr (· = g) w w' ∧ ∃ M', MrgAt t L M' bs (k + 1) ∧ PRow w' g p M' := by
  have hM := cut_blk M k (2 * bs)
  have e1 : 2 * k * bs = k * (2 * bs) := by rw [Nat.mul_comm 2 k, Nat.mul_assoc]
  have e2 : (2 * k + 1) * bs = k * (2 * bs) + bs := by rw [Nat.add_mul, e1]; omega
  have l1 : (blk M (2 * k) bs).length = bs := blk_len _ _ _ (by omega)
  have l2 : (blk M (2 * k + 1) bs).length = min (k * (2 * bs) + 2 * bs) len - (k * (2 * bs) + bs) := by unfold blk; rw [e2]; simp; omega
  have l3 : (M.take (k * (2 * bs))).length = k * (2 * bs) := by simp; omega
  have hrow : PRow w g p (M.take (k * (2 * bs)) ++ blk M (2 * k) bs ++ blk M (2 * k + 1) bs ++ M.drop (k * (2 * bs) + 2 * bs)) := by
    rw [List.append_assoc (M.take _), ← blk_two, ← hM]; exact hr
  refine (sym_any g cap p t N len ht hcap ((blk M (2 * k) bs).length + (blk M (2 * k + 1) bs).length) (M.take (k * (2 * bs))) (blk M (2 * k) bs) (blk M (2 * k + 1) bs) (M.drop (k * (2 * bs) + 2 * bs)) a m b w (Nat.le_refl _) (by omega) (by omega)
    (pre_of_blk hL hN (h.rest _ (Nat.le_refl _)) (h.rest _ (by omega))) (by rw [l3]; exact ha) (by rw [l3, l1, hm]; omega) (by rw [l3, l1, l2, hb]; omega) (by rw [l3, l1, l2]; simp; omega) hrow hT).mono ?_
  rintro e w' ⟨he, hf, C, hC1, hC2, hC3⟩
  exact ⟨he, hf, _, h.step hC1 hC2, hC3⟩

set_option maxRecDepth 100000 in
set_option maxHeartbeats 4000000 in
theorem stable_any (g cap : Nat) (p : Nat → Nat) (t : Nat → Int) (N : Nat) (ht : ∀ i, i < N → -1 ≤ t i) (L : List Nat) (hL : L.Pairwise (· < ·)) (hN : ∀ i ∈ L, i < N) (len : Nat) (hlen : len = L.length) (hcap : len ≤ 100000) (w : World) (h : PRow w g p L) (hT : Tos w g p t N) :
    Calls Try.prog 73 #[.slice (some ⟨g, 0, none⟩) len cap, .int .i64 len, .func (.func 55) #[] #[]] w fun e w' => e = .returned (.tuple #[]) ∧ Fr (· = g) w w' ∧ ∃ M, M.Perm L ∧ Srt t M ∧ PRow w' g p M := by
  have H := hid (And.intro h hT)
  have HL := hid (And.intro hlen (And.intro hL hN))
  clear h hT hlen hL hN
  go_enter Try.func73, Try.ntmps73
  go_wp2_with fail
  go_loopw [7, 8] (fun a b wr => ∃ k A : Nat, a = .int .i64 A ∧ b = .int .i64 ((A : Int) + 20) ∧ A ≤ len ∧ Hid (A = k * 20 ∧ Fr (· = g) w wr ∧ ∃ M, InsAt t L M 20 k ∧ PRow wr g p M)) (fun a _ _ => len + 1 - (intOf a).toNat)
  case atStart => exact ⟨0, 0, rfl, rfl, by omega, hid ⟨rfl, Fr.refl _ _, L, ⟨rfl, fun i hi => by omega, rfl⟩, H.out.1⟩⟩
  case round =>
    obtain ⟨k, A, rfl, rfl, hk, hR⟩ := hrel
    obtain ⟨hA, hf, M, hI, hM⟩ := hR.out
    have HR := hid (And.intro hf (And.intro hI hM))
    have HA := hid hA
    have HML : Hid (len = M.length) := hid (by rw [hI.len]; exact HL.out.1)
    clear hR hf hI hM hA
    by_cases hlt : A + 20 ≤ len
    · have hltI : (A : Int) + 20 ≤ (len : Int) := by omega
      have hC := ins_blk g cap p t N ht L HL.out.2.1 HL.out.2.2 M k 20 len HR.out.2.1 A ((A : Int) + 20) (by rw [← HA.out]; omega) (by rw [← HA.out]) (by rw [← HA.out]; omega) HML.out (by omega) wr HR.out.2.2 (H.out.2.fr HR.out.1)
      go_wp2_with fail
      refine hC.mono ?_
      rintro e w2 ⟨rfl, hf2, M', hI', hM'⟩
      have HE := hid (show A + 20 = (k + 1) * 20 ∧ Fr (· = g) w w2 ∧ ∃ M, InsAt t L M 20 (k + 1) ∧ PRow w2 g p M from ⟨by have := HA.out; omega, HR.out.1.trans' hf2, M', hI', hM'⟩)
      clear hf2 hI' hM' hC
      go_wp2
      go_roundw
      case rel => exact ⟨k + 1, A + 20, vi (by omega), vi (by omega), by omega, HE⟩
      case measure => simp [intOf]; omega
    · have hnI : ¬ (A : Int) + 20 ≤ (len : Int) := by omega
      have hC := ins_blk g cap p t N ht L HL.out.2.1 HL.out.2.2 M k 20 len HR.out.2.1 A len (by rw [← HA.out]; omega) (by rw [← HA.out]) (by rw [← HA.out]; omega) HML.out (by omega) wr HR.out.2.2 (H.out.2.fr HR.out.1)
      go_wp2_with fail
      refine hC.mono ?_
      rintro e w2 ⟨rfl, hf2, M', hI', hM'⟩
      have HE := hid (show Fr (· = g) w w2 ∧ ∃ M, M.length = L.length ∧ (∀ i, GB t L M i 20) ∧ PRow w2 g p M from ⟨HR.out.1.trans' hf2, M', hI'.len, hI'.all (by rw [hI'.len, ← HL.out.1, ← HA.out]; omega), hM'⟩)
      clear hf2 hI' hM' hC HR HML HA hlt hnI hk
      go_wp2_with fail
      go_loopw [6] (fun t6 wr => ∃ bs : Nat, t6 = .int .i64 bs ∧ 20 ≤ bs ∧ bs ≤ 2 * len + 20 ∧ Hid (Fr (· = g) w wr ∧ ∃ M, M.length = L.length ∧ (∀ i, GB t L M i bs) ∧ PRow wr g p M)) (fun t6 _ => 2 * len + 21 - (intOf t6).toNat)
      case atStart => exact ⟨20, rfl, by omega, by omega, HE⟩
      case round =>
        obtain ⟨bs, rfl, hb0, hb1, hR⟩ := hrel
        clear HE
        by_cases hbl : bs < len
        · have hbI : (bs : Int) < (len : Int) := by omega
          go_wp2_with fail
          obtain ⟨wo, rfl⟩ : ∃ wo : World, wo = wr := ⟨_, rfl⟩
          go_loopw [7, 8] (fun a b wr => ∃ k A : Nat, a = .int .i64 A ∧ b = .int .i64 ((A : Int) + 2 * bs) ∧ A ≤ len ∧ Hid (A = k * (2 * bs) ∧ Fr (· = g) w wr ∧ ∃ M, MrgAt t L M bs k ∧ PRow wr g p M)) (fun a _ _ => len + 1 - (intOf a).toNat)
          case atStart => exact ⟨0, 0, rfl, vi (by omega), by omega, hid (by
            obtain ⟨f1, M, m1, m2, m3⟩ := hR.out
            exact ⟨by omega, f1, M, MrgAt.start m1 m2, m3⟩)⟩
          case round =>
            obtain ⟨k, A, rfl, rfl, hk, hR2⟩ := hrel
            obtain ⟨hA, hf, M, hI, hM⟩ := hR2.out
            have HR := hid (And.intro hf (And.intro hI hM))
            have HA := hid hA
            have HML : Hid (len = M.length) := hid (by rw [hI.len]; exact HL.out.1)
            clear hR2 hf hI hM hA
            by_cases hlt : A + 2 * bs ≤ len
            · have hltI : (A : Int) + 2 * (bs : Int) ≤ (len : Int) := by omega
              have hC := sym_blk g cap p t N ht L HL.out.2.1 HL.out.2.2 M k bs len HR.out.2.1 (by omega) A ((A : Int) + bs) ((A : Int) + 2 * bs) (by rw [← HA.out]; omega) (by rw [← HA.out]) (by rw [← HA.out]; omega) (by rw [← HA.out]; omega) HML.out (by omega) wr HR.out.2.2 (H.out.2.fr HR.out.1)
              go_wp2_with fail
              refine hC.mono ?_
              rintro e w3 ⟨rfl, hf3, M', hI', hM'⟩
              have HE := hid (show A + 2 * bs = (k + 1) * (2 * bs) ∧ Fr (· = g) w w3 ∧ ∃ M, MrgAt t L M bs (k + 1) ∧ PRow w3 g p M from ⟨by rw [Nat.add_mul, Nat.one_mul, ← HA.out], HR.out.1.trans' hf3, M', hI', hM'⟩)
              clear hf3 hI' hM' hC
              go_wp2
              go_roundw
              case rel => exact ⟨k + 1, A + 2 * bs, vi (by omega), vi (by omega), by omega, HE⟩
              case measure => simp [intOf]; omega
            · have hnI : ¬ (A : Int) + 2 * (bs : Int) ≤ (len : Int) := by omega
              by_cases hm : A + bs < len
              · have hmI : (A : Int) + (bs : Int) < (len : Int) := by omega
                have hC := sym_blk g cap p t N ht L HL.out.2.1 HL.out.2.2 M k bs len HR.out.2.1 (by omega) A ((A : Int) + bs) len (by rw [← HA.out]; omega) (by rw [← HA.out]) (by rw [← HA.out]; omega) (by rw [← HA.out]; omega) HML.out (by omega) wr HR.out.2.2 (H.out.2.fr HR.out.1)
                go_wp2_with fail
                refine hC.mono ?_
                rintro e w3 ⟨rfl, hf3, M', hI', hM'⟩
                have HE := hid (show Fr (· = g) w w3 ∧ ∃ M, M.length = L.length ∧ (∀ i, GB t L M i (2 * bs)) ∧ PRow w3 g p M from ⟨HR.out.1.trans' hf3, M', hI'.len, hI'.all (by rw [hI'.len, ← HL.out.1, ← HA.out]; omega), hM'⟩)
                clear hf3 hI' hM' hC
                go_wp2
                go_roundw
                case rel => exact ⟨2 * bs, vi (by omega), by omega, by omega, HE⟩
                case measure => simp [intOf]; omega
              · have hmI : ¬ (A : Int) + (bs : Int) < (len : Int) := by omega
                have HE := hid (show Fr (· = g) w wr ∧ ∃ M, M.length = L.length ∧ (∀ i, GB t L M i (2 * bs)) ∧ PRow wr g p M from ⟨HR.out.1, M, HR.out.2.1.len, HR.out.2.1.last (by rw [← HML.out, ← HA.out]; omega), HR.out.2.2⟩)
                go_wp2
                go_roundw
                case rel => exact ⟨2 * bs, vi (by omega), by omega, by omega, HE⟩
                case measure => simp [intOf]; omega
        · have hbI : ¬ (bs : Int) < (len : Int) := by omega
          have HE := hid (show Fr (· = g) w wr ∧ ∃ M, M.Perm L ∧ Srt t M ∧ PRow wr g p M from by
            obtain ⟨f1, M, m1, m2, m3⟩ := hR.out
            obtain ⟨j1, j2⟩ := all_of_blk m1 (m2 0) (by have := HL.out.1; omega)
            exact ⟨f1, M, j1, j2, m3⟩)
          go_wp2
          go_end0
          exact ⟨rfl, HE.out⟩

theorem sortStable_any (g cap : Nat) (p : Nat → Nat) (t : Nat → Int) (N : Nat) (ht : ∀ i, i < N → -1 ≤ t i) (L : List Nat) (hL : L.Pairwise (· < ·)) (hN : ∀ i ∈ L, i < N) (len : Nat) (hlen : len = L.length) (hcap : len ≤ 100000) (w : World) (h : PRow w g p L) (hT : Tos w g p t N) :
    Calls Try.prog 54 #[.slice (some ⟨g, 0, none⟩) len cap, .func (.func 55) #[] #[]] w fun e w' => e = .returned (.tuple #[]) ∧ Fr (· = g) w w' ∧ ∃ M, M.Perm L ∧ Srt t M ∧ PRow w' g p M := by
  have H := stable_any g cap p t N ht L hL hN len hlen hcap w h hT
  clear h hT hL hN hlen
  go_enter Try.func54, Try.ntmps54
  go_wp2_with fail
  refine H.mono ?_
  rintro e w1 ⟨rfl, hE⟩
  have HE := hid hE
  clear hE H
  go_wp2
  go_end0
  exact ⟨rfl, HE.out⟩
end Go.Proofs.Ytjaabbjobnfmmaa

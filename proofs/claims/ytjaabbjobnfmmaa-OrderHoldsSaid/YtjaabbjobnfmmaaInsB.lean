/-
  slices.insertionSortCmpFunc at a row of pointers to calls.
-/
import Derived.Test.YtjaabbjobnfmmaaInsA
import Derived.Test.YtjaabbjobnfmmaaExt
import Derived.IntWalk
namespace Go.Proofs.Ytjaabbjobnfmmaa
open Go.RowKit

def cmpV : Value := .func (.func 55) #[] #[]

theorem PRow.pair {w : World} {g : Nat} {p : Nat → Nat} {B R : List Nat} {x y : Nat} (h : PRow w g p (B ++ y :: x :: R)) :
    w.cell? ⟨g, B.length, none⟩ = some (pv p y) ∧ w.cell? ⟨g, B.length + 1, none⟩ = some (pv p x) ∧ PRow ((w.setCell ⟨g, B.length + 1, none⟩ (pv p y)).setCell ⟨g, B.length, none⟩ (pv p x)) g p (B ++ x :: y :: R) := by
  have h1 := h.cell B.length (by simp)
  have h2 := h.cell (B.length + 1) (by simp)
  have e1 : (B ++ y :: x :: R)[B.length]'(by simp) = y := by simp
  have e2 : (B ++ y :: x :: R)[B.length + 1]'(by simp) = x := by
    rw [List.getElem_append_right (by omega)]; simp
  rw [e1] at h1
  rw [e2] at h2
  refine ⟨h1, h2, ?_⟩
  have h3 := (h.set (B.length + 1) y).set B.length x
  have e3 : ((B ++ y :: x :: R).set (B.length + 1) y).set B.length x = B ++ x :: y :: R := by
    rw [List.set_append_right _ _ (by omega), List.set_append_right _ _ (by omega)]
    simp
  rw [e3] at h3
  exact h3

theorem wrap_in (n : Int) (h0 : -9223372036854775808 ≤ n) (h1 : n ≤ 9223372036854775807) : IntKind.i64.wrap n = n := IntWalk.i64_in n (by omega)

theorem len_of_perm {P A : List Nat} {k : Nat} (h : P.Perm (A.take k)) (hk : k ≤ A.length) : P.length = k := by
  rw [h.length_eq]; simp; omega

set_option maxRecDepth 100000 in
set_option maxHeartbeats 4000000 in
theorem insertion_any (g cap : Nat) (p : Nat → Nat) (t : Nat → Int) (N : Nat) (ht : ∀ i, i < N → -1 ≤ t i) (X A Y : List Nat) (hA : A.Pairwise (· < ·)) (hAN : ∀ i ∈ A, i < N) (a b len : Nat) (ha : a = X.length) (hb : b = X.length + A.length)
    (hlen : len = X.length + A.length + Y.length) (hcap : len ≤ 4398046511104) (w : World) (h : PRow w g p (X ++ A ++ Y)) (hT : Tos w g p t N) :
    Calls Try.prog 79 #[.slice (some ⟨g, 0, none⟩) len cap, .int .i64 a, .int .i64 b, .func (.func 55) #[] #[]] w fun e w' => e = .returned (.tuple #[]) ∧ Fr (· = g) w w' ∧ ∃ A', A'.Perm A ∧ Srt t A' ∧ PRow w' g p (X ++ A' ++ Y) := by
  have HR : Hid (A.length = 0 ∨ ∃ P, InsOut w w g p t X A Y P 1) := hid (by
    cases A with
    | nil => exact .inl rfl
    | cons x A => exact .inr ⟨[x], by simpa using h, by simp, by simp [Srt], Fr.refl _ _⟩)
  have HT := hid hT
  have HA := hid (And.intro hA hAN)
  have HL := hid (And.intro ha (And.intro hb hlen))
  have hab : a ≤ b := by omega
  have hbl : b ≤ len := by omega
  have H := hid h
  clear h hT hA hAN ha hb hlen
  go_enter Try.func79, Try.ntmps79
  go_wp2
  go_loopw [8] (fun i wr => ∃ k : Nat, i = .int .i64 ((a : Int) + k) ∧ 1 ≤ k ∧ a + k ≤ len + 1 ∧ Hid ((A.length = 0 ∧ wr = w) ∨ (k ≤ A.length ∧ ∃ P, InsOut w wr g p t X A Y P k))) (fun i _ => len + 1 - (intOf i).toNat)
  case atStart => exact ⟨1, rfl, Nat.le_refl _, by omega, hid (by
    rcases HR.out with h0 | h1
    · exact .inl ⟨h0, rfl⟩
    · by_cases h0 : A.length = 0
      · exact .inl ⟨h0, rfl⟩
      · exact .inr ⟨by omega, h1⟩)⟩
  case round =>
    obtain ⟨k, rfl, hk1, hkl, hR⟩ := hrel
    clear HR
    by_cases hlt : a + k < b
    · obtain ⟨P, hP⟩ : ∃ P, Hid (InsOut w wr g p t X A Y P k ∧ k < A.length) := by
        have h3 := HL.out
        rcases hR.out with ⟨h0, _⟩ | ⟨h1, P, h2⟩
        · omega
        · exact ⟨P, hid ⟨h2, by omega⟩⟩
      clear hR
      have hPl := len_of_perm hP.out.1.perm (by have := hP.out.2; omega)
      obtain ⟨x, hx⟩ : ∃ x, x = A[k]'hP.out.2 := ⟨_, rfl⟩
      have hIn := hP.out.1.begin hP.out.2
      rw [← hx] at hIn
      have HI := hid (And.intro hIn (And.intro hx hPl))
      have hltI : (a : Int) + (k : Int) < (b : Int) := by omega
      clear hIn hx hPl
      go_wp2_with fail
      go_loopw [9] (fun j wr => ∃ (m : Nat), j = .int .i64 ((a : Int) + m) ∧ m ≤ k ∧ Hid (∃ P1 P2, InsIn w wr g p t X A Y P1 P2 k x ∧ P1.length = m)) (fun j _ => (intOf j).toNat)
      case atStart => exact ⟨k, rfl, Nat.le_refl _, hid ⟨P, [], HI.out.1, HI.out.2.2⟩⟩
      case round =>
        obtain ⟨m, rfl, hm, hR⟩ := hrel
        obtain ⟨P1, P2, hI, hPm⟩ := hR.out
        have HJ := hid (And.intro hI hPm)
        clear hR hI hPm
        rcases Nat.eq_zero_or_pos m with hm0 | hm0
        · subst hm0
          have hgd : decide ((a : Int) < (a : Int) + ((0 : Nat) : Int)) = false := by simp
          have hW : Hid (∀ W, Fr0 wr W → InsOut w W g p t X A Y (P1 ++ x :: P2) (k + 1)) := hid (fun W hW => (HJ.out.1.fr0 hW).stop hP.out.2 HI.out.2.1 (fun y hy => by
            have : P1 = [] := List.eq_nil_of_length_eq_zero HJ.out.2
            rw [this] at hy; simp at hy))
          clear HJ
          go_wp2
          go_quiet (fail)
          go_wp2
          go_roundw
          case rel => exact ⟨k + 1, by go_num, by omega, by omega, hid (.inr ⟨by have := hP.out.2; omega, _, hW.out _ ((Fr.refl _ _).drewN _)⟩)⟩
          case measure => simp [intOf]; omega
        · obtain ⟨Q, y, hQ⟩ : ∃ Q y, P1 = Q ++ [y] := by
            rcases List.eq_nil_or_concat P1 with e | ⟨Q, y, e⟩
            · rw [e] at HJ; have := HJ.out.2; simp at this; omega
            · exact ⟨Q, y, by rw [e, List.concat_eq_append]⟩
          subst hQ
          have hQl : Q.length + 1 = m := by have := HJ.out.2; simpa using this
          have hBl : (X ++ Q).length = a + m - 1 := by have := HL.out; simp; omega
          have hrow : PRow wr g p ((X ++ Q) ++ y :: x :: (P2 ++ A.drop (k + 1) ++ Y)) := by have := HJ.out.1.row; simpa using this
          have hpr := hrow.pair
          rw [hBl, show a + m - 1 + 1 = a + m by omega] at hpr
          have hxN : x < N := by rw [HI.out.2.1]; exact HA.out.2 _ (List.getElem_mem _)
          have hyA : y ∈ A.take k := HJ.out.1.perm.mem_iff.1 (by simp)
          have hyN : y < N := HA.out.2 _ (List.mem_of_mem_take hyA)
          have hyx : y < x := by
            rw [HI.out.2.1]
            have h2 := HA.out.1
            rw [← List.take_append_drop k A, List.drop_eq_getElem_cons hP.out.2, List.pairwise_append] at h2
            exact h2.2.2 y hyA _ (List.mem_cons_self ..)
          have hTx := ht x hxN
          have hTy := ht y hyN
          have hS := fun (q : Ext wr) => sooner_any ((HT.out.fr HJ.out.1.fr).fr0 q.fr) x y hxN hyN
          obtain ⟨c, hc⟩ : ∃ c, c = snr (t x) (t y) := ⟨_, rfl⟩
          rw [← hc] at hS
          have hcn : c < 0 ↔ ltT (t x) (t y) := by rw [hc]; exact snr_neg hTx hTy
          simp only [pv] at hS hpr
          have HS := hid hS
          have HP := hid hpr
          have HB := hid (And.intro hBl (And.intro hyx (And.intro hTx (And.intro hTy hcn))))
          have e1 : ∀ q : Ext wr, q.out.cell? ⟨g, a + m, none⟩ = some (.pointer (some ⟨p x, 0, none⟩)) := fun q => q.cell HP.out.2.1
          have e2 : ∀ q : Ext wr, q.out.cell? ⟨g, a + m - 1, none⟩ = some (.pointer (some ⟨p y, 0, none⟩)) := fun q => q.cell HP.out.1
          have i1 := index75 g len cap (a + m) (by omega)
          have i2 := index75 g len cap (a + m - 1) (by omega)
          rw [show ((a + m : Nat) : Int) = (a : Int) + m by omega] at i1
          rw [show ((a + m - 1 : Nat) : Int) = (a : Int) + m - 1 by omega] at i2
          have hw := wrap_in ((a : Int) + m - 1) (by omega) (by omega)
          have hgd : decide ((a : Int) < (a : Int) + (m : Int)) = true := by simp; omega
          have f1 : Hid (∀ W, Fr0 wr W → W.frozen? ⟨g, a + m, none⟩ = false ∧ W.frozen? ⟨g, a + m - 1, none⟩ = false ∧ W.cell? ⟨g, a + m, none⟩ = some (.pointer (some ⟨p x, 0, none⟩)) ∧ W.cell? ⟨g, a + m - 1, none⟩ = some (.pointer (some ⟨p y, 0, none⟩)) ∧
              PRow W g p ((X ++ Q) ++ y :: x :: (P2 ++ A.drop (k + 1) ++ Y))) := hid (fun W hW => by
            have := hrow.fr hW (fun h => h)
            refine ⟨this.free _, this.free _, (hW.cell (p := ⟨g, a + m, none⟩) hrow.lt (fun h => h)).trans HP.out.2.1, (hW.cell (p := ⟨g, a + m - 1, none⟩) hrow.lt (fun h => h)).trans HP.out.1, this⟩)
          clear hS hpr hBl hyx hTx hTy hcn hc hrow hxN hyN hyA hQl
          have hcs : c < 0 ∨ ¬ c < 0 := by omega
          rcases hcs with hc | hc
          · have hcd : decide (c < 0) = true := by simp [hc]
            clear hc
            go_wp2
            refine wp_region_ext (by kernel_rfl) (by kernel_rfl) ?_
            repeat (refine wpQuiet_step (fun K hK => ?_); go_simp; first | (refine hK _ ?_; clear hK K) | (apply Exists.intro; refine ⟨fun _ => ?_, hK _ ?_⟩; (go_at_call 55; refine calls_ext (HS.out _)); clear hK K))
            refine wpQuiet_nil ?_
            intro _ hw'
            obtain ⟨q, hw''⟩ := hw'
            subst hw''
            have hW1 := q.fr
            generalize q.out = W1 at hW1 ⊢
            clear q e1 e2
            obtain ⟨f1, f2, c1, c2, hr1⟩ := f1.out W1 hW1
            have HSW : Hid (InsIn w ((W1.drew.setCell ⟨g, a + m, none⟩ (.pointer (some ⟨p y, 0, none⟩))).setCell ⟨g, a + m - 1, none⟩ (.pointer (some ⟨p x, 0, none⟩))) g p t X A Y Q (y :: P2) k x ∧ Q.length = m - 1) := hid (by
              have h1 := hr1.drew.pair.2.2
              have h2 := HB.out.1
              rw [h2, show a + m - 1 + 1 = a + m by omega] at h1
              refine ⟨(HJ.out.1.fr0 hW1).swap (HB.out.2.2.2.2.1 (by simpa using hcd)) (by simpa [pv] using h1) (((Fr.refl (· = g) W1).drew.setCell (p := ⟨g, a + m, none⟩) (fun _ => rfl) _).setCell (p := ⟨g, a + m - 1, none⟩) (fun _ => rfl) _), by have := HJ.out.2; simp at this; omega⟩)
            clear hr1 hW1 hw
            go_wp2
            go_region
            go_wp2
            go_roundw
            case rel => exact ⟨m - 1, by congr 1; omega, by omega, hid ⟨_, _, HSW.out⟩⟩
            case measure => simp [intOf]; omega
          · have hcd : decide (c < 0) = false := by simp; omega
            have hW : Hid (∀ W, Fr0 wr W → InsOut w W g p t X A Y ((Q ++ [y]) ++ x :: P2) (k + 1)) := hid (fun W hW => (HJ.out.1.fr0 hW).stop hP.out.2 HI.out.2.1 (fun y' hy' => by
              simp at hy'
              subst hy'
              obtain ⟨_, q1, q2, q3, q4⟩ := HB.out
              exact bf_of_not q3 q2 (fun h => hc (q4.2 h)) q1))
            clear hc
            go_wp2
            refine wp_region_ext (by kernel_rfl) (by kernel_rfl) ?_
            repeat (refine wpQuiet_step (fun K hK => ?_); go_simp; first | (refine hK _ ?_; clear hK K) | (apply Exists.intro; refine ⟨fun _ => ?_, hK _ ?_⟩; (go_at_call 55; refine calls_ext (HS.out _)); clear hK K))
            refine wpQuiet_nil ?_
            intro _ hw'
            obtain ⟨q, hw''⟩ := hw'
            subst hw''
            have hW1 := q.fr
            generalize q.out = W1 at hW1 ⊢
            clear q e1 e2 hw
            have HO := hid (hW.out W1 hW1)
            clear hW1 hW HJ
            go_wp2
            go_roundw
            case rel => exact ⟨k + 1, by go_num, by omega, by omega, hid (.inr ⟨by have := hP.out.2; omega, _, HO.out⟩)⟩
            case measure => simp [intOf]; omega
    · have HE : Hid (Fr (· = g) w wr ∧ ∃ A', A'.Perm A ∧ Srt t A' ∧ PRow wr g p (X ++ A' ++ Y)) := hid (by
        rcases hR.out with ⟨h0, rfl⟩ | ⟨h1, P, h2⟩
        · have : A = [] := List.eq_nil_of_length_eq_zero h0
          subst this
          exact ⟨Fr.refl _ _, [], List.Perm.refl _, List.Pairwise.nil, H.out⟩
        · have hk : k = A.length := by have := HL.out; omega
          refine ⟨h2.fr, P, ?_, h2.srt, ?_⟩
          · have := h2.perm
            rwa [hk, List.take_length] at this
          · have := h2.row
            rw [hk, List.drop_length] at this
            simpa using this)
      clear hR
      go_wp2
      go_end0
      exact ⟨rfl, HE.out⟩
end Go.Proofs.Ytjaabbjobnfmmaa

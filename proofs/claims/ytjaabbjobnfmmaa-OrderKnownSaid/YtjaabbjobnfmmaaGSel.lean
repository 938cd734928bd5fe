/-
  The first of some calls in the order of their ends, found by a scan. The document's urgent, walked. The document's helper, walked. The document's bad, walked.
-/
import Derived.Test.YtjaabbjobnfmmaaLineH
import Derived.Test.YtjaabbjobnfmmaaBools
import Derived.Test.YtjaabbjobnfmmaaRChk
namespace Go.Proofs.Ytjaabbjobnfmmaa
open Go.RowKit

/-- The first one of those below n, found by a scan. -/
def best (t : Nat → Int) (P : Nat → Bool) : Nat → Option Nat
  | 0 => none
  | n + 1 => if P n then match best t P n with
      | none => some n
      | some k => if ltTb (t n) (t k) then some n else some k
    else best t P n
def optI : Option Nat → Int
  | none => -1
  | some k => k

theorem ltTb_iff {a b : Int} : ltTb a b = true ↔ ltT a b := by simp only [ltTb, ltT, Bool.or_eq_true, Bool.and_eq_true, decide_eq_true_eq]

theorem best_spec {t : Nat → Int} {P : Nat → Bool} : ∀ (n : Nat), (∀ i, i < n → -1 ≤ t i) →
    match best t P n with
    | none => ∀ i, i < n → P i = false
    | some k => k < n ∧ P k = true ∧ ∀ i, i < n → P i = true → i = k ∨ Bf t k i := by
  intro n
  induction n with
  | zero => intro _; simp [best]
  | succ n ih =>
    intro ht
    have h := ih (fun i hi => ht i (by omega))
    unfold best
    cases hP : P n with
    | false =>
      rw [if_neg (by simp)]
      cases hb : best t P n with
      | none =>
        rw [hb] at h
        intro i hi
        by_cases e : i = n
        · subst e; exact hP
        · exact h i (by omega)
      | some k =>
        rw [hb] at h
        refine ⟨by omega, h.2.1, fun i hi hPi => ?_⟩
        by_cases e : i = n
        · subst e; rw [hP] at hPi; cases hPi
        · exact h.2.2 i (by omega) hPi
    | true =>
      rw [if_pos rfl]
      cases hb : best t P n with
      | none =>
        rw [hb] at h
        refine ⟨by omega, hP, fun i hi hPi => ?_⟩
        by_cases e : i = n
        · exact .inl e
        · rw [h i (by omega)] at hPi; cases hPi
      | some k =>
        rw [hb] at h
        obtain ⟨h1, h2, h3⟩ := h
        simp only
        by_cases hl : ltTb (t n) (t k) = true
        · rw [if_pos hl]
          have hl := ltTb_iff.1 hl
          refine ⟨by omega, hP, fun i hi hPi => ?_⟩
          by_cases e : i = n
          · exact .inl e
          · rcases h3 i (by omega) hPi with e' | e'
            · subst e'; exact .inr (.inl hl)
            · exact .inr (Bf.trans (.inl hl) e')
        · rw [if_neg hl]
          refine ⟨by omega, h2, fun i hi hPi => ?_⟩
          by_cases e : i = n
          · subst e
            exact .inr (bf_of_not (ht k (by omega)) (ht i (by omega)) (fun x => hl (ltTb_iff.2 x)) h1)
          · exact h3 i (by omega) hPi

theorem best_lt {t : Nat → Int} {P : Nat → Bool} {k : Nat} : ∀ (n : Nat), best t P n = some k → k < n := by
  intro n
  induction n with
  | zero => intro h; simp [best] at h
  | succ n ih =>
    intro h
    unfold best at h
    split at h
    · cases hb : best t P n with
      | none => rw [hb] at h; simp at h; omega
      | some k' =>
        rw [hb] at h
        simp only at h
        have := ih
        split at h
        · simp at h; omega
        · simp at h; subst h; have := ih hb; omega
    · have := ih h; omega

theorem best_spec' {t : Nat → Int} {P : Nat → Bool} {k : Nat} : ∀ (n : Nat), best t P n = some k → P k = true := by
  intro n
  induction n with
  | zero => intro h; simp [best] at h
  | succ n ih =>
    intro h
    unfold best at h
    split at h
    · next hP =>
      cases hb : best t P n with
      | none => rw [hb] at h; simp at h; subst h; exact hP
      | some k' =>
        rw [hb] at h
        simp only at h
        split at h
        · simp at h; subst h; exact hP
        · simp at h; subst h; exact ih hb
    · exact ih h

/-- In the sorted row it is the first one. -/
theorem best_find {t : Nat → Int} {P : Nat → Bool} {n : Nat} {σ : List Nat} (ht : ∀ i, i < n → -1 ≤ t i) (hS : Srt t σ) (hσ : ∀ i, i < n ↔ i ∈ σ) : best t P n = σ.find? P := by
  have h := best_spec (P := P) n ht
  cases hb : best t P n with
  | none =>
    rw [hb] at h
    symm
    rw [List.find?_eq_none]
    intro i hi
    rw [h i ((hσ i).2 hi)]; simp
  | some k =>
    rw [hb] at h
    obtain ⟨h1, h2, h3⟩ := h
    cases hf : σ.find? P with
    | none =>
      rw [List.find?_eq_none] at hf
      exact absurd h2 (hf k ((hσ k).1 h1))
    | some y =>
      have hy := List.find?_some hf
      have hym := List.mem_of_find?_eq_some hf
      have hyn := (hσ y).2 hym
      rcases h3 y hyn hy with e | e
      · rw [e]
      · exfalso
        have hff : ∀ {L : List Nat}, Srt t L → L.find? P = some y → ∀ x ∈ L, P x = true → x = y ∨ Bf t y x := by
          intro L
          induction L with
          | nil => intro _ h; simp at h
          | cons a L ih =>
            intro hs h x hx hq
            unfold Srt at hs
            rw [List.pairwise_cons] at hs
            cases ha : P a with
            | true =>
              rw [List.find?_cons_of_pos ha] at h
              cases h
              rcases List.mem_cons.1 hx with rfl | hx
              · exact .inl rfl
              · exact .inr (hs.1 x hx)
            | false =>
              rw [List.find?_cons_of_neg (by simp [ha])] at h
              rcases List.mem_cons.1 hx with rfl | hx
              · rw [ha] at hq; cases hq
              · exact ih hs.2 h x hx hq
        rcases hff hS hf k ((hσ k).1 h1) h2 with e' | e'
        · subst e'; exact Bf.irrefl _ e
        · exact Bf.asymm e e'
end Go.Proofs.Ytjaabbjobnfmmaa

namespace Go.Proofs.Ytjaabbjobnfmmaa
open Go.RowKit

/-- A call that is left and has ended. -/
def urgP (s : Nat → Sp) (lf : Nat → Bool) (i : Nat) : Bool := lf i && decide (0 ≤ (s i).t)
/-- A row of bools, told by a function. -/
def LRow (w : World) (g n : Nat) (lf : Nat → Bool) : Prop := BRow w g ((List.range n).map lf)
theorem LRow.fr0 {w w' : World} {g n : Nat} {lf : Nat → Bool} (h : LRow w g n lf) (hf : Fr0 w w') : LRow w' g n lf := BRow.fr0 h hf
theorem LRow.cell {w : World} {g n : Nat} {lf : Nat → Bool} (h : LRow w g n lf) (i : Nat) (hi : i < n) : w.cell? ⟨g, i, none⟩ = some (.bool (lf i)) := by
  rw [BRow.cell h i (by simpa using hi)]; simp

theorem best_no {t : Nat → Int} {P : Nat → Bool} {j : Nat} (h : P j = false) : best t P (j + 1) = best t P j := by rw [best, h]; rfl
theorem best_first {t : Nat → Int} {P : Nat → Bool} {j : Nat} (h : P j = true) (hb : best t P j = none) : best t P (j + 1) = some j := by rw [best, if_pos h, hb]
theorem best_new {t : Nat → Int} {P : Nat → Bool} {j k : Nat} (h : P j = true) (hb : best t P j = some k) (hl : ltTb (t j) (t k) = true) : best t P (j + 1) = some j := by rw [best, if_pos h, hb]; simp [hl]
theorem best_old {t : Nat → Int} {P : Nat → Bool} {j k : Nat} (h : P j = true) (hb : best t P j = some k) (hl : ltTb (t j) (t k) = false) : best t P (j + 1) = some k := by rw [best, if_pos h, hb]; simp [hl]

set_option maxRecDepth 100000 in
set_option maxHeartbeats 8000000 in
theorem urgent_any (a : Option Addr) (b off cap : Nat) (S : List Sp) (g cap2 : Nat) (lf : Nat → Bool) (w : World) (h : SpansIn w a b off S) (hg : LRow w g S.length lf) :
    Calls Try.prog 59 #[.slice a S.length cap, .slice (some ⟨g, 0, none⟩) S.length cap2] w fun e w' => e = .returned (.int .i64 (optI (best (fun i => (spOf S i).t) (urgP (spOf S) lf) S.length))) ∧ Fr0 w w' := by
  have hsm := h.small
  have H := hid (And.intro h hg)
  clear h hg
  go_enter Try.func59, Try.ntmps59
  go_wp2_with fail
  go_loopw [5, 6] (fun v i wr => ∃ j : Nat, v = .int .i64 (optI (best (fun i => (spOf S i).t) (urgP (spOf S) lf) j)) ∧ i = .int .i64 j ∧ j ≤ S.length ∧ Hid (Fr0 w wr)) (fun _ i _ => S.length - (intOf i).toNat)
  case atStart => exact ⟨0, rfl, rfl, Nat.zero_le _, hid (Fr.refl _ _)⟩
  case round =>
    obtain ⟨j, rfl, rfl, hj, hR⟩ := hrel
    by_cases hlt : j < S.length
    · have HS := hid (H.out.1.fr0 hR.out)
      have HG := hid (H.out.2.fr0 hR.out)
      have i1 := fun W => HS.out.index cap j hlt W
      have i2 := fun W => index60 g S.length cap2 j hlt W
      have c5 := (HS.out.at j hlt).2.2.2.2.2
      rw [← spOf_get hlt] at c5
      have d0 := HG.out.cell j hlt
      cases hl : lf j with
      | false =>
        rw [hl] at d0
        have HB : Hid (best (fun i => (spOf S i).t) (urgP (spOf S) lf) (j + 1) = _) := hid (best_no (by simp [urgP, hl]))
        clear hl
        generalize best (fun i => (spOf S i).t) (urgP (spOf S) lf) j = v at HB ⊢
        go_wp2
        go_quiet (fail)
        go_wp2
        go_roundw
        case rel => exact ⟨j + 1, by rw [HB.out], by go_num, by omega, hid (hR.out.drewN _)⟩
        case measure => simp [intOf]; omega
      | true =>
        rw [hl] at d0
        by_cases ht : 0 ≤ (spOf S j).t
        · have htb : decide (0 ≤ (spOf S j).t) = true := by simp [ht]
          have HP := hid (show urgP (spOf S) lf j = true by simp [urgP, hl, ht])
          have HT := hid ht
          clear hl ht
          cases hb : best (fun i => (spOf S i).t) (urgP (spOf S) lf) j with
          | none =>
            have HB := hid (best_first (t := fun i => (spOf S i).t) HP.out hb)
            clear hb HP
            simp only [optI]
            go_wp2
            go_quiet (fail)
            go_wp2
            go_roundw
            case rel => exact ⟨j + 1, by rw [HB.out], by go_num, by omega, hid (hR.out.drewN _)⟩
            case measure => simp [intOf]; omega
          | some k =>
            have hkj := best_lt _ hb
            have hkn : k < S.length := by omega
            have i3 := fun W => HS.out.index cap k hkn W
            have e5 := (HS.out.at k hkn).2.2.2.2.2
            rw [← spOf_get hkn] at e5
            have hk0 : decide ((k : Int) < 0) = false := by simp
            have hkt : 0 ≤ (spOf S k).t := by
              have hs := best_spec' (t := fun i => (spOf S i).t) _ hb
              simp only [urgP, Bool.and_eq_true, decide_eq_true_eq] at hs
              exact hs.2
            by_cases hll : (spOf S j).t < (spOf S k).t
            · have hlb : decide ((spOf S j).t < (spOf S k).t) = true := by simp [hll]
              have HB := hid (best_new (t := fun i => (spOf S i).t) HP.out hb (by simp [ltTb, HT.out, hll]))
              clear hb HP hll hkt hkj
              simp only [optI]
              go_wp2
              go_quiet (fail)
              go_wp2
              go_roundw
              case rel => exact ⟨j + 1, by rw [HB.out], by go_num, by omega, hid (hR.out.drewN _)⟩
              case measure => simp [intOf]; omega
            · have hlb : decide ((spOf S j).t < (spOf S k).t) = false := by simp [hll]
              have HB := hid (best_old (t := fun i => (spOf S i).t) HP.out hb (by simp [ltTb, hll]; omega))
              clear hb HP hll hkt hkj
              simp only [optI]
              go_wp2
              go_quiet (fail)
              go_wp2
              go_roundw
              case rel => exact ⟨j + 1, by rw [HB.out], by go_num, by omega, hid (hR.out.drewN _)⟩
              case measure => simp [intOf]; omega
        · have htb : decide (0 ≤ (spOf S j).t) = false := by simp [ht]
          have HB : Hid (best (fun i => (spOf S i).t) (urgP (spOf S) lf) (j + 1) = _) := hid (best_no (by simp [urgP, ht]))
          clear hl ht
          generalize best (fun i => (spOf S i).t) (urgP (spOf S) lf) j = v at HB ⊢
          go_wp2
          go_quiet (fail)
          go_wp2
          go_roundw
          case rel => exact ⟨j + 1, by rw [HB.out], by go_num, by omega, hid (hR.out.drewN _)⟩
          case measure => simp [intOf]; omega
    · have hjl : j = S.length := by omega
      subst hjl
      go_wp2
      go_ret
      exact ⟨rfl, hR.out⟩
end Go.Proofs.Ytjaabbjobnfmmaa

namespace Go.Proofs.Ytjaabbjobnfmmaa
open Go.RowKit

/-- A call that may help. -/
def hlpP (s : Nat → Sp) (lf : Nat → Bool) (m : Nat) (kind : Int) (i : Nat) : Bool := lf i && (decide ((s i).d.x = (s m).d.x) && (decide ((s i).d.k = kind) && decide ((s i).f ≤ (s m).t)))
/-- The first that may help. -/
def hlpI (S : List Sp) (lf : Nat → Bool) (m : Nat) (kind : Int) (j : Nat) : Option Nat := best (fun i => (spOf S i).t) (hlpP (spOf S) lf m kind) j

set_option maxRecDepth 100000 in
set_option maxHeartbeats 16000000 in
theorem helper_any (a : Option Addr) (b off cap : Nat) (S : List Sp) (g cap2 : Nat) (lf : Nat → Bool) (m : Nat) (hm : m < S.length) (kind : Int) (w : World) (h : SpansIn w a b off S) (hg : LRow w g S.length lf) :
    Calls Try.prog 60 #[.slice a S.length cap, .slice (some ⟨g, 0, none⟩) S.length cap2, .int .i64 m, .int .i64 kind] w fun e w' => e = .returned (.int .i64 (optI (hlpI S lf m kind S.length))) ∧ Fr0 w w' := by
  have hsm := h.small
  have H := hid (And.intro h hg)
  have HM := hid hm
  have hgd := guard30
  clear h hg hm
  go_enter Try.func60, Try.ntmps60
  go_wp2_with fail
  go_loopw [9, 10] (fun v i wr => ∃ j : Nat, v = .int .i64 (optI (hlpI S lf m kind j)) ∧ i = .int .i64 j ∧ j ≤ S.length ∧ Hid (Fr0 w wr)) (fun _ i _ => S.length - (intOf i).toNat)
  case atStart => exact ⟨0, rfl, rfl, Nat.zero_le _, hid (Fr.refl _ _)⟩
  case round =>
    obtain ⟨j, rfl, rfl, hj, hR⟩ := hrel
    by_cases hlt : j < S.length
    · have HS := hid (H.out.1.fr0 hR.out)
      have HG := hid (H.out.2.fr0 hR.out)
      have i1 := fun W => HS.out.index cap j hlt W
      have i2 := fun W => index60 g S.length cap2 j hlt W
      have i4 := fun W => HS.out.index cap m HM.out W
      obtain ⟨c0, c1, c2, c3, c4, c5⟩ := HS.out.at j hlt
      rw [← spOf_get hlt] at c0 c1 c2 c3 c4 c5
      obtain ⟨-, m1, m2, m3, -, m5⟩ := HS.out.at m HM.out
      rw [← spOf_get HM.out] at m1 m2 m3 m5
      have d0 := HG.out.cell j hlt
      have hne := fun W => neq30 (spOf S j).d.x (spOf S m).d.x W
      have no : Hid (hlpP (spOf S) lf m kind j = false → hlpI S lf m kind (j + 1) = hlpI S lf m kind j) := hid (fun h => best_no h)
      have yes : Hid (hlpP (spOf S) lf m kind j = true → hlpI S lf m kind j = none → hlpI S lf m kind (j + 1) = some j) := hid (fun h hb => best_first h hb)
      have new : Hid (∀ k, hlpP (spOf S) lf m kind j = true → hlpI S lf m kind j = some k → ltTb (spOf S j).t (spOf S k).t = true → hlpI S lf m kind (j + 1) = some j) := hid (fun k h hb hl => best_new (t := fun i => (spOf S i).t) h hb hl)
      have old : Hid (∀ k, hlpP (spOf S) lf m kind j = true → hlpI S lf m kind j = some k → ltTb (spOf S j).t (spOf S k).t = false → hlpI S lf m kind (j + 1) = some k) := hid (fun k h hb hl => best_old (t := fun i => (spOf S i).t) h hb hl)
      cases hl : lf j with
      | false =>
        rw [hl] at d0
        have HB := hid (no.out (by simp [hlpP, hl]))
        clear hl hne no yes new old
        generalize hlpI S lf m kind j = v at HB ⊢
        go_wp2
        go_quiet (fail)
        go_wp2
        go_roundw
        case rel => exact ⟨j + 1, by rw [HB.out], by go_num, by omega, hid (hR.out.drewN _)⟩
        case measure => simp [intOf]; omega
      | true =>
        rw [hl] at d0
        by_cases hx : (spOf S j).d.x = (spOf S m).d.x
        · rw [decide_eq_true hx] at hne
          simp only [Ob.val, Bool.not_true] at hne
          by_cases hk : (spOf S j).d.k = kind
          · have hkb : ((spOf S j).d.k != kind) = false := by simp [hk]
            by_cases hf : (spOf S j).f ≤ (spOf S m).t
            · have hfb : decide ((spOf S m).t < (spOf S j).f) = false := by simp; omega
              have HP := hid (show hlpP (spOf S) lf m kind j = true by simp [hlpP, hl, hx, hk, hf])
              clear hl hx hk hf no
              cases hb : hlpI S lf m kind j with
              | none =>
                have HB := hid (yes.out HP.out hb)
                clear hb HP yes new old
                simp only [optI]
                go_wp2
                go_quiet (fail)
                go_wp2
                go_quiet (fail)
                go_wp2
                go_roundw
                case rel => exact ⟨j + 1, by rw [HB.out], by go_num, by omega, hid (hR.out.drewN _)⟩
                case measure => simp [intOf]; omega
              | some k =>
                have hkj := best_lt _ hb
                have hkn : k < S.length := by omega
                have i3 := fun W => HS.out.index cap k hkn W
                have e5 := (HS.out.at k hkn).2.2.2.2.2
                rw [← spOf_get hkn] at e5
                have hk0 : decide ((k : Int) < 0) = false := by simp
                have new := hid (new.out k HP.out hb)
                have old := hid (old.out k HP.out hb)
                clear hb HP yes hkj
                simp only [optI]
                by_cases ht : 0 ≤ (spOf S j).t
                · have htb : decide (0 ≤ (spOf S j).t) = true := by simp [ht]
                  by_cases hkt : (spOf S k).t < 0
                  · have hktb : decide ((spOf S k).t < 0) = true := by simp [hkt]
                    have HB := hid (new.out (by simp [ltTb, ht, hkt]))
                    clear ht hkt new old
                    go_wp2
                    go_quiet (fail)
                    go_wp2
                    go_quiet (fail)
                    go_wp2
                    go_roundw
                    case rel => exact ⟨j + 1, by rw [HB.out], by go_num, by omega, hid (hR.out.drewN _)⟩
                    case measure => simp [intOf]; omega
                  · have hktb : decide ((spOf S k).t < 0) = false := by simp; omega
                    by_cases hll : (spOf S j).t < (spOf S k).t
                    · have hlb : decide ((spOf S j).t < (spOf S k).t) = true := by simp [hll]
                      have HB := hid (new.out (by simp [ltTb, ht, hll]))
                      clear ht hkt new old hll
                      go_wp2
                      go_quiet (fail)
                      go_wp2
                      go_quiet (fail)
                      go_wp2
                      go_roundw
                      case rel => exact ⟨j + 1, by rw [HB.out], by go_num, by omega, hid (hR.out.drewN _)⟩
                      case measure => simp [intOf]; omega
                    · have hlb : decide ((spOf S j).t < (spOf S k).t) = false := by simp [hll]
                      have HB := hid (old.out (by simp [ltTb, hll]; omega))
                      clear ht hkt new old hll
                      go_wp2
                      go_quiet (fail)
                      go_wp2
                      go_quiet (fail)
                      go_wp2
                      go_roundw
                      case rel => exact ⟨j + 1, by rw [HB.out], by go_num, by omega, hid (hR.out.drewN _)⟩
                      case measure => simp [intOf]; omega
                · have htb : decide (0 ≤ (spOf S j).t) = false := by simp [ht]
                  have HB := hid (old.out (by simp [ltTb, ht]))
                  clear ht new old
                  go_wp2
                  go_quiet (fail)
                  go_wp2
                  go_quiet (fail)
                  go_wp2
                  go_roundw
                  case rel => exact ⟨j + 1, by rw [HB.out], by go_num, by omega, hid (hR.out.drewN _)⟩
                  case measure => simp [intOf]; omega
            · have hfb : decide ((spOf S m).t < (spOf S j).f) = true := by simp; omega
              have HB := hid (no.out (by simp [hlpP, hf]))
              clear hl hx hk hf no yes new old
              generalize hlpI S lf m kind j = v at HB ⊢
              go_wp2
              go_quiet (fail)
              go_wp2
              go_roundw
              case rel => exact ⟨j + 1, by rw [HB.out], by go_num, by omega, hid (hR.out.drewN _)⟩
              case measure => simp [intOf]; omega
          · have hkb : ((spOf S j).d.k != kind) = true := by simp [hk]
            have HB := hid (no.out (by simp [hlpP, hk]))
            clear hl hx hk no yes new old
            generalize hlpI S lf m kind j = v at HB ⊢
            go_wp2
            go_quiet (fail)
            go_wp2
            go_roundw
            case rel => exact ⟨j + 1, by rw [HB.out], by go_num, by omega, hid (hR.out.drewN _)⟩
            case measure => simp [intOf]; omega
        · rw [decide_eq_false hx] at hne
          simp only [Ob.val, Bool.not_false] at hne
          have HB := hid (no.out (by simp [hlpP, hx]))
          clear hl hx no yes new old
          generalize hlpI S lf m kind j = v at HB ⊢
          go_wp2
          go_quiet (fail)
          go_wp2
          go_roundw
          case rel => exact ⟨j + 1, by rw [HB.out], by go_num, by omega, hid (hR.out.drewN _)⟩
          case measure => simp [intOf]; omega
    · have hjl : j = S.length := by omega
      subst hjl
      go_wp2
      go_ret
      exact ⟨rfl, hR.out⟩
end Go.Proofs.Ytjaabbjobnfmmaa

namespace Go.Proofs.Ytjaabbjobnfmmaa
open Go.RowKit

/-- A Bad call that must be done first. -/
def bdP (s : Nat → Sp) (lf : Nat → Bool) (m : Nat) (i : Nat) : Bool := lf i && (decide ((s i).d.k = 4) && (decide ((s i).d.x = (s m).d.x) && (decide (0 ≤ (s i).t) && decide ((s i).f ≤ (s m).t))))
/-- The first that must be done. -/
def bdI (S : List Sp) (lf : Nat → Bool) (m : Nat) (j : Nat) : Option Nat := best (fun i => (spOf S i).t) (bdP (spOf S) lf m) j

set_option maxRecDepth 100000 in
set_option maxHeartbeats 16000000 in
theorem refBad_any (a : Option Addr) (b off cap : Nat) (S : List Sp) (g cap2 : Nat) (lf : Nat → Bool) (m : Nat) (hm : m < S.length) (w : World) (h : SpansIn w a b off S) (hg : LRow w g S.length lf) :
    Calls Try.prog 61 #[.slice a S.length cap, .slice (some ⟨g, 0, none⟩) S.length cap2, .int .i64 m] w fun e w' => e = .returned (.int .i64 (optI (bdI S lf m S.length))) ∧ Fr0 w w' := by
  have hsm := h.small
  have H := hid (And.intro h hg)
  have HM := hid hm
  have hgd := guard30
  clear h hg hm
  go_enter Try.func61, Try.ntmps61
  go_wp2_with fail
  go_loopw [7, 8] (fun v i wr => ∃ j : Nat, v = .int .i64 (optI (bdI S lf m j)) ∧ i = .int .i64 j ∧ j ≤ S.length ∧ Hid (Fr0 w wr)) (fun _ i _ => S.length - (intOf i).toNat)
  case atStart => exact ⟨0, rfl, rfl, Nat.zero_le _, hid (Fr.refl _ _)⟩
  case round =>
    obtain ⟨j, rfl, rfl, hj, hR⟩ := hrel
    by_cases hlt : j < S.length
    · have HS := hid (H.out.1.fr0 hR.out)
      have HG := hid (H.out.2.fr0 hR.out)
      have i1 := fun W => HS.out.index cap j hlt W
      have i2 := fun W => index60 g S.length cap2 j hlt W
      have i4 := fun W => HS.out.index cap m HM.out W
      obtain ⟨c0, c1, c2, c3, c4, c5⟩ := HS.out.at j hlt
      rw [← spOf_get hlt] at c0 c1 c2 c3 c4 c5
      obtain ⟨-, m1, m2, m3, -, m5⟩ := HS.out.at m HM.out
      rw [← spOf_get HM.out] at m1 m2 m3 m5
      have d0 := HG.out.cell j hlt
      have heq := fun W => eql30 (spOf S j).d.x (spOf S m).d.x W
      have no : Hid (bdP (spOf S) lf m j = false → bdI S lf m (j + 1) = bdI S lf m j) := hid (fun h => best_no h)
      have yes : Hid (bdP (spOf S) lf m j = true → bdI S lf m j = none → bdI S lf m (j + 1) = some j) := hid (fun h hb => best_first h hb)
      have new : Hid (∀ k, bdP (spOf S) lf m j = true → bdI S lf m j = some k → ltTb (spOf S j).t (spOf S k).t = true → bdI S lf m (j + 1) = some j) := hid (fun k h hb hl => best_new (t := fun i => (spOf S i).t) h hb hl)
      have old : Hid (∀ k, bdP (spOf S) lf m j = true → bdI S lf m j = some k → ltTb (spOf S j).t (spOf S k).t = false → bdI S lf m (j + 1) = some k) := hid (fun k h hb hl => best_old (t := fun i => (spOf S i).t) h hb hl)
      cases hl : lf j with
      | false =>
        rw [hl] at d0
        have HB := hid (no.out (by simp [bdP, hl]))
        clear hl heq no yes new old
        generalize bdI S lf m j = v at HB ⊢
        go_wp2
        go_quiet (fail)
        go_wp2
        go_quiet (fail)
        go_wp2
        go_roundw
        case rel => exact ⟨j + 1, by rw [HB.out], by go_num, by omega, hid (hR.out.drewN _)⟩
        case measure => simp [intOf]; omega
      | true =>
        rw [hl] at d0
        by_cases hk : (spOf S j).d.k = 4
        · have hkb : ((spOf S j).d.k == 4) = true := by simp [hk]
          by_cases hx : (spOf S j).d.x = (spOf S m).d.x
          · rw [decide_eq_true hx] at heq
            simp only [Ob.val] at heq
            by_cases ht : 0 ≤ (spOf S j).t
            · have htb : decide (0 ≤ (spOf S j).t) = true := by simp [ht]
              by_cases hf : (spOf S j).f ≤ (spOf S m).t
              · have hfb : decide ((spOf S j).f ≤ (spOf S m).t) = true := by simp; omega
                have HP := hid (show bdP (spOf S) lf m j = true by simp [bdP, hl, hx, hk, hf, ht])
                have HT := hid ht
                clear hl hx hk hf no ht
                cases hb : bdI S lf m j with
                | none =>
                  have HB := hid (yes.out HP.out hb)
                  clear hb HP yes new old
                  simp only [optI]
                  go_wp2
                  go_quiet (fail)
                  go_wp2
                  go_quiet (fail)
                  go_wp2
                  go_roundw
                  case rel => exact ⟨j + 1, by rw [HB.out], by go_num, by omega, hid (hR.out.drewN _)⟩
                  case measure => simp [intOf]; omega
                | some k =>
                  have hkj := best_lt _ hb
                  have hkn : k < S.length := by omega
                  have i3 := fun W => HS.out.index cap k hkn W
                  have e5 := (HS.out.at k hkn).2.2.2.2.2
                  rw [← spOf_get hkn] at e5
                  have hk0 : decide ((k : Int) < 0) = false := by simp
                  have hkt : 0 ≤ (spOf S k).t := by
                    have hs := best_spec' _ hb
                    simp only [bdP, Bool.and_eq_true, decide_eq_true_eq] at hs
                    exact hs.2.2.2.1
                  have new := hid (new.out k HP.out hb)
                  have old := hid (old.out k HP.out hb)
                  clear hb HP yes hkj
                  simp only [optI]
                  by_cases hll : (spOf S j).t < (spOf S k).t
                  · have hlb : decide ((spOf S j).t < (spOf S k).t) = true := by simp [hll]
                    have HB := hid (new.out (by simp [ltTb, HT.out, hll]))
                    clear hkt new old hll
                    go_wp2
                    go_quiet (fail)
                    go_wp2
                    go_quiet (fail)
                    go_wp2
                    go_roundw
                    case rel => exact ⟨j + 1, by rw [HB.out], by go_num, by omega, hid (hR.out.drewN _)⟩
                    case measure => simp [intOf]; omega
                  · have hlb : decide ((spOf S j).t < (spOf S k).t) = false := by simp [hll]
                    have HB := hid (old.out (by simp [ltTb, hll]; omega))
                    clear hkt new old hll
                    go_wp2
                    go_quiet (fail)
                    go_wp2
                    go_quiet (fail)
                    go_wp2
                    go_roundw
                    case rel => exact ⟨j + 1, by rw [HB.out], by go_num, by omega, hid (hR.out.drewN _)⟩
                    case measure => simp [intOf]; omega
              · have hfb : decide ((spOf S j).f ≤ (spOf S m).t) = false := by simp; omega
                have HB := hid (no.out (by simp [bdP, hf]))
                clear hl hx hk ht hf no yes new old
                generalize bdI S lf m j = v at HB ⊢
                go_wp2
                go_quiet (fail)
                go_wp2
                go_quiet (fail)
                go_wp2
                go_roundw
                case rel => exact ⟨j + 1, by rw [HB.out], by go_num, by omega, hid (hR.out.drewN _)⟩
                case measure => simp [intOf]; omega
            · have htb : decide (0 ≤ (spOf S j).t) = false := by simp [ht]
              have HB := hid (no.out (by simp [bdP, ht]))
              clear hl hx hk ht no yes new old
              generalize bdI S lf m j = v at HB ⊢
              go_wp2
              go_quiet (fail)
              go_wp2
              go_quiet (fail)
              go_wp2
              go_roundw
              case rel => exact ⟨j + 1, by rw [HB.out], by go_num, by omega, hid (hR.out.drewN _)⟩
              case measure => simp [intOf]; omega
          · rw [decide_eq_false hx] at heq
            simp only [Ob.val] at heq
            have HB := hid (no.out (by simp [bdP, hx]))
            clear hl hx hk no yes new old
            generalize bdI S lf m j = v at HB ⊢
            go_wp2
            go_quiet (fail)
            go_wp2
            go_quiet (fail)
            go_wp2
            go_roundw
            case rel => exact ⟨j + 1, by rw [HB.out], by go_num, by omega, hid (hR.out.drewN _)⟩
            case measure => simp [intOf]; omega
        · have hkb : ((spOf S j).d.k == 4) = false := by simp [hk]
          have HB := hid (no.out (by simp [bdP, hk]))
          clear hl hk no yes new old
          generalize bdI S lf m j = v at HB ⊢
          go_wp2
          go_quiet (fail)
          go_wp2
          go_quiet (fail)
          go_wp2
          go_roundw
          case rel => exact ⟨j + 1, by rw [HB.out], by go_num, by omega, hid (hR.out.drewN _)⟩
          case measure => simp [intOf]; omega
    · have hjl : j = S.length := by omega
      subst hjl
      go_wp2
      go_ret
      exact ⟨rfl, hR.out⟩
end Go.Proofs.Ytjaabbjobnfmmaa

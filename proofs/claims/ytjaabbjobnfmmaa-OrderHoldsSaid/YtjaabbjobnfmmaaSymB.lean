/-
  slices.symMergeCmpFunc, where the second row is one call.
-/
import Derived.Test.YtjaabbjobnfmmaaSymA
namespace Go.Proofs.Ytjaabbjobnfmmaa
open Go.RowKit

/-- The result where B is one call. -/
theorem sym_last {t : Nat → Int} {N : Nat} (ht : ∀ i, i < N → -1 ≤ t i) {y : Nat} {A : List Nat} (h : SymPre t N A [y]) {u : Nat} (h1 : ∀ i (hi : i < A.length), i < u → ¬ ltT (t y) (t A[i])) (h2 : ∀ i (hi : i < A.length), u ≤ i → ltT (t y) (t A[i])) :
    (A.take u ++ y :: A.drop u).Perm (A ++ [y]) ∧ Srt t (A.take u ++ y :: A.drop u) := by
  constructor
  · have h3 := List.perm_middle (a := y) (l₁ := A.take u) (l₂ := A.drop u)
    rw [List.take_append_drop] at h3
    exact h3.trans (List.perm_append_singleton y A).symm
  · have ha := h.a
    rw [← List.take_append_drop u A] at ha
    refine srt_insert ha (fun v hv => ?_) (fun v hv => ?_)
    · obtain ⟨i, hi, rfl⟩ := List.getElem_of_mem hv
      simp at hi
      rw [List.getElem_drop]
      exact h2 _ _ (by omega)
    · have hm : v ∈ A.take u := List.mem_of_getLast? hv
      obtain ⟨i, hi, rfl⟩ := List.getElem_of_mem hm
      simp at hi
      rw [List.getElem_take]
      exact bf_of_not (ht _ (h.an _ (List.getElem_mem _))) (ht _ (h.bn y (by simp))) (h1 _ _ (by omega)) (h.ab _ (List.getElem_mem _) y (by simp))

set_option maxRecDepth 100000 in
set_option maxHeartbeats 8000000 in
theorem symB_any (g cap : Nat) (p : Nat → Nat) (t : Nat → Int) (N : Nat) (ht : ∀ i, i < N → -1 ≤ t i) (X A Y : List Nat) (y : Nat) (hA : 1 < A.length) (hP : SymPre t N A [y]) (a m b len : Nat) (ha : a = X.length) (hm : m = a + A.length) (hb : b = m + 1)
    (hlen : len = b + Y.length) (hcap : len ≤ 4398046511104) (w : World) (h : PRow w g p (X ++ A ++ [y] ++ Y)) (hT : Tos w g p t N) :
    Calls Try.prog 80 #[.slice (some ⟨g, 0, none⟩) len cap, .int .i64 a, .int .i64 m, .int .i64 b, .func (.func 55) #[] #[]] w fun e w' => e = .returned (.tuple #[]) ∧ Fr (· = g) w w' ∧ ∃ C, C.Perm (A ++ [y]) ∧ Srt t C ∧ PRow w' g p (X ++ C ++ Y) := by
  have H := hid (And.intro h hT)
  have HP := hid (And.intro hP hA)
  have HL := hid (And.intro ha (And.intro hm (And.intro hb hlen)))
  have hma : ((m : Int) - (a : Int) == 1) = false := by simp; omega
  have hbm : ((b : Int) - (m : Int) == 1) = true := by simp; omega
  have hma' : a + 1 < m := by omega
  have hmb : m < b := by omega
  have hbl : b ≤ len := by omega
  clear h hT hP hA ha hm hb hlen
  go_enter Try.func80, Try.ntmps80
  go_wp2_with fail
  clear hma hbm
  go_loopw [14, 15] (fun i j wr => ∃ u v : Nat, i = .int .i64 ((a : Int) + u) ∧ j = .int .i64 ((a : Int) + v) ∧ u ≤ v ∧ a + v ≤ m ∧
      Hid ((∀ i (hi : i < A.length), i < u → ¬ ltT (t y) (t A[i])) ∧ (∀ i (hi : i < A.length), v ≤ i → ltT (t y) (t A[i])) ∧ Fr0 w wr)) (fun i j _ => (intOf j).toNat - (intOf i).toNat)
  case atStart => exact ⟨0, m - a, vi (by omega), vi (by omega), by omega, by omega, hid ⟨by omega, by have := HL.out; omega, Fr.refl _ _⟩⟩
  case round =>
    obtain ⟨u, v, rfl, rfl, huv, hv, hR⟩ := hrel
    rcases Nat.lt_or_ge u v with hlt | hge
    · have hltI : (a : Int) + (u : Int) < (a : Int) + (v : Int) := by omega
      have hh : (u + v) / 2 < A.length := by have := HL.out; omega
      have hrow := (H.out.1.fr hR.out.2.2 (fun h => h))
      have hpm : wr.cell? ⟨g, m, none⟩ = some (pv p y) := by
        have h1 : PRow wr g p ((X ++ A) ++ ([y] ++ Y)) := by simpa using hrow
        have h2 := h1.cellR 0 (by simp)
        have h3 : (X ++ A).length = m := by have := HL.out; simp; omega
        rw [h3] at h2
        simpa using h2
      have hph : wr.cell? ⟨g, a + (u + v) / 2, none⟩ = some (pv p A[(u + v) / 2]) := by
        have h1 : PRow wr g p (X ++ (A ++ ([y] ++ Y))) := by simpa using hrow
        have h2 := h1.cellR ((u + v) / 2) (by simp; omega)
        rw [← HL.out.1, List.getElem_append_left hh] at h2
        exact h2
      have eh : ((a : Int) + u + ((a : Int) + v)) / 2 = ((a + (u + v) / 2 : Nat) : Int) := by omega
      have i1 := index75 g len cap (a + (u + v) / 2) (by have := HL.out; omega)
      rw [← eh] at i1
      have i2 := index75 g len cap m (by omega)
      have hxN := HP.out.1.an _ (List.getElem_mem hh)
      have hyN := HP.out.1.bn y (by simp)
      have hS := fun (q : Ext wr) => sooner_any ((H.out.2.fr0 hR.out.2.2).fr0 q.fr) y A[(u + v) / 2] hyN hxN
      obtain ⟨c, hc⟩ : ∃ c, c = snr (t y) (t A[(u + v) / 2]) := ⟨_, rfl⟩
      rw [← hc] at hS
      have hcn : c < 0 ↔ ltT (t y) (t A[(u + v) / 2]) := by rw [hc]; exact snr_neg (ht _ hyN) (ht _ hxN)
      simp only [pv] at hS hpm hph
      have HC := hid (And.intro hcn (And.intro hh eh))
      have HS := hid hS
      have e1 : ∀ q : Ext wr, q.out.cell? ⟨g, a + (u + v) / 2, none⟩ = some (.pointer (some ⟨p A[(u + v) / 2], 0, none⟩)) := fun q => q.cell hph
      have e2 : ∀ q : Ext wr, q.out.cell? ⟨g, m, none⟩ = some (.pointer (some ⟨p y, 0, none⟩)) := fun q => q.cell hpm
      clear hS hpm hph hcn hc hyN hxN hrow eh
      have hcs : c < 0 ∨ ¬ c < 0 := by omega
      rcases hcs with hc | hc
      · have hcd : decide (c < 0) = true := by simp [hc]
        have HU := hid (HC.out.1.1 hc)
        clear hc
        go_wp2_with fail
        refine wp_region_ext (by kernel_rfl) (by kernel_rfl) ?_
        repeat (refine wpQuiet_step (fun K hK => ?_); go_simp; first | (refine hK _ ?_; clear hK K) | (apply Exists.intro; refine ⟨fun _ => ?_, hK _ ?_⟩; (go_at_call 55; refine calls_ext (HS.out _)); clear hK K))
        refine wpQuiet_nil ?_
        intro _ hw'
        obtain ⟨q, hw''⟩ := hw'
        subst hw''
        have hW1 := q.fr
        generalize q.out = W1 at hW1 ⊢
        clear q e1 e2 i1 i2
        have HE : Hid ((∀ i (hi : i < A.length), i < u → ¬ ltT (t y) (t A[i])) ∧ (∀ i (hi : i < A.length), (u + v) / 2 ≤ i → ltT (t y) (t A[i])) ∧ Fr0 w W1) := hid ⟨hR.out.1, fun i hi hiu => HP.out.1.a.ge hi hiu _ HU.out, hR.out.2.2.trans0 hW1⟩
        clear hW1 hR HU
        go_wp2
        go_roundw
        case rel => exact ⟨u, (u + v) / 2, rfl, vi (by have := HC.out.2.2; omega), by omega, by omega, HE⟩
        case measure => have := HC.out.2.2; simp [intOf]; omega
      · have hcd : decide (c < 0) = false := by simp; omega
        have HU := hid (fun h => hc (HC.out.1.2 h))
        clear hc
        go_wp2_with fail
        refine wp_region_ext (by kernel_rfl) (by kernel_rfl) ?_
        repeat (refine wpQuiet_step (fun K hK => ?_); go_simp; first | (refine hK _ ?_; clear hK K) | (apply Exists.intro; refine ⟨fun _ => ?_, hK _ ?_⟩; (go_at_call 55; refine calls_ext (HS.out _)); clear hK K))
        refine wpQuiet_nil ?_
        intro _ hw'
        obtain ⟨q, hw''⟩ := hw'
        subst hw''
        have hW1 := q.fr
        generalize q.out = W1 at hW1 ⊢
        clear q e1 e2 i1 i2
        have HE : Hid ((∀ i (hi : i < A.length), i < (u + v) / 2 + 1 → ¬ ltT (t y) (t A[i])) ∧ (∀ i (hi : i < A.length), v ≤ i → ltT (t y) (t A[i])) ∧ Fr0 w W1) := hid ⟨fun i hi hiu hh => HU.out (HP.out.1.a.ge HC.out.2.1 (by omega) _ hh), hR.out.2.1, hR.out.2.2.trans0 hW1⟩
        clear hW1 hR HU
        go_wp2
        go_roundw
        case rel => exact ⟨(u + v) / 2 + 1, v, vi (by have := HC.out.2.2; omega), rfl, by omega, by omega, HE⟩
        case measure => have := HC.out.2.2; simp [intOf]; omega
    · obtain rfl : u = v := by omega
      have HU := hid (And.intro hR.out.1 hR.out.2.1)
      have HF := hid hR.out.2.2
      have hub : a + u ≤ m := hv
      clear hR
      go_wp2_with fail
      go_loopw [17] (fun k wr => ∃ r : Nat, k = .int .i64 ((a : Int) + r) ∧ u ≤ r ∧ a + r ≤ m ∧ Hid (PRow wr g p (X ++ A.take r ++ y :: A.drop r ++ Y) ∧ Fr (· = g) w wr)) (fun k _ => (intOf k).toNat)
      case atStart => exact ⟨m - a, vi (by omega), by omega, by omega, hid ⟨by
        have h1 := H.out.1.fr HF.out (fun h => h)
        have h2 : m - a = A.length := by have := HL.out; omega
        rw [h2, List.take_length, List.drop_length]
        simpa using h1, HF.out.mono (fun _ _ h => h.elim)⟩⟩
      case round =>
        obtain ⟨r, rfl, hr, hrm, hR⟩ := hrel
        rcases Nat.lt_or_ge u r with hlt2 | hge2
        · have hltI : (a : Int) + (u : Int) < (a : Int) + (r : Int) := by omega
          have hrA : r - 1 < A.length := by have := HL.out; omega
          have hrr : r - 1 + 1 = r := by omega
          have hrow : PRow wr g p ((X ++ A.take (r - 1)) ++ A[r - 1] :: y :: (A.drop r ++ Y)) := by
            have h1 := hR.out.1
            have h2 := take_snoc' A (r - 1) hrA
            rw [hrr] at h2
            rw [h2] at h1
            simpa only [List.append_assoc, List.cons_append, List.nil_append] using h1
          have hbl2 : (X ++ A.take (r - 1)).length = a + r - 1 := by have := HL.out; simp; omega
          obtain ⟨c1, c2, _⟩ := hrow.pair
          have hs := hrow.drew.pair.2.2
          rw [hbl2, show a + r - 1 + 1 = a + r by omega] at c2 hs
          rw [hbl2] at c1
          have f1 := hrow.free (a + r)
          have f2 := hrow.free (a + r - 1)
          have i1 := index75 g len cap (a + r) (by have := HL.out; omega)
          have i2 := index75 g len cap (a + r - 1) (by have := HL.out; omega)
          rw [show ((a + r : Nat) : Int) = (a : Int) + r by omega] at i1
          rw [show ((a + r - 1 : Nat) : Int) = (a : Int) + r - 1 by omega] at i2
          simp only [pv] at c1 c2 hs
          have HS : Hid (PRow ((wr.drew.setCell ⟨g, a + r, none⟩ (.pointer (some ⟨p A[r - 1], 0, none⟩))).setCell ⟨g, a + r - 1, none⟩ (.pointer (some ⟨p y, 0, none⟩))) g p (X ++ A.take (r - 1) ++ y :: A.drop (r - 1) ++ Y) ∧ Fr (· = g) w ((wr.drew.setCell ⟨g, a + r, none⟩ (.pointer (some ⟨p A[r - 1], 0, none⟩))).setCell ⟨g, a + r - 1, none⟩ (.pointer (some ⟨p y, 0, none⟩)))) := hid ⟨by
              have h2 := List.drop_eq_getElem_cons hrA
              rw [hrr] at h2
              rw [h2]
              simpa only [List.append_assoc, List.cons_append, List.nil_append] using hs, ((hR.out.2.drew).setCell (p := ⟨g, a + r, none⟩) (fun _ => rfl) _).setCell (p := ⟨g, a + r - 1, none⟩) (fun _ => rfl) _⟩
          have hr0 : 0 < r := by omega
          clear hrow hbl2 hs hR hrr
          generalize p A[r - 1] = q1 at c1 HS
          go_wp2_with fail
          go_region
          go_wp2
          go_roundw
          case rel => exact ⟨r - 1, vi (by omega), by omega, by omega, HS⟩
          case measure => simp [intOf]; omega
        · obtain rfl : r = u := by omega
          have hE := sym_last ht HP.out.1 HU.out.1 HU.out.2
          have HE := hid (And.intro hE.1 hE.2)
          clear hE
          go_wp2
          refine bodyPost_ret (results_none rfl _ _ _) rfl ?_
          exact ⟨rfl, hR.out.2, _, HE.out.1, HE.out.2, by have := hR.out.1; simpa using this⟩
end Go.Proofs.Ytjaabbjobnfmmaa

/-
  slices.symMergeCmpFunc, where the first row is one call.
-/
import Derived.Test.YtjaabbjobnfmmaaInsB
namespace Go.Proofs.Ytjaabbjobnfmmaa
open Go.RowKit

theorem PRow.cellR {w : World} {g : Nat} {p : Nat → Nat} {P Q : List Nat} (h : PRow w g p (P ++ Q)) (i : Nat) (hi : i < Q.length) : w.cell? ⟨g, P.length + i, none⟩ = some (pv p Q[i]) := by
  rw [h.cell (P.length + i) (by simp; omega)]
  simp

theorem Srt.le {t : Nat → Int} {L : List Nat} (h : Srt t L) {i j : Nat} (hj : j < L.length) (hij : i ≤ j) (y : Int) (hy : ltT (t L[j]) y) : ltT (t (L[i]'(by omega))) y := by
  rcases Nat.lt_or_ge i j with h1 | h1
  · rcases (List.pairwise_iff_getElem.1 h) i j (by omega) hj h1 with h2 | ⟨h2, _⟩
    · exact ltT_trans h2 hy
    · rw [h2]; exact hy
  · have : i = j := by omega
    subst this; exact hy
theorem Srt.ge {t : Nat → Int} {L : List Nat} (h : Srt t L) {i j : Nat} (hj : j < L.length) (hij : i ≤ j) (y : Int) (hy : ltT y (t (L[i]'(by omega)))) : ltT y (t L[j]) := by
  rcases Nat.lt_or_ge i j with h1 | h1
  · rcases (List.pairwise_iff_getElem.1 h) i j (by omega) hj h1 with h2 | ⟨h2, _⟩
    · exact ltT_trans hy h2
    · rw [← h2]; exact hy
  · have : i = j := by omega
    subst this; exact hy

/-- Two neighbours exchanged, the lower place written first. -/
theorem PRow.pair2 {w : World} {g : Nat} {p : Nat → Nat} {B R : List Nat} {x y : Nat} (h : PRow w g p (B ++ x :: y :: R)) :
    w.cell? ⟨g, B.length, none⟩ = some (pv p x) ∧ w.cell? ⟨g, B.length + 1, none⟩ = some (pv p y) ∧ PRow ((w.setCell ⟨g, B.length, none⟩ (pv p y)).setCell ⟨g, B.length + 1, none⟩ (pv p x)) g p (B ++ y :: x :: R) := by
  obtain ⟨h1, h2, _⟩ := h.pair
  refine ⟨h1, h2, ?_⟩
  have h3 := (h.set B.length y).set (B.length + 1) x
  have e3 : ((B ++ x :: y :: R).set B.length y).set (B.length + 1) x = B ++ y :: x :: R := by
    rw [List.set_append_right _ _ (by omega), List.set_append_right _ _ (by omega)]
    simp
  rw [e3] at h3
  exact h3

theorem vi {a b : Int} (h : a = b) : Value.int .i64 a = .int .i64 b := by rw [h]

/-- What is asked of the rows that symMerge merges. -/
structure SymPre (t : Nat → Int) (N : Nat) (A B : List Nat) : Prop where
  a : Srt t A
  b : Srt t B
  ab : ∀ x ∈ A, ∀ y ∈ B, x < y
  an : ∀ x ∈ A, x < N
  bn : ∀ y ∈ B, y < N

/-- The result where A is one call. -/
theorem sym_one {t : Nat → Int} {N : Nat} (ht : ∀ i, i < N → -1 ≤ t i) {x : Nat} {B : List Nat} (h : SymPre t N [x] B) {u : Nat} (h1 : ∀ i (hi : i < B.length), i < u → ltT (t B[i]) (t x)) (h2 : ∀ i (hi : i < B.length), u ≤ i → ¬ ltT (t B[i]) (t x)) :
    (B.take u ++ x :: B.drop u).Perm ([x] ++ B) ∧ Srt t (B.take u ++ x :: B.drop u) := by
  constructor
  · have := List.perm_middle (a := x) (l₁ := B.take u) (l₂ := B.drop u)
    rw [List.take_append_drop] at this
    exact this
  · have hb := h.b
    unfold Srt at *
    rw [← List.take_append_drop u B, List.pairwise_append] at hb
    rw [List.pairwise_append]
    have hxy : ∀ y ∈ B.drop u, Bf t x y := by
      intro y hy
      obtain ⟨i, hi, rfl⟩ := List.getElem_of_mem hy
      simp at hi
      rw [List.getElem_drop]
      exact bf_of_not (ht _ (h.an x (by simp))) (ht _ (h.bn _ (List.getElem_mem _))) (h2 _ _ (by omega)) (h.ab x (by simp) _ (List.getElem_mem _))
    refine ⟨hb.1, List.pairwise_cons.2 ⟨hxy, hb.2.1⟩, fun a ha b hb' => ?_⟩
    rcases List.mem_cons.1 hb' with rfl | hb'
    · obtain ⟨i, hi, rfl⟩ := List.getElem_of_mem ha
      simp at hi
      rw [List.getElem_take]
      exact .inl (h1 _ _ (by omega))
    · exact hb.2.2 a ha b hb'

set_option maxRecDepth 100000 in
set_option maxHeartbeats 8000000 in
theorem symA_any (g cap : Nat) (p : Nat → Nat) (t : Nat → Int) (N : Nat) (ht : ∀ i, i < N → -1 ≤ t i) (X B Y : List Nat) (x : Nat) (hB : 0 < B.length) (hP : SymPre t N [x] B) (a m b len : Nat) (ha : a = X.length) (hm : m = a + 1) (hb : b = m + B.length)
    (hlen : len = b + Y.length) (hcap : len ≤ 4398046511104) (w : World) (h : PRow w g p (X ++ [x] ++ B ++ Y)) (hT : Tos w g p t N) :
    Calls Try.prog 80 #[.slice (some ⟨g, 0, none⟩) len cap, .int .i64 a, .int .i64 m, .int .i64 b, .func (.func 55) #[] #[]] w fun e w' => e = .returned (.tuple #[]) ∧ Fr (· = g) w w' ∧ ∃ C, C.Perm ([x] ++ B) ∧ Srt t C ∧ PRow w' g p (X ++ C ++ Y) := by
  have H := hid (And.intro h hT)
  have HP := hid (And.intro hP hB)
  have HL := hid (And.intro ha (And.intro hm (And.intro hb hlen)))
  have hma : (m : Int) - (a : Int) = 1 := by omega
  have hma' : a + 1 ≤ m := by omega
  have hmb : m < b := by omega
  have hbl : b ≤ len := by omega
  clear h hT hP hB ha hm hb hlen
  go_enter Try.func80, Try.ntmps80
  go_wp2_with fail
  clear hma
  go_loopw [10, 11] (fun i j wr => ∃ u v : Nat, i = .int .i64 ((m : Int) + u) ∧ j = .int .i64 ((m : Int) + v) ∧ u ≤ v ∧ m + v ≤ b ∧
      Hid ((∀ i (hi : i < B.length), i < u → ltT (t B[i]) (t x)) ∧ (∀ i (hi : i < B.length), v ≤ i → ¬ ltT (t B[i]) (t x)) ∧ Fr0 w wr)) (fun i j _ => (intOf j).toNat - (intOf i).toNat)
  case atStart => exact ⟨0, b - m, vi (by omega), vi (by omega), by omega, by omega, hid ⟨by omega, by have := HL.out; omega, Fr.refl _ _⟩⟩
  case round =>
    obtain ⟨u, v, rfl, rfl, huv, hv, hR⟩ := hrel
    rcases Nat.lt_or_ge u v with hlt | hge
    · have hltI : (m : Int) + (u : Int) < (m : Int) + (v : Int) := by omega
      have hh : (u + v) / 2 < B.length := by have := HL.out; omega
      have hrow := (H.out.1.fr hR.out.2.2 (fun h => h))
      have hpa : wr.cell? ⟨g, a, none⟩ = some (pv p x) := by
        have h1 : PRow wr g p (X ++ ([x] ++ B ++ Y)) := by simpa using hrow
        have h2 := h1.cellR 0 (by simp)
        rw [← HL.out.1] at h2
        simpa using h2
      have hph : wr.cell? ⟨g, m + (u + v) / 2, none⟩ = some (pv p B[(u + v) / 2]) := by
        have h1 : PRow wr g p ((X ++ [x]) ++ (B ++ Y)) := by simpa using hrow
        have h2 := h1.cellR ((u + v) / 2) (by simp; omega)
        have h3 : (X ++ [x]).length = m := by have := HL.out; simp; omega
        rw [h3, List.getElem_append_left hh] at h2
        exact h2
      have eh : ((m : Int) + u + ((m : Int) + v)) / 2 = ((m + (u + v) / 2 : Nat) : Int) := by omega
      have i1 := index75 g len cap (m + (u + v) / 2) (by have := HL.out; omega)
      rw [← eh] at i1
      have i2 := index75 g len cap a (by omega)
      have hyN := HP.out.1.bn _ (List.getElem_mem hh)
      have hxN := HP.out.1.an x (by simp)
      have hS := fun (q : Ext wr) => sooner_any ((H.out.2.fr0 hR.out.2.2).fr0 q.fr) B[(u + v) / 2] x hyN hxN
      obtain ⟨c, hc⟩ : ∃ c, c = snr (t B[(u + v) / 2]) (t x) := ⟨_, rfl⟩
      rw [← hc] at hS
      have hcn : c < 0 ↔ ltT (t B[(u + v) / 2]) (t x) := by rw [hc]; exact snr_neg (ht _ hyN) (ht _ hxN)
      simp only [pv] at hS hpa hph
      have HC := hid (And.intro hcn (And.intro hh eh))
      have HS := hid hS
      have e1 : ∀ q : Ext wr, q.out.cell? ⟨g, m + (u + v) / 2, none⟩ = some (.pointer (some ⟨p B[(u + v) / 2], 0, none⟩)) := fun q => q.cell hph
      have e2 : ∀ q : Ext wr, q.out.cell? ⟨g, a, none⟩ = some (.pointer (some ⟨p x, 0, none⟩)) := fun q => q.cell hpa
      clear hS hpa hph hcn hc hyN hxN hrow eh
      have hcs : c < 0 ∨ ¬ c < 0 := by omega
      rcases hcs with hc | hc
      · have hcd : decide (c < 0) = true := by simp [hc]
        have HU := hid (HC.out.1.1 hc)
        clear hc
        go_wp2_with fail
        refine wp_region_ext (by kernel_rfl) (by kernel_rfl) ?_
        repeat (refine wpQuiet_step (fun K hK => ?_); go_simp; first | (refine hK _ ?_; clear hK K) | (apply Exists.intro; refine ⟨fun _ => ?_, hK _ ?_⟩; (go_at_call 55; refine calls_ext (HS.out _)); clear hK K))
        refine wpQuiet_nil ?_
        intro _ hw'
        obtain ⟨q, hw''⟩ := hw'
        subst hw''
        have hW1 := q.fr
        generalize q.out = W1 at hW1 ⊢
        clear q e1 e2 i1 i2
        have HE : Hid ((∀ i (hi : i < B.length), i < (u + v) / 2 + 1 → ltT (t B[i]) (t x)) ∧ (∀ i (hi : i < B.length), v ≤ i → ¬ ltT (t B[i]) (t x)) ∧ Fr0 w W1) := hid ⟨fun i hi hiu => HP.out.1.b.le HC.out.2.1 (by omega) _ HU.out, hR.out.2.1, hR.out.2.2.trans0 hW1⟩
        clear hW1 hR HU
        go_wp2
        go_roundw
        case rel => exact ⟨(u + v) / 2 + 1, v, vi (by have := HC.out.2.2; omega), rfl, by omega, by omega, HE⟩
        case measure => have := HC.out.2.2; simp [intOf]; omega
      · have hcd : decide (c < 0) = false := by simp; omega
        have HU := hid (fun h => hc (HC.out.1.2 h))
        clear hc
        go_wp2_with fail
        refine wp_region_ext (by kernel_rfl) (by kernel_rfl) ?_
        repeat (refine wpQuiet_step (fun K hK => ?_); go_simp; first | (refine hK _ ?_; clear hK K) | (apply Exists.intro; refine ⟨fun _ => ?_, hK _ ?_⟩; (go_at_call 55; refine calls_ext (HS.out _)); clear hK K))
        refine wpQuiet_nil ?_
        intro _ hw'
        obtain ⟨q, hw''⟩ := hw'
        subst hw''
        have hW1 := q.fr
        generalize q.out = W1 at hW1 ⊢
        clear q e1 e2 i1 i2
        have HE : Hid ((∀ i (hi : i < B.length), i < u → ltT (t B[i]) (t x)) ∧ (∀ i (hi : i < B.length), (u + v) / 2 ≤ i → ¬ ltT (t B[i]) (t x)) ∧ Fr0 w W1) := hid ⟨hR.out.1, fun i hi hiu hh => HU.out (HP.out.1.b.le hi hiu _ hh), hR.out.2.2.trans0 hW1⟩
        clear hW1 hR HU
        go_wp2
        go_roundw
        case rel => exact ⟨u, (u + v) / 2, rfl, vi (by have := HC.out.2.2; omega), by omega, by omega, HE⟩
        case measure => have := HC.out.2.2; simp [intOf]; omega
    · obtain rfl : u = v := by omega
      have HU := hid (And.intro hR.out.1 hR.out.2.1)
      have HF := hid hR.out.2.2
      have hub : m + u ≤ b := hv
      clear hR
      go_wp2_with fail
      go_loopw [13] (fun k wr => ∃ r : Nat, k = .int .i64 ((a : Int) + r) ∧ r ≤ u ∧ Hid (PRow wr g p (X ++ B.take r ++ x :: B.drop r ++ Y) ∧ Fr (· = g) w wr)) (fun k _ => a + u - (intOf k).toNat)
      case atStart => exact ⟨0, vi (by omega), by omega, hid ⟨by have := H.out.1.fr HF.out (fun h => h); simpa using this, HF.out.mono (fun _ _ h => h.elim)⟩⟩
      case round =>
        obtain ⟨r, rfl, hr, hR⟩ := hrel
        rcases Nat.lt_or_ge r u with hlt2 | hge2
        · have hltI : (a : Int) + (r : Int) < (m : Int) + (u : Int) - 1 := by have := HL.out; omega
          have hrB : r < B.length := by have := HL.out; omega
          have hrow : PRow wr g p ((X ++ B.take r) ++ x :: B[r] :: (B.drop (r + 1) ++ Y)) := by
            have h1 := hR.out.1
            rw [List.drop_eq_getElem_cons hrB] at h1
            simpa only [List.append_assoc, List.cons_append] using h1
          have hbl2 : (X ++ B.take r).length = a + r := by have := HL.out; simp; omega
          obtain ⟨c1, c2, _⟩ := hrow.pair2
          have hs := hrow.drew.pair2.2.2
          rw [hbl2] at c1 c2 hs
          have f1 := hrow.free (a + r)
          have f2 := hrow.free (a + r + 1)
          have i1 := index75 g len cap (a + r) (by have := HL.out; omega)
          have i2 := index75 g len cap (a + r + 1) (by have := HL.out; omega)
          rw [show ((a + r : Nat) : Int) = (a : Int) + r by omega] at i1
          rw [show ((a + r + 1 : Nat) : Int) = (a : Int) + r + 1 by omega] at i2
          simp only [pv] at c1 c2 hs
          have HS : Hid (PRow ((wr.drew.setCell ⟨g, a + r, none⟩ (.pointer (some ⟨p B[r], 0, none⟩))).setCell ⟨g, a + r + 1, none⟩ (.pointer (some ⟨p x, 0, none⟩))) g p (X ++ B.take (r + 1) ++ x :: B.drop (r + 1) ++ Y) ∧ Fr (· = g) w ((wr.drew.setCell ⟨g, a + r, none⟩ (.pointer (some ⟨p B[r], 0, none⟩))).setCell ⟨g, a + r + 1, none⟩ (.pointer (some ⟨p x, 0, none⟩)))) := hid ⟨by
              rw [take_snoc' B r hrB]
              simpa only [List.append_assoc, List.cons_append, List.nil_append] using hs, ((hR.out.2.drew).setCell (p := ⟨g, a + r, none⟩) (fun _ => rfl) _).setCell (p := ⟨g, a + r + 1, none⟩) (fun _ => rfl) _⟩
          clear hrow hbl2 hs hR
          generalize p B[r] = q1 at c2 HS
          go_wp2_with fail
          go_region
          go_wp2
          go_roundw
          case rel => exact ⟨r + 1, vi (by omega), by omega, HS⟩
          case measure => simp [intOf]; omega
        · obtain rfl : r = u := by omega
          have hE := sym_one ht HP.out.1 HU.out.1 HU.out.2
          have HE := hid (And.intro hE.1 hE.2)
          clear hE
          have hnI : ¬ (a : Int) + (r : Int) < (m : Int) + (r : Int) - 1 := by have := HL.out; omega
          go_wp2
          refine bodyPost_ret (results_none rfl _ _ _) rfl ?_
          exact ⟨rfl, hR.out.2, _, HE.out.1, HE.out.2, by have := hR.out.1; simpa using this⟩
end Go.Proofs.Ytjaabbjobnfmmaa

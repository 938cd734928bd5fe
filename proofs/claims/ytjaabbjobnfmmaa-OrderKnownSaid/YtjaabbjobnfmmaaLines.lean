/-
  The law's lines: is that what Line answers?
-/
import Derived.Test.YtjaabbjobnfmmaaHoldsW
import Derived.Handy
namespace Go.Proofs.Ytjaabbjobnfmmaa
open Go.RowKit

section
variable {s : Nat → Sp} {σ : List Nat} {n : Nat}
theorem lrun_good (hσ : ∀ i ∈ σ, i < n) (hd : σ.Nodup) {c : Nat} (hc : c < n) : ∀ f out T o T', Good n out → lrun s σ c f out T = some (o, T') → Good n o := by
  intro f
  induction f with
  | zero => intro out T o T' _ h; cases h
  | succ f ih =>
    intro out T o T' hg h
    rw [lrun] at h
    split at h
    · cases h; exact hg
    · next hco =>
      split at h
      · cases h
      · next x hx =>
        have := lwho_mem hσ hc hco hx
        exact ih _ _ _ _ (hg.lout hσ hd c this.1 this.2) h
theorem lall_good (hσ : ∀ i ∈ σ, i < n) (hd : σ.Nodup) (N : Nat) : ∀ (l : List Nat) out T o T', (∀ c ∈ l, c < n) → Good n out → lall s σ N l out T = some (o, T') → Good n o := by
  intro l
  induction l with
  | nil => intro out T o T' _ hg h; cases h; exact hg
  | cons c l ih =>
    intro out T o T' hl hg h
    rw [lall] at h
    split at h
    · cases h; exact hg
    · split at h
      · cases h
      · next out' T1 hr =>
        exact ih _ _ _ _ (fun d hd' => hl d (List.mem_cons_of_mem _ hd')) (lrun_good hσ hd (hl c (List.mem_cons_self)) _ _ _ _ _ hg hr) h
end
theorem sigma_lt {S : List Sp} : ∀ i ∈ sigma S, i < S.length := fun _ hi => List.mem_range.1 ((sortL_perm _ _).mem_iff.1 hi)
theorem sigma_nodup {S : List Sp} : (sigma S).Nodup := (sortL_perm _ _).nodup_iff.2 List.nodup_range
theorem lineM_good {S : List Sp} {o : List Nat} (h : lineM S = some o) : Good S.length o := by
  unfold lineM at h
  cases hl : lall (spOf S) (sigma S) (S.length + 1) (sigma S) [] [] with
  | none => rw [hl] at h; cases h
  | some r =>
    rw [hl] at h
    cases h
    exact lall_good sigma_lt sigma_nodup _ _ _ _ _ r.2 sigma_lt ⟨List.nodup_nil, by simp⟩ hl
theorem lineR_len (S : List Sp) : (lineR S).2.length ≤ 256 := by
  unfold lineR
  split
  · next hc =>
    split
    · simp
    · next o ho => exact Nat.le_trans (lineM_good ho).len (chk_may hc).1
  · simp

/-- Numbers of an order. -/
def ints (q : List Nat) : List Int := q.map fun i : Nat => (i : Int)
def linesM (e : Int) (q : List Int) (l : List Sp) : Bool := decide (e = (lineR l).1) && (decide (ints (lineR l).2 = q) && (!decide (e = 0) || decide (e = 0) && holdsM l (ints (lineR l).2)))

set_option maxRecDepth 100000 in
set_option maxHeartbeats 4000000 in
theorem lines_any (e0 : Int) (a : Option Addr) (b off cap : Nat) (l : List Sp) (a2 : Option Addr) (b2 off2 cap2 : Nat) (q : List Int) (w : World) (h : SpansIn w a b off l) (h2 : NumsIn w a2 b2 off2 q) (ht : linesM e0 q l = true) :
    Calls Try.prog 37 #[.int .i64 e0, .slice a2 q.length cap2, .slice a l.length cap] w fun e w' => e = .returned (.bool true) ∧ Fr0 w w' := by
  have HL := lineR_any a b off cap l w h
  have hlen := lineR_len l
  have HT := hid ht
  unfold linesM at HT
  have H := hid (And.intro h h2)
  clear h h2 ht
  generalize lineR l = r at HL hlen HT
  simp only [Bool.and_eq_true, decide_eq_true_eq] at HT
  have HR := HT.out
  obtain ⟨rfl, rfl, hh⟩ := HR
  clear HT
  go_enter Try.func37, Try.ntmps37
  go_wp2_with fail
  refine HL.mono ?_
  rintro e w1 ⟨⟨v, rfl, hv⟩, hf1⟩
  obtain ⟨a1, g1, cap1, rfl, hn1⟩ := hv.nums (by omega)
  have HN := hid hn1
  have HF := hid hf1
  clear hv hf1 hn1 HL
  have hl1 : r.2.length = (ints r.2).length := by simp [ints]
  rw [hl1]
  have HN : Hid (NumsIn w1 a1 g1 0 (ints r.2)) := HN
  clear hl1 hlen
  have hq : (r.1 == r.1) = true := by simp
  go_wp2_with fail
  refine (eqInts_any a1 g1 0 cap1 (ints r.2) a2 b2 off2 cap2 (ints r.2) w1 HN.out (H.out.2.fr0 HF.out)).mono ?_
  rintro e w2 ⟨rfl, hf2⟩
  have HF2 := hid hf2
  clear hf2
  rw [decide_eq_true rfl]
  by_cases h0 : r.1 = 0
  · have h0b : (r.1 != 0) = false := by simp [h0]
    have HM : Hid (holdsM l (ints r.2) = true) := hid (by simpa [h0] using hh)
    clear h0 hh
    go_wp2_with fail
    refine (holds_any a b off cap l a1 g1 0 cap1 (ints r.2) w2 (H.out.1.fr0 (HF.out.trans0 HF2.out)) (HN.out.fr0 HF2.out)).mono ?_
    rintro e w3 ⟨rfl, hf3⟩
    rw [HM.out]
    go_wp2
    go_ret
    exact ⟨rfl, (HF.out.trans0 HF2.out).trans0 hf3⟩
  · have h0b : (r.1 != 0) = true := by simp [h0]
    clear h0 hh
    go_wp2
    go_ret
    exact ⟨rfl, HF.out.trans0 HF2.out⟩

/-- A call of the chapter's object. -/
def spx (k f t : Int) : Sp := ⟨⟨k, ⟨1, 0, 0⟩⟩, f, t⟩
set_option maxRecDepth 100000 in
theorem span_any (k f t : Int) (w : World) :
    Calls Try.prog 36 #[.int .i64 k, .int .i64 f, .int .i64 t] w fun e w' => e = .returned (.agg #[.int .i64 k, .int .i64 1, .int .i64 0, .int .i64 0, .int .i64 f, .int .i64 t]) ∧ Fr0 w w' := by
  go_enter Try.func36, Try.ntmps36
  go_wp2
  go_returns
  exact ⟨rfl, fr0_alloc _ _⟩
theorem work1 : linesM 0 [0, 1] [spx 1 0 4, spx 3 2 3] = true := by decide
theorem work2 : linesM 270 [] [spx 3 0 4, spx 1 5 6] = true := by decide
theorem work3 : linesM 0 [0, 2, 1] [spx 1 0 1, spx 1 2 3, spx 3 1 (-1)] = true := by decide
theorem work4 : linesM 270 [] [spx 1 0 1, spx 4 2 3] = true := by decide
theorem work5 : linesM 0 [1, 0] [spx 1 0 2, spx 4 0 5] = true := by decide
end Go.Proofs.Ytjaabbjobnfmmaa

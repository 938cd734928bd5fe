/-
  Bring at the numbers that the laws of orders use; the deeds of OrderShaken, in plain Lean.
-/
import Derived.Test.YtjaabbjobnfmmaaRowLaw
namespace Go.Proofs.Ytjaabbjobnfmmaa
open Go.RowKit

set_option maxHeartbeats 800000 in
theorem bring2 (a : Int) (w : World) : Calls Try.prog 19 #[.int .i64 a, .int .i64 2] w fun e w' => e = .returned (.int .i64 (brg a 2)) ∧ w' = w := by
  have h1 := Int.tmod_lt_of_pos a (show (0:Int) < 2 by decide)
  have h2 := Int.lt_tmod_of_pos a (show (0:Int) < 2 by decide)
  by_cases h : a.tmod 2 < 0
  · have hb : brg a 2 = a.tmod 2 + 2 := by simp [brg, h]
    rw [hb]
    clear hb
    go_enter Try.func19, Try.ntmps19
    go_wp2
    go_ret
    exact ⟨by rfl, rfl⟩
  · have hb : brg a 2 = a.tmod 2 := by simp [brg, h]
    rw [hb]
    clear hb
    go_enter Try.func19, Try.ntmps19
    go_wp2
    go_ret
    exact ⟨by rfl, rfl⟩

set_option maxHeartbeats 800000 in
theorem bring6 (a : Int) (w : World) : Calls Try.prog 19 #[.int .i64 a, .int .i64 6] w fun e w' => e = .returned (.int .i64 (brg a 6)) ∧ w' = w := by
  have h1 := Int.tmod_lt_of_pos a (show (0:Int) < 6 by decide)
  have h2 := Int.lt_tmod_of_pos a (show (0:Int) < 6 by decide)
  by_cases h : a.tmod 6 < 0
  · have hb : brg a 6 = a.tmod 6 + 6 := by simp [brg, h]
    rw [hb]
    clear hb
    go_enter Try.func19, Try.ntmps19
    go_wp2
    go_ret
    exact ⟨by rfl, rfl⟩
  · have hb : brg a 6 = a.tmod 6 := by simp [brg, h]
    rw [hb]
    clear hb
    go_enter Try.func19, Try.ntmps19
    go_wp2
    go_ret
    exact ⟨by rfl, rfl⟩

set_option maxHeartbeats 800000 in
theorem bring12 (a : Int) (w : World) : Calls Try.prog 19 #[.int .i64 a, .int .i64 12] w fun e w' => e = .returned (.int .i64 (brg a 12)) ∧ w' = w := by
  have h1 := Int.tmod_lt_of_pos a (show (0:Int) < 12 by decide)
  have h2 := Int.lt_tmod_of_pos a (show (0:Int) < 12 by decide)
  by_cases h : a.tmod 12 < 0
  · have hb : brg a 12 = a.tmod 12 + 12 := by simp [brg, h]
    rw [hb]
    clear hb
    go_enter Try.func19, Try.ntmps19
    go_wp2
    go_ret
    exact ⟨by rfl, rfl⟩
  · have hb : brg a 12 = a.tmod 12 := by simp [brg, h]
    rw [hb]
    clear hb
    go_enter Try.func19, Try.ntmps19
    go_wp2
    go_ret
    exact ⟨by rfl, rfl⟩

set_option maxHeartbeats 800000 in
theorem bring20 (a : Int) (w : World) : Calls Try.prog 19 #[.int .i64 a, .int .i64 20] w fun e w' => e = .returned (.int .i64 (brg a 20)) ∧ w' = w := by
  have h1 := Int.tmod_lt_of_pos a (show (0:Int) < 20 by decide)
  have h2 := Int.lt_tmod_of_pos a (show (0:Int) < 20 by decide)
  by_cases h : a.tmod 20 < 0
  · have hb : brg a 20 = a.tmod 20 + 20 := by simp [brg, h]
    rw [hb]
    clear hb
    go_enter Try.func19, Try.ntmps19
    go_wp2
    go_ret
    exact ⟨by rfl, rfl⟩
  · have hb : brg a 20 = a.tmod 20 := by simp [brg, h]
    rw [hb]
    clear hb
    go_enter Try.func19, Try.ntmps19
    go_wp2
    go_ret
    exact ⟨by rfl, rfl⟩

/-- The deeds that play so far, each begun earlier and ended later. -/
structure Shk (R : List Sp) (T : List Ob) (k : Nat) : Prop where
  play : okP [] (R.map Sp.d)
  run : runT [] (R.map Sp.d) = T
  may : ∀ x ∈ R, mayB x = true ∧ 0 ≤ x.t ∧ x.f ≤ 20 + 3 * (k : Int)
  pw : R.Pairwise (fun x y => x.f ≤ y.t)
  len : R.length ≤ k
theorem shk_nil : Shk [] [] 0 := ⟨trivial, rfl, by simp, List.Pairwise.nil, Nat.le_refl _⟩

theorem hdo_kindB {T : List Ob} {d : Dd} (h : (hdo T d.k d.x).1 = 0) : kindB d = true := by
  unfold hdo at h
  by_cases hb : d.k < 1 ∨ 4 < d.k ∨ (d.k = 2 ∧ d.x ≠ zob)
  · rw [if_pos hb] at h; simp at h
  · unfold kindB
    rw [decide_eq_true_eq]
    refine ⟨by omega, by omega, ?_⟩
    by_cases h2 : d.k = 2
    · refine .inr (Classical.byContradiction fun hx => hb (.inr (.inr ⟨h2, hx⟩)))
    · exact .inl h2
section
variable {R : List Sp} {T : List Ob} {k : Nat} {d : Dd}
theorem Shk.skip (h : Shk R T k) (hc : (hdo T d.k d.x).1 ≠ 0) : Shk R (hdo T d.k d.x).2 (k + 1) := by
  rw [hdo_err d hc]
  exact ⟨h.play, h.run, fun x hx => ⟨(h.may x hx).1, (h.may x hx).2.1, by have := (h.may x hx).2.2; omega⟩, h.pw, by have := h.len; omega⟩
theorem Shk.go (h : Shk R T k) (hk : k < 40) (hc : (hdo T d.k d.x).1 = 0) {z y : Int} (hz : 0 ≤ z ∧ z < 20) (hy : 0 ≤ y ∧ y < 20) : Shk (R ++ [⟨d, 20 + 3 * (k : Int) - z, 20 + 3 * (k : Int) + y⟩]) (hdo T d.k d.x).2 (k + 1) := by
  refine ⟨?_, ?_, fun x hx => ?_, ?_, by have := h.len; simp; omega⟩
  · rw [List.map_append, okP_append, h.run]
    exact ⟨h.play, hc, trivial⟩
  · rw [List.map_append, runT_append, h.run]; rfl
  · rcases List.mem_append.1 hx with hx | hx
    · exact ⟨(h.may x hx).1, (h.may x hx).2.1, by have := (h.may x hx).2.2; omega⟩
    · rw [List.mem_singleton.1 hx]
      refine ⟨?_, by simp only; omega, by simp only; omega⟩
      unfold mayB
      rw [Bool.and_eq_true]
      refine ⟨hdo_kindB hc, ?_⟩
      unfold timeB
      rw [decide_eq_true_eq]
      simp only
      omega
  · rw [List.pairwise_append]
    refine ⟨h.pw, List.pairwise_singleton _ _, fun a ha b hb => ?_⟩
    rw [List.mem_singleton.1 hb]
    have := (h.may a ha).2.2
    simp only
    omega
theorem Shk.chk (h : Shk R T k) (hk : k ≤ 40) : chk R = 0 := by
  have := h.len
  unfold Ytjaabbjobnfmmaa.chk
  rw [if_neg (by omega), if_pos]
  rw [List.all_eq_true]
  exact fun x hx => (h.may x hx).1
theorem dds_range (R : List Sp) : dds (spOf R) (List.range R.length) = R.map Sp.d := by
  unfold dds
  apply List.ext_getElem
  · simp
  · intro i h1 h2
    have hi : i < R.length := by simpa using h1
    simp [spOf_get hi]
theorem Shk.ord (h : Shk R T k) : IsOrd R (List.range R.length) := by
  refine ⟨⟨List.nodup_range, fun i hi => List.mem_range.1 hi⟩, by rw [dds_range]; exact h.play, ?_, fun i hi _ => List.mem_range.2 hi⟩
  refine List.pairwise_lt_range.imp_of_mem ?_
  intro a b ha hb hab
  have ha := List.mem_range.1 ha
  have hb := List.mem_range.1 hb
  unfold preP
  rw [spOf_get ha, spOf_get hb]
  have := (List.pairwise_iff_getElem.1 h.pw) a b ha hb hab
  omega
theorem Shk.line (h : Shk R T k) (hk : k ≤ 40) : ∃ o, lineR R = (0, o) ∧ o.length = R.length ∧ holdsM R (ints o) = true := by
  have hc := h.chk hk
  rcases lineR_ways R with ⟨_, hl, _⟩ | ⟨h', _⟩ | ⟨o, _, hl, ho, hr⟩
  · obtain ⟨o', ho'⟩ := line_complete hc h.ord
    rw [hl] at ho'; cases ho'
  · exact absurd hc h'
  · refine ⟨o, hr, ?_, ho.holds hc⟩
    have hp : o.Perm (List.range R.length) := (List.perm_ext_iff_of_nodup ho.good.1 List.nodup_range).2 (fun i => ⟨fun hi => List.mem_range.2 (ho.good.2 i hi), fun hi => by
      have hi := List.mem_range.1 hi
      refine ho.all i hi ?_
      rw [spOf_get hi]
      exact (h.may _ (List.getElem_mem hi)).2.1⟩)
    simpa using hp.length_eq
end
end Go.Proofs.Ytjaabbjobnfmmaa

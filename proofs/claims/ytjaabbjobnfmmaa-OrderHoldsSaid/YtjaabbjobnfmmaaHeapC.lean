/-
  The program's heap: Do at every deed.
-/
import Derived.Test.YtjaabbjobnfmmaaHeapB
namespace Go.Proofs.Ytjaabbjobnfmmaa
open Go.RowKit

set_option maxRecDepth 100000 in
set_option maxHeartbeats 400000 in
theorem do_arg1 (p b : Nat) (S : List Ob) (x : Ob) (k : Int) (w : World) (h : HeapIs w p b S) (hk : k < 1 ∨ 4 < k) :
    Calls Try.prog 22 #[.pointer (some ⟨p, 0, none⟩), .agg #[.int .i64 k, .int .i64 x.c, .int .i64 x.s, .int .i64 x.o]] w fun e w' => e = .returned (.int .i64 2) ∧ Fr0 w w' := by
  have HN := fun o => none_any p b S (w.alloc o) (h.fr0 (fr0_alloc w o))
  clear h
  rcases hk with hk | hk
  · go_enter Try.func22, Try.ntmps22
    go_wp2_with (go_at_call 44; refine (HN _).mono ?_; rintro e w' ⟨rfl, rfl⟩)
    go_ret
    exact ⟨rfl, fr0_alloc _ _⟩
  · have hk2 : ¬ k < 1 := by omega
    go_enter Try.func22, Try.ntmps22
    go_wp2_with (go_at_call 44; refine (HN _).mono ?_; rintro e w' ⟨rfl, rfl⟩)
    go_ret
    exact ⟨rfl, fr0_alloc _ _⟩

set_option maxRecDepth 100000 in
set_option maxHeartbeats 400000 in
theorem do_arg2 (p b : Nat) (S : List Ob) (x : Ob) (w : World) (h : HeapIs w p b S) (hz : x ≠ zob) :
    Calls Try.prog 22 #[.pointer (some ⟨p, 0, none⟩), .agg #[.int .i64 2, .int .i64 x.c, .int .i64 x.s, .int .i64 x.o]] w fun e w' => e = .returned (.int .i64 2) ∧ Fr0 w w' := by
  have HN := fun o => none_any p b S (w.alloc o) (h.fr0 (fr0_alloc w o))
  clear h
  have hne := fun W => neq30 x zob W
  rw [decide_eq_false hz] at hne
  simp only [Ob.val, zob] at hne
  have hg := guard30
  clear hz
  go_enter Try.func22, Try.ntmps22
  go_wp2_with (go_at_call 44; refine (HN _).mono ?_; rintro e w' ⟨rfl, rfl⟩)
  go_ret
  exact ⟨rfl, fr0_alloc _ _⟩

theorem do_any (p b : Nat) (S : List Ob) (x : Ob) (hx : x.wf) (k : Int) (w : World) (h : HeapIs w p b S) :
    Calls Try.prog 22 #[.pointer (some ⟨p, 0, none⟩), .agg #[.int .i64 k, .int .i64 x.c, .int .i64 x.s, .int .i64 x.o]] w fun e w' =>
      e = .returned (.int .i64 (hdo S k x).1) ∧ Fr (· = b) w w' ∧ HeapIs w' p b (hdo S k x).2 := by
  by_cases h1 : k < 1 ∨ 4 < k
  · have e1 : hdo S k x = (2, S) := by unfold hdo; rw [if_pos (by rcases h1 with h1 | h1 <;> simp [h1])]
    rw [e1]
    exact (do_arg1 p b S x k w h h1).mono fun e w' ⟨he, hf⟩ => ⟨he, hf.mono (fun _ _ h => h.elim), h.fr0 hf⟩
  · by_cases h2 : k = 2
    · subst h2
      by_cases hz : x = zob
      · have e1 : hdo S 2 x = (0, S) := by unfold hdo; rw [if_neg (by simp [hz])]; rfl
        rw [e1]
        exact (do_none p b S x hz w h true (fun w' => Fr (· = b) w w' ∧ HeapIs w' p b S) (fun W hW => (nothing_any _ x W).mono fun e w' ⟨he, hf⟩ =>
          ⟨he, (hW.trans0 hf).mono (fun _ _ h => h.elim), h.fr0 (hW.trans0 hf)⟩)).mono fun e w' h => h
      · have e1 : hdo S 2 x = (2, S) := by unfold hdo; rw [if_pos (by simp [hz])]
        rw [e1]
        exact (do_arg2 p b S x w h hz).mono fun e w' ⟨he, hf⟩ => ⟨he, hf.mono (fun _ _ h => h.elim), h.fr0 hf⟩
    · have hk : ¬ (k < 1 ∨ 4 < k ∨ (k = 2 ∧ x ≠ zob)) := by omega
      have e0 : hdo S k x = if k = 1 then (if x ∈ S then 270 else 0, ins S x) else if k = 2 then (0, S) else if k = 3 then (if x ∈ S then 0 else 270, S.erase x) else (if x ∈ S then 270 else 0, S) := by
        unfold hdo; rw [if_neg hk]
      have hfr : ∀ {W w'}, Fr0 w W → Fr (· = b) W w' → Fr (· = b) w w' := fun hW hf => (hW.mono (fun _ _ h => h.elim)).trans hf (fun _ _ h => h)
      rcases (by omega : k = 1 ∨ k = 3 ∨ k = 4) with rfl | rfl | rfl
      · have e1 : hdo S 1 x = (if (!decide (x ∈ S)) = true then 0 else 270, ins S x) := by rw [e0]; by_cases hm : x ∈ S <;> simp [hm]
        rw [e1]
        exact do_give p b S x w h (!decide (x ∈ S)) (fun w' => Fr (· = b) w w' ∧ HeapIs w' p b (ins S x)) (fun W hW => (give_any p b S x hx W (h.fr0 hW)).mono fun e w' ⟨he, hf, hh⟩ => ⟨he, hfr hW hf, hh⟩)
      · have e1 : hdo S 3 x = (if (decide (x ∈ S)) = true then 0 else 270, S.erase x) := by rw [e0]; by_cases hm : x ∈ S <;> simp [hm]
        rw [e1]
        exact do_take p b S x w h (decide (x ∈ S)) (fun w' => Fr (· = b) w w' ∧ HeapIs w' p b (S.erase x)) (fun W hW => (take_any p b S x hx W (h.fr0 hW)).mono fun e w' ⟨he, hf, hh⟩ => ⟨he, hfr hW hf, hh⟩)
      · have e1 : hdo S 4 x = (if (!decide (x ∈ S)) = true then 0 else 270, S) := by rw [e0]; by_cases hm : x ∈ S <;> simp [hm]
        rw [e1]
        exact do_bad p b S x w h (!decide (x ∈ S)) (fun w' => Fr (· = b) w w' ∧ HeapIs w' p b S) (fun W hW => (bad_any p b S x hx W (h.fr0 hW)).mono fun e w' ⟨he, hf⟩ =>
          ⟨he, (hW.trans0 hf).mono (fun _ _ h => h.elim), h.fr0 (hW.trans0 hf)⟩)

end Go.Proofs.Ytjaabbjobnfmmaa

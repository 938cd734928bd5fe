/-
  The document's heap: Out and Many.
-/
import Derived.Test.YtjaabbjobnfmmaaGRef
import Derived.Test.YtjaabbjobnfmmaaOutA
namespace Go.Proofs.Ytjaabbjobnfmmaa
open Go.RowKit

set_option maxRecDepth 100000 in
set_option maxHeartbeats 800000 in
theorem refOut_any (p B : Nat) (L : List Ob) (hL : L.length < 4398046511104) (w : World) (h : RefIs w p B L) :
    Calls Try.prog 40 #[.pointer (some ⟨p, 0, none⟩)] w fun e w' => ∃ v, e = .returned v ∧ OwnL w' w.heap.size v L ∧ Fr0 w w' := by
  obtain ⟨i0, hi, hz0, hz1, hz2⟩ := info_parts info30
  obtain ⟨a, g, cap, hr⟩ := h.read
  have HZ := hid (show Try.prog.info? 30 = some i0 ∧ i0.zero = some (.agg #[.int .i64 0, .int .i64 0, .int .i64 0]) ∧ i0.size = 3 ∧ i0.bytes = 24 from ⟨hi, hz0, hz1, hz2⟩)
  have HR := hid hr
  have hpc := HR.out.head
  clear h hz0 hz1 hz2 hi hr
  go_enter Try.func40, Try.ntmps40
  go_wp2_with (at_builtin; refine append_own_any _ rfl (.tmp 4) (.tmp 8) 37 rfl w.heap.size 30 i0 (.agg #[.int .i64 0, .int .i64 0, .int .i64 0]) 3 24 Try.underlying37 HZ.out.1 HZ.out.2.1 HZ.out.2.2.1 HZ.out.2.2.2 rfl (by decide) _ 0 [] rfl (World.ownsRow_nil _ _ _ _) a L.length cap (flat Ob.enc L) rfl (flat_length enc3 L) ?c1 ?c2 ?c3 ?c4 ?c5 ?c6 ?_)
  case c1 => exact HR.out.nil
  case c2 =>
    intro ad had j u hu
    have hj : j < L.length * 3 := by
      have := (List.getElem?_eq_some_iff.1 hu).1
      rwa [flat_length enc3] at this
    have ha := HR.out.addr (by omega)
    rw [ha] at had
    cases had
    rw [Addr.add_lit, Nat.zero_add, HR.out.cells j hj, hu]
  case c3 => exact flat_one enc3_one L
  case c4 => simp only [maxLen]; omega
  case c5 => omega
  case c6 => exact Nat.le_refl _
  intro v' w' hown hg
  have HE := hid (show OwnL w' w.heap.size v' L ∧ Fr0 w w' from ⟨by unfold OwnL; simpa using hown, (Fr.of_grown hg).mono (fun i hi e => by simp [Value.ownBlock] at e)⟩)
  clear hown hg hpc
  go_wp2
  go_ret
  exact ⟨v', rfl, HE.out⟩


set_option maxRecDepth 100000 in
set_option maxHeartbeats 800000 in
theorem refMany_any (p B : Nat) (L : List Ob) (hL : L.length < 4398046511104) (c : Int) (w : World) (h : RefIs w p B L) :
    Calls Try.prog 42 #[.pointer (some ⟨p, 0, none⟩), .int .i64 c] w fun e w' => e = .returned (.int .i64 (manyL L c)) ∧ w = w' := by
  obtain ⟨a, g, cap, hr⟩ := h.read
  have HR := hid hr
  have hpc := HR.out.head
  clear h hr
  go_enter Try.func42, Try.ntmps42
  go_wp2
  go_loop [5, 6] (fun n i => ∃ k : Nat, i = .int .i64 k ∧ k ≤ L.length ∧ n = .int .i64 (manyL (L.take k) c)) (fun _ i => L.length - (intOf i).toNat)
  case atStart => exact ⟨0, rfl, Nat.zero_le _, rfl⟩
  case round =>
    obtain ⟨k, rfl, hk, rfl⟩ := hrel
    by_cases hlt : k < L.length
    · have hix := HR.out.index k hlt
      obtain ⟨c0, c1, c2⟩ := HR.out.elem k hlt
      have hs := manyL_snoc (L.take k) L[k] c
      rw [← take_snoc' L k hlt] at hs
      have hmle : manyL (L.take k) c ≤ k := Nat.le_trans (manyL_le _ _) (by simp; omega)
      have hcc : (L[k].c == c) = true ∨ (L[k].c == c) = false := by cases (L[k].c == c) <;> simp
      rcases hcc with hcc | hcc
      all_goals
        rw [hcc] at hs
        have HS := hid hs
        clear hs
        go_wp2
        go_round
        case rel => exact ⟨k + 1, by go_num, by omega, by rw [HS.out]; go_num⟩
        case measure => simp [intOf]; omega
    · have hN : manyL (L.take k) c = manyL L c := by rw [List.take_of_length_le (by omega)]
      have HN := hid hN
      clear hN
      go_wp2
      go_ret
      exact ⟨by rw [HN.out]; rfl, rfl⟩

/-! ### the order is kept -/
theorem asc_put {L : List Ob} (h : Asc L) {x : Ob} (hx : x ∉ L) : Asc (putL L x) := by
  unfold Asc putL
  have h2 : (L.takeWhile (·.lt x) ++ L.dropWhile (·.lt x)).Pairwise (fun a b => a.lt b = true) := by rw [List.takeWhile_append_dropWhile]; exact h
  rw [List.pairwise_append] at h2 ⊢
  obtain ⟨p1, p2, p3⟩ := h2
  have hlow : ∀ a ∈ L.takeWhile (·.lt x), a.lt x = true := fun a ha => by
    have := List.all_takeWhile (p := (·.lt x)) (l := L)
    exact List.all_eq_true.1 this a ha
  have hmemD : ∀ b ∈ L.dropWhile (·.lt x), b ∈ L := fun b hb => (List.dropWhile_sublist _).subset hb
  have hhigh : ∀ b ∈ L.dropWhile (·.lt x), x.lt b = true := by
    intro b hb
    cases hd : L.dropWhile (·.lt x) with
    | nil => rw [hd] at hb; simp at hb
    | cons y t =>
      have hy : y.lt x = false := by
        have := List.head?_dropWhile_not (·.lt x) L
        rw [hd] at this
        simpa using this
      have hyx : y ≠ x := fun e => hx (e ▸ hmemD y (by rw [hd]; exact List.mem_cons_self ..))
      have hxy := Ob.lt_total hyx hy
      rw [hd] at hb p2
      rcases List.mem_cons.1 hb with rfl | hb
      · exact hxy
      · exact Ob.lt_trans hxy ((List.pairwise_cons.1 p2).1 b hb)
  refine ⟨p1, List.pairwise_cons.2 ⟨hhigh, p2⟩, fun a ha b hb => ?_⟩
  rcases List.mem_cons.1 hb with rfl | hb
  · exact hlow a ha
  · exact p3 a ha b hb
theorem asc_drop {L : List Ob} (h : Asc L) (x : Ob) : Asc (dropL L x) := List.Pairwise.sublist List.filter_sublist h
theorem Asc.nodup {L : List Ob} (h : Asc L) : L.Nodup := List.Pairwise.imp (fun {a b} hab e => by subst e; rw [Ob.lt_irrefl] at hab; cases hab) h

/-- Both heaps hold the same objects; the document's list is in order. -/
structure Alike (S L : List Ob) : Prop where
  same : Same S L
  asc : Asc L
theorem alike_nil : Alike [] [] := ⟨same_nil, List.Pairwise.nil⟩
theorem perm_of_mem {L S : List Ob} (hL : L.Nodup) (hS : S.Nodup) (h : ∀ x, x ∈ L ↔ x ∈ S) : L.Perm S := by
  rw [List.perm_iff_count]
  intro a
  by_cases ha : a ∈ L
  · rw [hL.count, hS.count, if_pos ha, if_pos ((h a).1 ha)]
  · rw [hL.count, hS.count, if_neg ha, if_neg (fun k => ha ((h a).2 k))]
theorem Alike.perm {S L : List Ob} (h : Alike S L) : L.Perm S := perm_of_mem h.asc.nodup h.same.nodup (fun x => (h.same.mem x).symm)

theorem alike_do {S L : List Ob} (h : Alike S L) (k : Int) (x : Ob) : (hdo S k x).1 = (rdo L k x).1 ∧ Alike (hdo S k x).2 (rdo L k x).2 := by
  obtain ⟨h1, h2, h3⟩ := same_do h.same k x
  refine ⟨h1, ?_⟩
  by_cases hc : (hdo S k x).1 = 0
  · refine ⟨h2 hc, ?_⟩
    have hA := h.asc
    unfold rdo
    by_cases e1 : k < 1 ∨ 4 < k ∨ (k = 2 ∧ x ≠ zob)
    · rw [if_pos e1]; exact hA
    · rw [if_neg e1]
      by_cases e2 : k = 2
      · rw [if_pos e2]; exact hA
      · rw [if_neg e2]
        by_cases e3 : decide (x ∈ L) ≠ decide (k = 3)
        · rw [if_pos e3]; exact hA
        · rw [if_neg e3]
          by_cases e4 : k = 1
          · rw [if_pos e4]
            exact asc_put hA (fun hm => e3 (by subst e4; simp [hm]))
          · rw [if_neg e4]
            split
            · exact asc_drop hA x
            · exact hA
  · obtain ⟨h4, h5⟩ := h3 hc
    rw [h5]
    exact ⟨h4, h.asc⟩
end Go.Proofs.Ytjaabbjobnfmmaa

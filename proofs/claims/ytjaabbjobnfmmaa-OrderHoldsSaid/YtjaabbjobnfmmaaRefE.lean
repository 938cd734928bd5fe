/-
  The document's heap: Do at every deed, and Play at every list of deeds.
-/
import Derived.Test.YtjaabbjobnfmmaaRefD
import Derived.Test.YtjaabbjobnfmmaaPlay
namespace Go.Proofs.Ytjaabbjobnfmmaa
open Go.RowKit

theorem refDo_any (p B : Nat) (L : List Ob) (hL : L.length < 4398046511104) (x : Ob) (hx : x.wf) (k : Int) (w : World) (hB : B ≤ w.heap.size) (h : RefIs w p B L) :
    Calls Try.prog 39 #[.pointer (some ⟨p, 0, none⟩), .agg #[.int .i64 k, .int .i64 x.c, .int .i64 x.s, .int .i64 x.o]] w fun e w' =>
      e = .returned (.int .i64 (rdo L k x).1) ∧ Fr (· = p) w w' ∧ RefIs w' p B (rdo L k x).2 := by
  by_cases h1 : k < 1 ∨ 4 < k
  · have e1 : rdo L k x = (2, L) := by unfold rdo; rw [if_pos (by rcases h1 with h1 | h1 <;> simp [h1])]
    rw [e1]
    exact (refDo_arg1 _ x k w h1).mono fun e w' ⟨he, hf⟩ => ⟨he, hf.mono (fun _ _ h => h.elim), h.fr0 hf⟩
  · by_cases h2 : k = 2
    · subst h2
      have e1 : rdo L 2 x = (if x = zob then 0 else 2, L) := by unfold rdo; by_cases hz : x = zob <;> simp [hz]
      rw [e1]
      exact (refDo_two _ x w).mono fun e w' ⟨he, hf⟩ => ⟨he, hf.mono (fun _ _ h => h.elim), h.fr0 hf⟩
    · have hk : ¬ (k < 1 ∨ 4 < k ∨ (k = 2 ∧ x ≠ zob)) := by omega
      have e0 : rdo L k x = if decide (x ∈ L) ≠ decide (k = 3) then (270, L) else if k = 1 then (0, putL L x) else if k = 3 then (0, dropL L x) else (0, L) := by
        unfold rdo; rw [if_neg hk, if_neg h2]
      rcases (by omega : k = 1 ∨ k = 3 ∨ k = 4) with rfl | rfl | rfl
      · by_cases hm : x ∈ L
        · rw [show rdo L 1 x = (270, L) by rw [e0]; simp [hm]]
          exact refDo_give_no p B L hL x w hB h hm
        · rw [show rdo L 1 x = (0, putL L x) by rw [e0]; simp [hm]]
          exact refDo_give p B L hL x hx w hB h hm
      · by_cases hm : x ∈ L
        · rw [show rdo L 3 x = (0, dropL L x) by rw [e0]; simp [hm]]
          exact refDo_take p B L hL x w hB h hm
        · rw [show rdo L 3 x = (270, L) by rw [e0]; simp [hm]]
          exact refDo_take_no p B L hL x w hB h hm
      · by_cases hm : x ∈ L
        · rw [show rdo L 4 x = (270, L) by rw [e0]; simp [hm]]
          exact refDo_bad_no p B L hL x w hB h hm
        · rw [show rdo L 4 x = (0, L) by rw [e0]; simp [hm]]
          exact refDo_bad p B L hL x w hB h hm

theorem putL_length (L : List Ob) (x : Ob) : (putL L x).length = L.length + 1 := by
  have := congrArg List.length (List.takeWhile_append_dropWhile (p := (·.lt x)) (l := L))
  simp only [putL, List.length_append, List.length_cons] at *
  omega

theorem rdo_length (L : List Ob) (k : Int) (x : Ob) : (rdo L k x).2.length ≤ L.length + 1 := by
  unfold rdo
  have h1 := putL_length L x
  have h2 := List.length_filter_le (fun y => !decide (y = x)) L
  have h3 : (dropL L x).length ≤ L.length := h2
  split
  · simp
  · split
    · simp
    · split
      · simp
      · split
        · simp; omega
        · split
          · simp; omega
          · simp

/-- What the document's Play answers from deed i on, L being out. -/
def rplay (L : List Ob) : Nat → List Dd → Int × Int
  | _, [] => (0, 0)
  | i, d :: l => if (rdo L d.k d.x).1 ≠ 0 then (i, (rdo L d.k d.x).1) else rplay (rdo L d.k d.x).2 (i + 1) l

theorem rplay_stop (L : List Ob) (l : List Dd) (k : Nat) (hk : k < l.length) (h : (rdo L l[k].k l[k].x).1 ≠ 0) : rplay L k (l.drop k) = ((k : Int), (rdo L l[k].k l[k].x).1) := by
  rw [List.drop_eq_getElem_cons hk, rplay, if_pos h]
theorem rplay_go (L : List Ob) (l : List Dd) (k : Nat) (hk : k < l.length) (h : (rdo L l[k].k l[k].x).1 = 0) : rplay L k (l.drop k) = rplay (rdo L l[k].k l[k].x).2 (k + 1) (l.drop (k + 1)) := by
  rw [List.drop_eq_getElem_cons hk, rplay, if_neg (by simp [h])]

set_option maxHeartbeats 400000 in
theorem refPlay_any (a : Option Addr) (b off cap : Nat) (l : List Dd) (w : World) (h : DeedsIn w a b off l) (hsmall : l.length < 4398046511104) :
    Calls Try.prog 17 #[.slice a l.length cap] w fun e w' => e = .returned (.tuple #[.int .i64 (rplay [] 0 l).1, .int .i64 (rplay [] 0 l).2]) ∧ Fr0 w w' := by
  have HD := hid h
  clear h
  go_enter Try.func17, Try.ntmps17
  go_wp2_with (go_at_call 38; refine (refNew_any _).mono ?_; rintro e w1 ⟨rfl, hf1, hh1⟩)
  have HE := hid (show (rplay [] 0 l) = rplay [] 0 (l.drop 0) by simp)
  go_loopw [5] (fun i wr => ∃ (k : Nat) (L : List Ob), k ≤ l.length ∧ L.length ≤ k ∧ i = .int .i64 k ∧ RefIs wr w.heap.size w.heap.size L ∧ Fr0 w wr ∧ Hid (rplay [] 0 l = rplay L k (l.drop k)))
    (fun i _ => l.length - (intOf i).toNat)
  case atStart => exact ⟨0, [], Nat.zero_le _, Nat.le_refl _, rfl, hh1, hf1, HE⟩
  case round =>
    obtain ⟨k, L, hk, hLk, rfl, hH, hF, hE⟩ := hrel
    by_cases hlt : k < l.length
    · have hdi := HD.out.fr hF (fun h => h)
      have hix := hdi.index cap k hlt
      obtain ⟨c0, c1, c2, c3⟩ := hdi.cells k hlt
      have hDo := refDo_any w.heap.size w.heap.size L (by omega) l[k].x (hdi.wf _ (List.getElem_mem hlt)).2 l[k].k wr hF.size hH
      have hlen := rdo_length L l[k].k l[k].x
      have HF := hid hF
      by_cases hc : (rdo L l[k].k l[k].x).1 = 0
      · rw [hc] at hDo
        have HC := hid hc
        have HL := hid hlen
        clear hdi hF hH hc hlen
        go_wp2_with (go_at_call 39; refine hDo.mono ?_; rintro e w2 ⟨rfl, hf2, hh2⟩)
        go_roundw
        case rel => exact ⟨k + 1, _, by omega, by have := HL.out; omega, by go_num, hh2, HF.out.trans hf2 (by intro i hi e; omega), hid (hE.out.trans (rplay_go L l k hlt HC.out))⟩
        case measure => simp [intOf]; omega
      · have HC := hid (rplay_stop L l k hlt hc)
        have hc' : ((rdo L l[k].k l[k].x).1 != 0) = true := by simpa using hc
        generalize (rdo L l[k].k l[k].x).1 = code at hDo hc' HC
        clear hdi hF hH hc hlen
        go_wp2_with (go_at_call 39; refine hDo.mono ?_; rintro e w2 ⟨rfl, hf2, hh2⟩)
        go_ret2
        refine ⟨by rw [hE.out, HC.out]; rfl, HF.out.trans hf2 (by intro i hi e; omega)⟩
    · have hk : k = l.length := by omega
      subst hk
      have HF := hid hF
      clear hF hH
      go_wp2
      go_ret2
      exact ⟨by rw [hE.out]; simp [rplay], HF.out⟩
end Go.Proofs.Ytjaabbjobnfmmaa

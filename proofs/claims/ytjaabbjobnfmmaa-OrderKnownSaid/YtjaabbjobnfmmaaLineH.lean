/-
  order.Line at every history: what it answers, as a function.
-/
import Derived.Test.YtjaabbjobnfmmaaLineE
namespace Go.Proofs.Ytjaabbjobnfmmaa
open Go.RowKit

theorem Bf.asymm {t : Nat → Int} {i j : Nat} (h : Bf t i j) (k : Bf t j i) : False := Bf.irrefl i (h.trans k)
theorem bf_total {t : Nat → Int} {i j : Nat} (hi : -1 ≤ t i) (hj : -1 ≤ t j) (h : i ≠ j) : Bf t i j ∨ Bf t j i := by
  by_cases e : t i = t j
  · rcases Nat.lt_or_ge i j with hlt | hge
    · exact .inl (.inr ⟨e, hlt⟩)
    · exact .inr (.inr ⟨e.symm, by omega⟩)
  · by_cases hl : ltT (t i) (t j)
    · exact .inl (.inl hl)
    · exact .inr (.inl (ltT_total hi hj hl e))

/-- There is one sorted row of given calls. -/
theorem srt_unique {t : Nat → Int} : ∀ {L M : List Nat}, Srt t L → Srt t M → L.Perm M → L = M := by
  intro L
  induction L with
  | nil => intro M _ _ h; exact (List.nil_perm.1 h).symm
  | cons a L ih =>
    intro M hL hM h
    cases M with
    | nil => exact absurd h.length_eq (by simp)
    | cons b M =>
      unfold Srt at hL hM
      rw [List.pairwise_cons] at hL hM
      have hab : a = b := by
        by_cases e : a = b
        · exact e
        · have h1 : b ∈ L := by
            rcases List.mem_cons.1 (h.mem_iff.2 (List.mem_cons_self)) with e' | e'
            · exact absurd e'.symm e
            · exact e'
          have h2 : a ∈ M := by
            rcases List.mem_cons.1 (h.mem_iff.1 (List.mem_cons_self)) with e' | e'
            · exact absurd e' e
            · exact e'
          exact (Bf.asymm (hL.1 _ h1) (hM.1 _ h2)).elim
      subst hab
      rw [ih hL.2 hM.2 ((List.perm_cons a).1 h)]

def ltTb (a b : Int) : Bool := decide (0 ≤ a) && (decide (b < 0) || decide (a < b))
def bfB (t : Nat → Int) (i j : Nat) : Bool := ltTb (t i) (t j) || (decide (t i = t j) && decide (i < j))
/-- A call put where it belongs. -/
def insB (t : Nat → Int) (x : Nat) : List Nat → List Nat
  | [] => [x]
  | y :: l => if bfB t x y then x :: y :: l else y :: insB t x l
/-- The places 0 .. n-1, sorted. -/
def sortL (t : Nat → Int) (n : Nat) : List Nat := (List.range n).foldr (insB t) []
theorem bfB_iff {t : Nat → Int} {i j : Nat} : bfB t i j = true ↔ Bf t i j := by
  simp only [bfB, ltTb, Bf, ltT, Bool.or_eq_true, Bool.and_eq_true, decide_eq_true_eq]
theorem insB_perm (t : Nat → Int) (x : Nat) (l : List Nat) : (insB t x l).Perm (x :: l) := by
  induction l with
  | nil => exact List.Perm.refl _
  | cons y l ih =>
    unfold insB
    split
    · exact List.Perm.refl _
    · exact (ih.cons y).trans (List.Perm.swap x y l)
theorem insB_srt {t : Nat → Int} {x : Nat} {l : List Nat} (hl : Srt t l) (hx : x ∉ l) (hn : ∀ y, y = x ∨ y ∈ l → -1 ≤ t y) : Srt t (insB t x l) := by
  induction l with
  | nil => exact List.pairwise_singleton _ _
  | cons y l ih =>
    unfold Srt at hl
    rw [List.pairwise_cons] at hl
    unfold insB
    split
    · next h =>
      have h := bfB_iff.1 h
      refine List.pairwise_cons.2 ⟨fun z hz => ?_, List.pairwise_cons.2 hl⟩
      rcases List.mem_cons.1 hz with rfl | hz
      · exact h
      · exact h.trans (hl.1 z hz)
    · next h =>
      have hyx : Bf t y x := by
        rcases bf_total (hn x (.inl rfl)) (hn y (.inr (List.mem_cons_self))) (fun e => hx (e ▸ List.mem_cons_self)) with h' | h'
        · exact absurd (bfB_iff.2 h') h
        · exact h'
      refine List.pairwise_cons.2 ⟨fun z hz => ?_, ih hl.2 (fun hm => hx (List.mem_cons_of_mem _ hm)) (fun z hz => hn z (hz.imp id (List.mem_cons_of_mem _)))⟩
      rcases List.mem_cons.1 ((insB_perm t x l).mem_iff.1 hz) with rfl | hz
      · exact hyx
      · exact hl.1 z hz
theorem foldr_perm (t : Nat → Int) (l : List Nat) : (l.foldr (insB t) []).Perm l := by
  induction l with
  | nil => exact List.Perm.refl _
  | cons a l ih => exact (insB_perm t a _).trans (ih.cons a)
theorem sortL_perm (t : Nat → Int) (n : Nat) : (sortL t n).Perm (List.range n) := foldr_perm t _
theorem sortL_srt {t : Nat → Int} {n : Nat} (ht : ∀ i, i < n → -1 ≤ t i) : Srt t (sortL t n) := by
  unfold sortL
  have : ∀ l : List Nat, l.Nodup → (∀ i ∈ l, i < n) → Srt t (l.foldr (insB t) []) := by
    intro l
    induction l with
    | nil => intro _ _; exact List.Pairwise.nil
    | cons a l ih =>
      intro hd hl
      rw [List.nodup_cons] at hd
      refine insB_srt (ih hd.2 (fun i hi => hl i (List.mem_cons_of_mem _ hi))) (fun hm => hd.1 ((foldr_perm t l).mem_iff.1 hm)) (fun y hy => ht y (hl y ?_))
      rcases hy with rfl | hy
      · exact List.mem_cons_self
      · exact List.mem_cons_of_mem _ ((foldr_perm t l).mem_iff.1 hy)
  exact this _ List.nodup_range (fun i hi => List.mem_range.1 hi)

def zsp : Sp := ⟨⟨0, zob⟩, 0, 0⟩
def spOf (S : List Sp) (i : Nat) : Sp := S.getD i zsp
theorem spOf_get {S : List Sp} {i : Nat} (h : i < S.length) : spOf S i = S[i] := by simp [spOf, h]
/-- The places of a history in the order of their ends. -/
def sigma (S : List Sp) : List Nat := sortL (fun i => (spOf S i).t) S.length
/-- The order that Line makes, of a history that may be. -/
def lineM (S : List Sp) : Option (List Nat) := (lall (spOf S) (sigma S) (S.length + 1) (sigma S) [] []).map (·.1)
theorem chk_may {S : List Sp} (h : chk S = 0) : S.length ≤ 256 ∧ ∀ x ∈ S, mayB x = true := by
  unfold chk at h
  split at h
  · simp at h
  · split at h
    · next h1 h2 => exact ⟨by omega, fun x hx => List.all_eq_true.1 h2 x hx⟩
    · simp at h
theorem chk_t {S : List Sp} (h : chk S = 0) : ∀ i, i < S.length → -1 ≤ (spOf S i).t := by
  intro i hi
  rw [spOf_get hi]
  have := (chk_may h).2 _ (List.getElem_mem hi)
  simp only [mayB, timeB, Bool.and_eq_true, decide_eq_true_eq] at this
  omega

/-- What Line answers: the code, the order. -/
def lineR (S : List Sp) : Int × List Nat := if chk S = 0 then match lineM S with
    | none => (270, [])
    | some o => (0, o)
  else (chk S, [])

/-- A slice of numbers that the call has made. -/
def IntsOwn (w w' : World) (v : Value) (o : List Nat) : Prop := w'.ownsRow w.heap.size 3 1 v o.length (o.map fun i : Nat => Value.int .i64 i)

set_option maxRecDepth 100000 in
set_option maxHeartbeats 1000000 in
theorem line_bad (a : Option Addr) (b off cap : Nat) (l : List Sp) (w : World) (h : SpansIn w a b off l) (hch : chk l ≠ 0) :
    Calls Try.prog 26 #[.slice a l.length cap] w fun e w' => e = .returned (.tuple #[.slice none 0 0, .int .i64 (chk l)]) ∧ Fr0 w w' := by
  have HC := check_any a b off cap l w h
  have hc : (chk l != 0) = true := by simpa using hch
  clear h hch
  generalize chk l = c at HC hc ⊢
  go_enter Try.func26, Try.ntmps26
  go_wp2_with fail
  refine HC.mono ?_
  rintro e w1 ⟨rfl, hf1⟩
  clear HC
  go_wp2
  go_ret2
  exact ⟨rfl, hf1⟩

theorem lineR_any (a : Option Addr) (b off cap : Nat) (l : List Sp) (w : World) (h : SpansIn w a b off l) :
    Calls Try.prog 26 #[.slice a l.length cap] w fun e w' => (∃ v, e = .returned (.tuple #[v, .int .i64 (lineR l).1]) ∧ IntsOwn w w' v (lineR l).2) ∧ Fr0 w w' := by
  by_cases hc : chk l = 0
  · refine (line_any a b off cap l (spOf l) (fun i h => spOf_get h) w h hc).mono ?_
    rintro e w' ⟨hf, σ, hp, hs, hr⟩
    have : σ = sigma l := srt_unique hs (sortL_srt (chk_t hc)) (hp.trans (sortL_perm _ _).symm)
    subst this
    refine ⟨?_, hf⟩
    unfold lineR lineM
    rw [if_pos hc]
    cases hl : lall (spOf l) (sigma l) (l.length + 1) (sigma l) [] [] with
    | none =>
      rw [hl] at hr
      exact ⟨_, hr, rfl, .inl ⟨rfl, rfl⟩⟩
    | some r =>
      rw [hl] at hr
      obtain ⟨v, h1, h2⟩ := hr
      exact ⟨v, h1, h2⟩
  · refine (line_bad a b off cap l w h hc).mono ?_
    rintro e w' ⟨he, hf⟩
    unfold lineR
    rw [if_neg hc]
    exact ⟨⟨_, he, rfl, .inl ⟨rfl, rfl⟩⟩, hf⟩
end Go.Proofs.Ytjaabbjobnfmmaa

/-
  A history's orders, in plain Lean: deeds over a set that is told by a function; what Holds answers, as a law. Where a history has an order Line answers one; what Line answers is an order (plain Lean). What Line answers is an order; where there is one, Line answers one (plain Lean).
-/
import Derived.Test.YtjaabbjobnfmmaaRefHolds
import Derived.Test.YtjaabbjobnfmmaaAloneLaw
import Derived.Test.YtjaabbjobnfmmaaTurnsLaw
namespace Go.Proofs.Ytjaabbjobnfmmaa
open Go.RowKit

/-- A set of objects, as a function. -/
def memF (T : List Ob) (o : Ob) : Bool := decide (o ∈ T)
def updF (φ : Ob → Bool) (o : Ob) (b : Bool) : Ob → Bool := fun z => if z = o then b else φ z
/-- May the deed be done? -/
def fitP (φ : Ob → Bool) (d : Dd) : Prop := d.k = 2 ∨ φ d.x = decide (d.k = 3)
/-- The set behind the deed. -/
def stepP (φ : Ob → Bool) (d : Dd) : Ob → Bool := if d.k = 1 then updF φ d.x true else if d.k = 3 then updF φ d.x false else φ
/-- The deeds play. -/
def pf : (Ob → Bool) → List Dd → Prop
  | _, [] => True
  | φ, d :: l => fitP φ d ∧ pf (stepP φ d) l

theorem nrm_ways {d : Dd} (h : Nrm d) : d.k = 1 ∨ d.k = 2 ∨ d.k = 3 ∨ d.k = 4 := by
  have h1 := h.1
  have h2 := h.2.1
  omega

theorem hdo_fit {T : List Ob} {d : Dd} (h : Nrm d) : (hdo T d.k d.x).1 = 0 ↔ fitP (memF T) d := by
  rcases nrm_ways h with hk | hk | hk | hk
  · rw [hdo_else h (by omega), if_pos hk]
    by_cases hm : d.x ∈ T <;> simp [fitP, memF, hk, hm]
  · rw [hdo_none h hk]
    simp [fitP, hk]
  · rw [hdo_else h (by omega), if_neg (by omega), if_pos hk]
    by_cases hm : d.x ∈ T <;> simp [fitP, memF, hk, hm]
  · rw [hdo_else h (by omega), if_neg (by omega), if_neg (by omega)]
    by_cases hm : d.x ∈ T <;> simp [fitP, memF, hk, hm]

theorem hdo_stepP {T : List Ob} {d : Dd} (h : Nrm d) (hT : T.Nodup) : memF (hdo T d.k d.x).2 = stepP (memF T) d := by
  funext z
  rcases nrm_ways h with hk | hk | hk | hk
  · rw [hdo_else h (by omega), if_pos hk]
    unfold stepP updF memF
    rw [if_pos hk]
    by_cases hz : z = d.x
    · subst hz; simp [mem_ins']
    · simp [mem_ins', hz]
  · rw [hdo_none h hk]
    simp [stepP, hk]
  · rw [hdo_else h (by omega), if_neg (by omega), if_pos hk]
    have e1 : ¬ d.k = 1 := by omega
    simp only [stepP, updF, memF, if_neg e1, if_pos hk]
    by_cases hz : z = d.x
    · subst hz; simp [hT.mem_erase_iff]
    · simp [hT.mem_erase_iff, hz]
  · rw [hdo_else h (by omega), if_neg (by omega), if_neg (by omega)]
    simp [stepP, hk]

theorem okP_pf (l : List Dd) : ∀ T : List Ob, (∀ d ∈ l, Nrm d) → T.Nodup → (okP T l ↔ pf (memF T) l) := by
  induction l with
  | nil => intro T _ _; exact Iff.rfl
  | cons d l ih =>
    intro T hn hT
    have hd := hn d (List.mem_cons_self)
    rw [okP, pf, hdo_fit hd, ih _ (fun e he => hn e (List.mem_cons_of_mem _ he)) (hdo_nodup hd hT), hdo_stepP hd hT]

/-- The set behind deeds. -/
def runT (T : List Ob) (l : List Dd) : List Ob := l.foldl (fun T d => (hdo T d.k d.x).2) T
theorem okP_append (l m : List Dd) : ∀ T, okP T (l ++ m) ↔ okP T l ∧ okP (runT T l) m := by
  induction l with
  | nil => intro T; simp [okP, runT]
  | cons d l ih => intro T; simp only [List.cons_append, okP, ih, runT, List.foldl_cons, and_assoc]
theorem runT_append (T : List Ob) (l m : List Dd) : runT T (l ++ m) = runT (runT T l) m := by simp [runT]

/-- The deeds of calls. -/
def dds (s : Nat → Sp) (L : List Nat) : List Dd := L.map fun i => (s i).d
theorem dds_append (s : Nat → Sp) (L M : List Nat) : dds s (L ++ M) = dds s L ++ dds s M := by simp [dds]

section
variable {s : Nat → Sp} {φ : Ob → Bool}
/-- Deeds that change nothing may be left out. -/
theorem pf_filter (q : Nat → Bool) : ∀ (L : List Nat) (φ : Ob → Bool), (∀ i ∈ L, q i = false → (s i).d.k ≠ 1 ∧ (s i).d.k ≠ 3) → pf φ (dds s L) → pf φ (dds s (L.filter q)) := by
  intro L
  induction L with
  | nil => intro φ _ h; exact h
  | cons a L ih =>
    intro φ hq h
    have hL : ∀ i ∈ L, q i = false → (s i).d.k ≠ 1 ∧ (s i).d.k ≠ 3 := fun i hi => hq i (List.mem_cons_of_mem _ hi)
    obtain ⟨h1, h2⟩ : fitP φ (s a).d ∧ pf (stepP φ (s a).d) (dds s L) := h
    cases ha : q a with
    | true =>
      rw [List.filter_cons_of_pos ha]
      exact ⟨h1, ih _ hL h2⟩
    | false =>
      rw [List.filter_cons_of_neg (by simp [ha])]
      obtain ⟨e1, e3⟩ := hq a (List.mem_cons_self) ha
      have : stepP φ (s a).d = φ := by simp [stepP, e1, e3]
      rw [this] at h2
      exact ih _ hL h2

theorem stepP_other {d e : Dd} (h : e.k = 2 ∨ e.x ≠ d.x) : stepP φ e d.x = φ d.x := by
  unfold stepP
  rcases h with h | h
  · simp [h]
  · have h' : ¬ d.x = e.x := fun x => h x.symm
    split
    · simp [updF, h']
    · split
      · simp [updF, h']
      · rfl
theorem stepP_comm {d e : Dd} (h : e.k = 2 ∨ e.x ≠ d.x) : stepP (stepP φ e) d = stepP (stepP φ d) e := by
  rcases h with h | h
  · have : ∀ ψ, stepP ψ e = ψ := fun ψ => by simp [stepP, h]
    rw [this, this]
  · funext z
    have h' : ¬ d.x = e.x := fun x => h x.symm
    unfold stepP updF
    by_cases z1 : z = d.x
    · subst z1
      by_cases d1 : d.k = 1 <;> by_cases d3 : d.k = 3 <;> by_cases e1 : e.k = 1 <;> by_cases e3 : e.k = 3 <;> simp [d1, d3, e1, e3, h']
    · by_cases d1 : d.k = 1 <;> by_cases d3 : d.k = 3 <;> by_cases e1 : e.k = 1 <;> by_cases e3 : e.k = 3 <;> simp [d1, d3, e1, e3, z1]

/-- A deed may be done earlier if the ones that it passes are not of its object. -/
theorem pf_front {d : Dd} {l : List Dd} : ∀ (A : List Nat) (φ : Ob → Bool), (∀ i ∈ A, (s i).d.k = 2 ∨ (s i).d.x ≠ d.x) → pf φ (dds s A ++ d :: l) → fitP φ d ∧ pf (stepP φ d) (dds s A ++ l) := by
  intro A
  induction A with
  | nil => intro φ _ h; exact h
  | cons a A ih =>
    intro φ hA h
    obtain ⟨h1, h2⟩ : fitP φ (s a).d ∧ pf (stepP φ (s a).d) (dds s A ++ d :: l) := h
    obtain ⟨h3, h4⟩ := ih _ (fun i hi => hA i (List.mem_cons_of_mem _ hi)) h2
    have ha := hA a (List.mem_cons_self)
    refine ⟨?_, ?_, ?_⟩
    · unfold fitP at h3 ⊢
      rw [stepP_other ha] at h3
      exact h3
    · unfold fitP at h1 ⊢
      rcases ha with ha | ha
      · exact .inl ha
      · rw [stepP_other (.inr (fun e => ha e.symm))]
        exact h1
    · rw [stepP_comm ha] at h4
      exact h4

/-- Ahead of a deed there is none that gives or takes its object: the deed fits already at the beginning; and each Bad of the object does. -/
theorem pf_fit {d : Dd} {l : List Dd} : ∀ (A : List Nat) (φ : Ob → Bool), (∀ i ∈ A, (s i).d.x = d.x → (s i).d.k ≠ 1 ∧ (s i).d.k ≠ 3) → pf φ (dds s A ++ d :: l) → fitP φ d ∧ ∀ i ∈ A, (s i).d = ⟨4, d.x⟩ → φ d.x = false := by
  intro A
  induction A with
  | nil => intro φ _ h; exact ⟨h.1, by simp⟩
  | cons a A ih =>
    intro φ hA h
    obtain ⟨h1, h2⟩ : fitP φ (s a).d ∧ pf (stepP φ (s a).d) (dds s A ++ d :: l) := h
    obtain ⟨h3, h4⟩ := ih _ (fun i hi => hA i (List.mem_cons_of_mem _ hi)) h2
    have hs : stepP φ (s a).d d.x = φ d.x := by
      by_cases hx : (s a).d.x = d.x
      · obtain ⟨e1, e3⟩ := hA a (List.mem_cons_self) hx
        simp [stepP, e1, e3]
      · exact stepP_other (.inr hx)
    refine ⟨?_, fun i hi hid => ?_⟩
    · unfold fitP at h3 ⊢
      rw [hs] at h3
      exact h3
    · rcases List.mem_cons.1 hi with rfl | hi
      · rw [hid] at h1
        simpa [fitP] using h1
      · rw [← hs]; exact h4 i hi hid
end

/-- An order of a history. -/
def preP (s : Nat → Sp) (a b : Nat) : Prop := ¬ (0 ≤ (s b).t ∧ (s b).t < (s a).f)
structure IsOrd (S : List Sp) (o : List Nat) : Prop where
  good : Good S.length o
  play : okP [] (dds (spOf S) o)
  pre : o.Pairwise (preP (spOf S))
  all : ∀ i, i < S.length → 0 ≤ (spOf S i).t → i ∈ o

theorem okB_iff (S : List Sp) (x : Int) (ins : List Nat) (T : List Ob) : okB S x ins T (latL S ins) = true ↔
    ∃ i : Nat, x = i ∧ i < S.length ∧ i ∉ ins ∧ (hdo T (spOf S i).d.k (spOf S i).d.x).1 = 0 ∧ ∀ j ∈ ins, preP (spOf S) j i := by
  have key : ∀ i : Nat, (¬ (0 ≤ (spOf S i).t ∧ (spOf S i).t < latL S ins)) ↔ ∀ j ∈ ins, preP (spOf S) j i := by
    intro i
    constructor
    · intro h j hj hp
      exact h ⟨hp.1, (latL_iff S ins _ hp.1).2 ⟨j, hj, hp.2⟩⟩
    · rintro h ⟨h1, h2⟩
      obtain ⟨j, hj, hl⟩ := (latL_iff S ins _ h1).1 h2
      exact h j hj ⟨h1, hl⟩
  unfold okB
  constructor
  · intro h
    simp only [Bool.and_eq_true, Bool.not_eq_true', decide_eq_true_eq, decide_eq_false_iff_not, Bool.and_eq_false_iff] at h
    obtain ⟨h1, h2, h3, h4, h5⟩ := h
    refine ⟨x.toNat, by omega, by omega, h3, h4, (key _).1 (fun hh => ?_)⟩
    rcases h5 with h5 | h5
    · exact h5 hh.1
    · exact h5 hh.2
  · rintro ⟨i, rfl, h2, h3, h4, h5⟩
    have h5 := (key _).2 h5
    simp only [Bool.and_eq_true, Bool.not_eq_true', decide_eq_true_eq, decide_eq_false_iff_not, Bool.and_eq_false_iff, Int.toNat_natCast]
    refine ⟨by omega, by omega, h3, h4, ?_⟩
    by_cases ht : 0 ≤ (spOf S i).t
    · exact .inr (fun hl => h5 ⟨ht, hl⟩)
    · exact .inl ht

/-- What Holds answers from here on. -/
theorem holdsR_iff (S : List Sp) : ∀ (q : List Int) (ins : List Nat) (T : List Ob), holdsR S q ins T (latL S ins) = true ↔
    ∃ o : List Nat, q = ints o ∧ (∀ i ∈ o, i < S.length) ∧ o.Nodup ∧ (∀ i ∈ o, i ∉ ins) ∧ okP T (dds (spOf S) o) ∧ o.Pairwise (preP (spOf S)) ∧ (∀ i ∈ ins, ∀ j ∈ o, preP (spOf S) i j) ∧
      ∀ i, i < S.length → 0 ≤ (spOf S i).t → i ∈ ins ∨ i ∈ o := by
  intro q
  induction q with
  | nil =>
    intro ins T
    rw [holdsR, endsB_split]
    constructor
    · intro h
      exact ⟨[], rfl, by simp, List.nodup_nil, by simp, trivial, List.Pairwise.nil, by simp, fun i hi ht => .inl (h i hi ht)⟩
    · rintro ⟨o, ho, -, -, -, -, -, -, h⟩
      cases o with
      | nil => intro i hi ht; exact (h i hi ht).resolve_right (by simp)
      | cons a o => simp [ints] at ho
  | cons x q ih =>
    intro ins T
    rw [holdsR, Bool.and_eq_true, okB_iff]
    constructor
    · rintro ⟨⟨i, rfl, h1, h2, h3, h4⟩, h5⟩
      rw [Int.toNat_natCast, ← latL_snoc, ih] at h5
      obtain ⟨o, rfl, g1, g2, g3, g4, g5, g6, g7⟩ := h5
      refine ⟨i :: o, rfl, ?_, ?_, ?_, ⟨h3, g4⟩, ?_, ?_, ?_⟩
      · intro j hj
        rcases List.mem_cons.1 hj with rfl | hj
        · exact h1
        · exact g1 j hj
      · rw [List.nodup_cons]
        exact ⟨fun hm => g3 i hm (by simp), g2⟩
      · intro j hj
        rcases List.mem_cons.1 hj with rfl | hj
        · exact h2
        · exact fun hm => g3 j hj (List.mem_append_left _ hm)
      · rw [List.pairwise_cons]
        exact ⟨fun j hj => g6 i (by simp) j hj, g5⟩
      · intro j hj k hk
        rcases List.mem_cons.1 hk with rfl | hk
        · exact h4 j hj
        · exact g6 j (List.mem_append_left _ hj) k hk
      · intro j hj ht
        rcases g7 j hj ht with h | h
        · rcases List.mem_append.1 h with h | h
          · exact .inl h
          · exact .inr (by rw [List.mem_singleton.1 h]; exact List.mem_cons_self)
        · exact .inr (List.mem_cons_of_mem _ h)
    · rintro ⟨o, ho, g1, g2, g3, g4, g5, g6, g7⟩
      cases o with
      | nil => simp [ints] at ho
      | cons i o =>
        simp only [ints, List.map_cons, List.cons.injEq] at ho
        obtain ⟨rfl, rfl⟩ := ho
        rw [List.nodup_cons] at g2
        rw [List.pairwise_cons] at g5
        obtain ⟨g41, g42⟩ : (hdo T (spOf S i).d.k (spOf S i).d.x).1 = 0 ∧ okP (hdo T (spOf S i).d.k (spOf S i).d.x).2 (dds (spOf S) o) := g4
        refine ⟨⟨i, rfl, g1 i (List.mem_cons_self), g3 i (List.mem_cons_self), g41, fun j hj => g6 j hj i (List.mem_cons_self)⟩, ?_⟩
        rw [Int.toNat_natCast, ← latL_snoc, ih]
        refine ⟨o, rfl, fun j hj => g1 j (List.mem_cons_of_mem _ hj), g2.2, fun j hj hm => ?_, g42, g5.2, fun j hj k hk => ?_, fun j hj ht => ?_⟩
        · rcases List.mem_append.1 hm with hm | hm
          · exact g3 j (List.mem_cons_of_mem _ hj) hm
          · rw [List.mem_singleton.1 hm] at hj
            exact g2.1 hj
        · rcases List.mem_append.1 hj with hj | hj
          · exact g6 j hj k (List.mem_cons_of_mem _ hk)
          · rw [List.mem_singleton.1 hj]; exact g5.1 k hk
        · rcases g7 j hj ht with h | h
          · exact .inl (List.mem_append_left _ h)
          · rcases List.mem_cons.1 h with rfl | h
            · exact .inl (by simp)
            · exact .inr h

/-- What Holds answers. -/
theorem holdsM_iff (S : List Sp) (q : List Int) : holdsM S q = true ↔ chk S = 0 ∧ ∃ o : List Nat, q = ints o ∧ IsOrd S o := by
  unfold holdsM
  rw [Bool.and_eq_true, decide_eq_true_eq]
  have h := holdsR_iff S q [] []
  rw [show latL S [] = -1 from rfl] at h
  rw [h]
  refine and_congr_right (fun _ => exists_congr (fun o => and_congr_right (fun _ => ?_)))
  constructor
  · rintro ⟨g1, g2, -, g4, g5, -, g7⟩
    exact ⟨⟨g2, g1⟩, g4, g5, fun i hi ht => (g7 i hi ht).resolve_left (by simp)⟩
  · rintro ⟨g1, g2, g3, g4⟩
    exact ⟨g1.2, g1.1, by simp, g2, g3, by simp, fun i hi ht => .inr (g4 i hi ht)⟩
end Go.Proofs.Ytjaabbjobnfmmaa

namespace Go.Proofs.Ytjaabbjobnfmmaa
open Go.RowKit

/-- What is left can be put in an order. -/
structure Cpl (s : Nat → Sp) (n : Nat) (out rest : List Nat) (T : List Ob) : Prop where
  nd : rest.Nodup
  lt : ∀ i ∈ rest, i < n
  no : ∀ i ∈ rest, i ∉ out
  all : ∀ i, i < n → 0 ≤ (s i).t → i ∉ out → i ∈ rest
  pre : rest.Pairwise (preP s)
  play : pf (memF T) (dds s rest)

/-- Calls that may be. -/
structure May (s : Nat → Sp) (n : Nat) : Prop where
  nrm : ∀ i, i < n → Nrm (s i).d
  f0 : ∀ i, i < n → 0 ≤ (s i).f
  ft : ∀ i, i < n → 0 ≤ (s i).t → (s i).f ≤ (s i).t
  tt : ∀ i, i < n → -1 ≤ (s i).t

/-- The most urgent call. -/
structure Urg (s : Nat → Sp) (n : Nat) (out : List Nat) (c : Nat) : Prop where
  lt : c < n
  no : c ∉ out
  t0 : 0 ≤ (s c).t
  le : ∀ i, i < n → i ∉ out → 0 ≤ (s i).t → (s c).t ≤ (s i).t

theorem first_split {p : Nat → Prop} [DecidablePred p] : ∀ {L : List Nat}, (∃ c ∈ L, p c) → ∃ A x R, L = A ++ x :: R ∧ p x ∧ ∀ a ∈ A, ¬ p a := by
  intro L
  induction L with
  | nil => rintro ⟨c, hc, _⟩; cases hc
  | cons a L ih =>
    intro h
    by_cases ha : p a
    · exact ⟨[], a, L, rfl, ha, by simp⟩
    · obtain ⟨c, hc, hp⟩ := h
      rcases List.mem_cons.1 hc with rfl | hc
      · exact absurd hp ha
      · obtain ⟨A, x, R, rfl, hx, hA⟩ := ih ⟨c, hc, hp⟩
        refine ⟨a :: A, x, R, rfl, hx, fun b hb => ?_⟩
        rcases List.mem_cons.1 hb with rfl | hb
        · exact ha
        · exact hA b hb

theorem find_first {t : Nat → Int} {q : Nat → Bool} : ∀ {L : List Nat}, Srt t L → ∀ {y x}, L.find? q = some y → x ∈ L → q x = true → x = y ∨ Bf t y x := by
  intro L
  induction L with
  | nil => intro _ y x h; simp at h
  | cons a L ih =>
    intro hs y x h hx hq
    unfold Srt at hs
    rw [List.pairwise_cons] at hs
    cases ha : q a with
    | true =>
      rw [List.find?_cons_of_pos ha] at h
      cases h
      rcases List.mem_cons.1 hx with rfl | hx
      · exact .inl rfl
      · exact .inr (hs.1 x hx)
    | false =>
      rw [List.find?_cons_of_neg (by simp [ha])] at h
      rcases List.mem_cons.1 hx with rfl | hx
      · rw [ha] at hq; cases hq
      · exact ih hs.2 h hx hq

section
variable {s : Nat → Sp} {n : Nat} {out : List Nat} {T : List Ob}

/-- The exchange. -/
theorem exch {K : Int} {o : Ob} (hK : K = 1 ∨ K = 3) {A R D : List Nat} {x y : Nat} {tc : Int} (hT : T.Nodup) (hM : May s n)
    (h : Cpl s n out (A ++ x :: R) T) (hx : (s x).d = ⟨K, o⟩) (hy : (s y).d = ⟨K, o⟩)
    (hA : ∀ a ∈ A, (s a).f ≤ tc ∧ ((s a).d.x = o → (s a).d.k ≠ 1 ∧ (s a).d.k ≠ 3)) (hxe : (s x).f ≤ tc)
    (hyn : y < n) (hyx : y = x ∨ (s x).t < 0 ∨ (0 ≤ (s y).t ∧ (s y).t ≤ (s x).t)) (hyr : y = x ∨ y ∈ R ∨ (s x).t < 0)
    (hD : ∀ i ∈ D, (s i).d = ⟨4, o⟩) (hDall : ∀ a ∈ A, (s a).d = ⟨4, o⟩ → 0 ≤ (s a).t → a ∈ D)
    (hu : ∀ i, i < n → i ∉ out → 0 ≤ (s i).t → tc ≤ (s i).t) :
    ∃ rest', Cpl s n (out ++ D ++ [y]) rest' (hdo T K o).2 := by
  have hxm : x ∈ A ++ x :: R := by simp
  have hdis := List.nodup_append.1 h.nd
  have hxA : x ∉ A := fun hm => hdis.2.2 x hm x (List.mem_cons_self) rfl
  have hxR : x ∉ R := (List.nodup_cons.1 hdis.2.1).1
  have hAR : ∀ a ∈ A, a ∉ R := fun a ha hr => hdis.2.2 a ha a (List.mem_cons_of_mem _ hr) rfl
  have hyA : y ∉ A := fun hm => by
    have := (hA y hm).2 (by rw [hy])
    rw [hy] at this
    rcases hK with rfl | rfl <;> simp at this
  have hK4 : K ≠ 4 := by rcases hK with rfl | rfl <;> decide
  have hp := List.pairwise_append.1 h.pre
  have hpc := List.pairwise_cons.1 hp.2.1
  obtain ⟨g, hg⟩ : ∃ g : Nat → Nat, g = fun i => if i = y then x else i := ⟨_, rfl⟩
  obtain ⟨q, hq⟩ : ∃ q : Nat → Bool, q = fun i => !decide ((s i).d = ⟨4, o⟩ ∧ (i ∈ A ∨ i ∈ D)) := ⟨_, rfl⟩
  have gy : g y = x := by simp [hg]
  have gn : ∀ i, i ≠ y → g i = i := fun i hi => by simp [hg, hi]
  have qx : q x = true := by simp [hq, hx, hK4]
  have qy : q y = true := by simp [hq, hy, hK4]
  have hgR : ∀ i ∈ R, g i ∈ R ∨ g i = x := fun i hi => by
    by_cases e : i = y
    · subst e; exact .inr gy
    · rw [gn i e]; exact .inl hi
  have mem : ∀ i, i ∈ (A ++ R.map g).filter q → i ∈ A ++ x :: R ∧ q i = true := by
    intro i hi
    obtain ⟨h1, h2⟩ := List.mem_filter.1 hi
    refine ⟨?_, h2⟩
    rcases List.mem_append.1 h1 with h1 | h1
    · exact List.mem_append_left _ h1
    · obtain ⟨j, hj, rfl⟩ := List.mem_map.1 h1
      rcases hgR j hj with e | e
      · exact List.mem_append_right _ (List.mem_cons_of_mem _ e)
      · rw [e]; exact hxm
  refine ⟨(A ++ R.map g).filter q, ?_, fun i hi => h.lt i (mem i hi).1, ?_, ?_, ?_, ?_⟩
  · refine List.Nodup.sublist List.filter_sublist (List.nodup_append.2 ⟨hdis.1, ?_, ?_⟩)
    · unfold List.Nodup
      rw [List.pairwise_map]
      refine (List.nodup_cons.1 hdis.2.1).2.imp_of_mem ?_
      intro a b ha hb hab e
      by_cases e1 : a = y
      · by_cases e2 : b = y
        · exact hab (e1.trans e2.symm)
        · rw [e1, gy, gn b e2] at e
          exact hxR (e ▸ hb)
      · by_cases e2 : b = y
        · rw [e2, gy, gn a e1] at e
          exact hxR (e ▸ ha)
        · rw [gn a e1, gn b e2] at e
          exact hab e
    · rintro a ha b hb rfl
      obtain ⟨j, hj, e⟩ := List.mem_map.1 hb
      rcases hgR j hj with e1 | e1
      · exact hAR a ha (e ▸ e1)
      · exact hxA (by rw [← e1, e]; exact ha)
  · intro i hi hm
    obtain ⟨h1, h2⟩ := List.mem_filter.1 hi
    rcases List.mem_append.1 hm with hm | hm
    · rcases List.mem_append.1 hm with hm | hm
      · exact h.no i (mem i hi).1 hm
      · simp [hq, hD i hm, hm] at h2
    · obtain rfl := List.mem_singleton.1 hm
      rcases List.mem_append.1 h1 with h1 | h1
      · exact hyA h1
      · obtain ⟨j, hj, e⟩ := List.mem_map.1 h1
        by_cases ej : j = i
        · subst ej
          rw [gy] at e
          exact hxR (e ▸ hj)
        · rw [gn j ej] at e; exact ej e
  · intro i hin hit hno
    have hno' : i ∉ out ∧ i ∉ D ∧ i ≠ y := by
      simp only [List.mem_append, List.mem_singleton, not_or] at hno
      exact ⟨hno.1.1, hno.1.2, hno.2⟩
    have hir := h.all i hin hit hno'.1
    have hqi : q i = true := by
      simp only [hq, Bool.not_eq_true', decide_eq_false_iff_not]
      rintro ⟨e, e2⟩
      rcases e2 with e2 | e2
      · exact hno'.2.1 (hDall i e2 e hit)
      · exact hno'.2.1 e2
    refine List.mem_filter.2 ⟨?_, hqi⟩
    rcases List.mem_append.1 hir with hir | hir
    · exact List.mem_append_left _ hir
    · refine List.mem_append_right _ ?_
      rcases List.mem_cons.1 hir with rfl | hir
      · rcases hyr with e | e | e
        · exact absurd e.symm hno'.2.2
        · exact List.mem_map.2 ⟨y, e, gy⟩
        · omega
      · exact List.mem_map.2 ⟨i, hir, gn i hno'.2.2⟩
  · refine List.Pairwise.filter _ (List.pairwise_append.2 ⟨hp.1, ?_, ?_⟩)
    · rw [List.pairwise_map]
      refine hpc.2.imp_of_mem ?_
      intro a b ha hb hab
      have hbn := h.lt b (by simp [hb])
      have hbo := h.no b (by simp [hb])
      by_cases e1 : a = y
      · rw [e1, gy]
        by_cases e2 : b = y
        · rw [e2, gy]
          rintro ⟨h1, h2⟩
          have := hM.ft x (h.lt x hxm) h1
          omega
        · rw [gn b e2]
          rintro ⟨h1, h2⟩
          have := hu b hbn hbo h1
          omega
      · rw [gn a e1]
        by_cases e2 : b = y
        · rw [e2, gy]
          rw [e2] at hab
          rintro ⟨h1, h2⟩
          rcases hyx with e | e | ⟨e, e'⟩
          · rw [e2, e] at hb; exact hxR hb
          · omega
          · exact hab ⟨e, by omega⟩
        · rw [gn b e2]; exact hab
    · intro a ha b hb
      rintro ⟨h1, h2⟩
      obtain ⟨j, hj, rfl⟩ := List.mem_map.1 hb
      have hbm : g j ∈ A ++ x :: R := by
        rcases hgR j hj with e | e
        · exact List.mem_append_right _ (List.mem_cons_of_mem _ e)
        · rw [e]; exact hxm
      have := hu _ (h.lt _ hbm) (h.no _ hbm) h1
      have := (hA a ha).1
      omega
  · have hN : Nrm (⟨K, o⟩ : Dd) := by rw [← hx]; exact hM.nrm x (h.lt x hxm)
    rw [show memF (hdo T K o).2 = stepP (memF T) ⟨K, o⟩ from hdo_stepP hN hT]
    have h1 := pf_filter q _ _ (fun i _ hqi => by
      simp only [hq, Bool.not_eq_false', decide_eq_true_eq] at hqi
      rw [hqi.1]; exact ⟨by simp, by simp⟩) h.play
    rw [List.filter_append, List.filter_cons_of_pos qx, dds_append] at h1
    have h2 := pf_front (s := s) (d := (s x).d) (l := dds s (R.filter q)) (A.filter q) _ (fun i hi => by
      obtain ⟨hi1, hi2⟩ := List.mem_filter.1 hi
      rw [hx]
      by_cases ho : (s i).d.x = o
      · have hkk := (hA i hi1).2 ho
        rcases nrm_ways (hM.nrm i (h.lt i (List.mem_append_left _ hi1))) with e | e | e | e
        · exact absurd e hkk.1
        · exact .inl e
        · exact absurd e hkk.2
        · exfalso
          have hd : (s i).d = ⟨4, o⟩ := by rw [← e, ← ho]
          simp [hq, hd, hi1] at hi2
      · exact .inr ho) h1
    have h3 := h2.2
    rw [hx] at h3
    rw [List.filter_append, dds_append]
    have : dds s ((R.map g).filter q) = dds s (R.filter q) := by
      unfold dds
      rw [List.filter_map, List.map_map]
      have e1 : R.filter (q ∘ g) = R.filter q := by
        refine List.filter_congr (fun i _ => ?_)
        by_cases e : i = y
        · subst e
          simp only [Function.comp_apply, gy, qx, qy]
        · simp only [Function.comp_apply, gn i e]
      rw [e1]
      refine List.map_congr_left (fun i _ => ?_)
      by_cases e : i = y
      · subst e
        simp only [Function.comp_apply, gy, hx, hy]
      · simp only [Function.comp_apply, gn i e]
    rw [this]
    exact h3

/-- A deed that changes nothing is done first. -/
theorem early (hT : T.Nodup) (hM : May s n) {A B : List Nat} {c : Nat} (h : Cpl s n out (A ++ c :: B) T) (hc : Urg s n out c) (hk : (s c).d.k = 2 ∨ (s c).d.k = 4) :
    Cpl s n (out ++ [c]) (A ++ B) (hdo T (s c).d.k (s c).d.x).2 := by
  have hsub : List.Sublist (A ++ B) (A ++ c :: B) := (List.Sublist.refl A).append (List.sublist_cons_self _ _)
  have hdis := List.nodup_append.1 h.nd
  have hcA : c ∉ A := fun hm => hdis.2.2 c hm c (List.mem_cons_self) rfl
  have hcB : c ∉ B := (List.nodup_cons.1 hdis.2.1).1
  refine ⟨h.nd.sublist hsub, fun i hi => h.lt i (hsub.subset hi), ?_, ?_, h.pre.sublist hsub, ?_⟩
  · intro i hi hm
    rcases List.mem_append.1 hm with hm | hm
    · exact h.no i (hsub.subset hi) hm
    · obtain rfl := List.mem_singleton.1 hm
      rcases List.mem_append.1 hi with hi | hi
      · exact hcA hi
      · exact hcB hi
  · intro i hin hit hno
    simp only [List.mem_append, List.mem_singleton, not_or] at hno
    have := h.all i hin hit hno.1
    simp only [List.mem_append, List.mem_cons] at this ⊢
    rcases this with h | h | h
    · exact .inl h
    · exact absurd h hno.2
    · exact .inr h
  · rw [hdo_stepP (hM.nrm c hc.lt) hT]
    have e : stepP (memF T) (s c).d = memF T := by
      unfold stepP
      rcases hk with hk | hk <;> simp [hk]
    rw [e]
    have h1 := pf_filter (fun i => !decide (i = c)) _ _ (fun i _ hqi => by
      simp only [Bool.not_eq_false', decide_eq_true_eq] at hqi
      rw [hqi]
      rcases hk with hk | hk <;> simp [hk]) h.play
    have e2 : (A ++ c :: B).filter (fun i => !decide (i = c)) = A ++ B := by
      rw [List.filter_append, List.filter_cons_of_neg (by simp), List.filter_eq_self.2, List.filter_eq_self.2]
      · intro a ha; simp; rintro rfl; exact hcB ha
      · intro a ha; simp; rintro rfl; exact hcA ha
    rw [e2] at h1
    exact h1

theorem stuck_fit (c : Nat) : stuckB s T c = false ↔ fitP (memF T) (s c).d := by
  unfold stuckB fitP memF
  by_cases hk : (s c).d.k = 2
  · simp [hk]
  · simp [hk]

/-- One round of Line: it doesn't fail, and what is left has an order. -/
theorem cpl_step {σ rest : List Nat} {c : Nat} (hT : T.Nodup) (hM : May s n) (hσ : ∀ i, i < n → i ∈ σ) (hS : Srt (fun i => (s i).t) σ) (hσn : ∀ i ∈ σ, i < n)
    (h : Cpl s n out rest T) (hc : Urg s n out c) : ∃ x, lwho s σ out T c = some x ∧ ∃ rest', Cpl s n (lout s σ out c x) rest' (lheap s T x) := by
  have hcr := h.all c hc.lt hc.t0 hc.no
  obtain ⟨A, B, rfl⟩ := List.append_of_mem hcr
  have hp := List.pairwise_append.1 h.pre
  have hpc := List.pairwise_cons.1 hp.2.1
  have hfc := hM.ft c hc.lt hc.t0
  have hAe : ∀ a ∈ A ++ [c], (s a).f ≤ (s c).t := by
    intro a ha
    rcases List.mem_append.1 ha with ha | ha
    · have := hp.2.2 a ha c (List.mem_cons_self)
      unfold preP at this
      have := hc.t0
      omega
    · rw [List.mem_singleton.1 ha]; exact hfc
  by_cases hsimple : stuckB s T c = false ∧ ((s c).d.k = 2 ∨ (s c).d.k = 4)
  · refine ⟨c, by unfold lwho; rw [hsimple.1]; rfl, A ++ B, ?_⟩
    have hk1 : (s c).d.k ≠ 1 := by rcases hsimple.2 with e | e <;> rw [e] <;> decide
    unfold lout lheap
    rw [if_neg hk1]
    exact early hT hM h hc hsimple.2
  · -- there is a call of the object that gives or takes, at c or ahead of it
    have hex : ∃ b ∈ A ++ [c], (s b).d.x = (s c).d.x ∧ ((s b).d.k = 1 ∨ (s b).d.k = 3) := by
      rcases nrm_ways (hM.nrm c hc.lt) with e | e | e | e
      · exact ⟨c, by simp, rfl, .inl e⟩
      · exfalso
        exact hsimple ⟨by simp [stuckB, e], .inl e⟩
      · exact ⟨c, by simp, rfl, .inr e⟩
      · have hst : stuckB s T c ≠ false := fun hh => hsimple ⟨hh, .inr e⟩
        apply Classical.byContradiction
        intro hno
        have hpl := h.play
        rw [dds_append] at hpl
        have := (pf_fit (s := s) (d := (s c).d) (l := dds s B) A _ (fun i hi hix => by
          constructor
          · intro hk; exact hno ⟨i, List.mem_append_left _ hi, hix, .inl hk⟩
          · intro hk; exact hno ⟨i, List.mem_append_left _ hi, hix, .inr hk⟩) hpl).1
        exact hst ((stuck_fit c).2 this)
    obtain ⟨A1, x, R0, hAc, ⟨hxo, hxk⟩, hA1⟩ := first_split hex
    have hrest : A ++ c :: B = A1 ++ x :: (R0 ++ B) := by
      have : A ++ c :: B = (A ++ [c]) ++ B := by simp
      rw [this, hAc]; simp
    rw [hrest] at h
    have hcx : c = x ∨ c ∈ R0 ++ B := by
      have : c ∈ A1 ++ x :: R0 := by rw [← hAc]; simp
      rcases List.mem_append.1 this with hm | hm
      · exfalso
        -- c is the last one of A ++ [c]; x stands at or behind it
        have hnd : (A ++ [c]).Nodup := by
          have : List.Sublist (A ++ [c]) (A ++ c :: B) := (List.Sublist.refl A).append ((List.nil_sublist B).cons_cons c)
          have hnd0 := h.nd
          rw [← hrest] at hnd0
          exact hnd0.sublist this
        rw [hAc] at hnd
        have hlast : (A ++ [c]).getLast? = some c := by simp
        rw [hAc] at hlast
        have hl2 : c ∈ x :: R0 := by
          rw [List.getLast?_append] at hlast
          cases hgl : (x :: R0).getLast? with
          | none => simp at hgl
          | some z =>
            rw [hgl] at hlast
            simp at hlast
            subst hlast
            exact List.mem_of_getLast? hgl
        exact (List.nodup_append.1 hnd).2.2 c hm c hl2 rfl
      · rcases List.mem_cons.1 hm with e | e
        · exact .inl e
        · exact .inr (List.mem_append_left _ e)
    have hA1e : ∀ a ∈ A1, (s a).f ≤ (s c).t := fun a ha => hAe a (by rw [hAc]; exact List.mem_append_left _ ha)
    have hxe : (s x).f ≤ (s c).t := hAe x (by rw [hAc]; simp)
    have hA1o : ∀ a ∈ A1, (s a).d.x = (s c).d.x → (s a).d.k ≠ 1 ∧ (s a).d.k ≠ 3 := fun a ha hax => ⟨fun hk => hA1 a ha ⟨hax, .inl hk⟩, fun hk => hA1 a ha ⟨hax, .inr hk⟩⟩
    have hxm : x ∈ A1 ++ x :: (R0 ++ B) := by simp
    have hxn := h.lt x hxm
    have hxout := h.no x hxm
    have hpl := h.play
    rw [dds_append] at hpl
    obtain ⟨hfx, hbads⟩ := pf_fit (s := s) (d := (s x).d) (l := dds s (R0 ++ B)) A1 _ (fun i hi hix => hA1o i hi (hix.trans hxo)) hpl
    obtain ⟨K, hKd⟩ : ∃ K, K = (s x).d.k := ⟨_, rfl⟩
    rw [← hKd] at hxk
    have hxd : (s x).d = ⟨K, (s c).d.x⟩ := by rw [hKd, ← hxo]
    have hφ : memF T (s c).d.x = decide (K = 3) := by
      rcases hfx with e | e
      · rw [← hKd] at e
        rcases hxk with e' | e' <;> omega
      · rw [hxd] at e; exact e
    -- the one that Line takes
    have hw : ∃ y, lwho s σ out T c = some y ∧ (s y).d = ⟨K, (s c).d.x⟩ ∧ y < n ∧ (y = x ∨ (s x).t < 0 ∨ (0 ≤ (s y).t ∧ (s y).t ≤ (s x).t)) ∧ (y = x ∨ y ∈ R0 ++ B ∨ (s x).t < 0) := by
      cases hst : stuckB s T c with
      | false =>
        have hfit := (stuck_fit c).1 hst
        have hck : (s c).d.k = K := by
          have hne : ¬ ((s c).d.k = 2 ∨ (s c).d.k = 4) := fun e => hsimple ⟨hst, e⟩
          rcases hfit with e | e
          · exact absurd (.inl e) hne
          · rw [hφ] at e
            have e' : (K = 3) ↔ ((s c).d.k = 3) := by
              have := congrArg (· = true) e
              simpa using this
            rcases nrm_ways (hM.nrm c hc.lt) with h1 | h1 | h1 | h1
            · rcases hxk with h2 | h2
              · omega
              · have := e'.1 h2; omega
            · exact absurd (.inl h1) hne
            · have := e'.2 h1; omega
            · exact absurd (.inr h1) hne
        refine ⟨c, by unfold lwho; rw [hst]; rfl, by rw [← hck], hc.lt, ?_, ?_⟩
        · by_cases ht : 0 ≤ (s x).t
          · exact .inr (.inr ⟨hc.t0, hc.le x hxn hxout ht⟩)
          · exact .inr (.inl (by omega))
        · rcases hcx with e | e
          · exact .inl e
          · exact .inr (.inl e)
      | true =>
        have hkey : helpK s T c = ⟨K, (s c).d.x⟩ := by
          unfold helpK
          by_cases hm : (s c).d.x ∈ T
          · have : K = 3 := by simpa [memF, hm] using hφ
            rw [if_pos hm, this]
          · have : K ≠ 3 := by simpa [memF, hm] using hφ
            have : K = 1 := by rcases hxk with e | e <;> omega
            rw [if_neg hm, this]
        have hxf : fitB s out c x = true := by simp [fitB, hxout, hxe]
        have hxl : x ∈ byL s σ (helpK s T c) := by rw [hkey]; exact byL_mem.2 ⟨hσ x hxn, hxd⟩
        have hsome : ((byL s σ (helpK s T c)).find? (fitB s out c)).isSome := by
          rw [List.find?_isSome]; exact ⟨x, hxl, hxf⟩
        obtain ⟨y, hy⟩ := Option.isSome_iff_exists.1 hsome
        have hy' : helpI s σ out T c = some y := hy
        have hym := helpI_mem hy'
        have hyn := hσn y hym.1
        have hfirst := find_first (t := fun i => (s i).t) (hS.sublist List.filter_sublist) hy hxl hxf
        have hyd : (s y).d = ⟨K, (s c).d.x⟩ := by rw [hym.2.1, hkey]
        have hbf : y = x ∨ (s x).t < 0 ∨ (0 ≤ (s y).t ∧ (s y).t ≤ (s x).t) := by
          rcases hfirst with e | e
          · exact .inl e.symm
          · rcases e with e | e
            · obtain ⟨e1, e2⟩ := e
              rcases e2 with e2 | e2
              · exact .inr (.inl e2)
              · exact .inr (.inr ⟨e1, by simp only at e2; omega⟩)
            · obtain ⟨e1, _⟩ := e
              simp only at e1
              by_cases ht : 0 ≤ (s x).t
              · exact .inr (.inr ⟨by omega, by omega⟩)
              · exact .inr (.inl (by omega))
        refine ⟨y, by unfold lwho; rw [hst]; exact hy', hyd, hyn, hbf, ?_⟩
        by_cases ht : 0 ≤ (s y).t
        · have hyr := h.all y hyn ht hym.2.2.1
          rcases List.mem_append.1 hyr with hm | hm
          · exfalso
            have := hA1o y hm (by rw [hyd])
            rw [hyd] at this
            rcases hxk with e | e
            · exact this.1 e
            · exact this.2 e
          · rcases List.mem_cons.1 hm with e | e
            · exact .inl e
            · exact .inr (.inl e)
        · rcases hbf with e | e | e
          · exact .inl e
          · exact .inr (.inr e)
          · omega
    obtain ⟨y, hwy, hyd, hyn, hyx, hyr⟩ := hw
    refine ⟨y, hwy, ?_⟩
    have hheap : lheap s T y = (hdo T K (s c).d.x).2 := by unfold lheap; rw [hyd]
    rw [hheap]
    have hAA : ∀ a ∈ A1, (s a).f ≤ (s c).t ∧ ((s a).d.x = (s c).d.x → (s a).d.k ≠ 1 ∧ (s a).d.k ≠ 3) := fun a ha => ⟨hA1e a ha, hA1o a ha⟩
    rcases hxk with e | e
    · have hl : lout s σ out c y = out ++ badI s σ out c ++ [y] := by unfold lout; rw [hyd, if_pos e]
      rw [hl]
      refine exch (.inl e) hT hM h hxd hyd hAA hxe hyn hyx hyr (fun i hi => (badI_mem hi).2.1) (fun a ha had hat => ?_) hc.le
      have ham : a ∈ A1 ++ x :: (R0 ++ B) := List.mem_append_left _ ha
      refine List.mem_filter.2 ⟨byL_mem.2 ⟨hσ a (h.lt a ham), had⟩, ?_⟩
      simp [badB, h.no a ham, hat, hA1e a ha]
    · have hl : lout s σ out c y = out ++ [] ++ [y] := by unfold lout; rw [hyd, if_neg (by simp only; omega)]; simp
      rw [hl]
      refine exch (.inr e) hT hM h hxd hyd hAA hxe hyn hyx hyr (by simp) (fun a ha had hat => ?_) hc.le
      have := hbads a ha (by rw [had, hxo])
      rw [hxo, hφ] at this
      simp [e] at this
end
end Go.Proofs.Ytjaabbjobnfmmaa

namespace Go.Proofs.Ytjaabbjobnfmmaa
open Go.RowKit

/-- What is done so far begins an order. -/
structure Snd (s : Nat → Sp) (n : Nat) (out : List Nat) (T : List Ob) : Prop where
  good : Good n out
  play : okP [] (dds s out)
  run : runT [] (dds s out) = T
  pre : out.Pairwise (preP s)
  lat : ∀ i ∈ out, ∀ j, j < n → j ∉ out → 0 ≤ (s j).t → (s i).f ≤ (s j).t

theorem runT_nodup (l : List Dd) : ∀ T : List Ob, T.Nodup → (runT T l).Nodup := by
  induction l with
  | nil => intro T h; exact h
  | cons d l ih => intro T h; exact ih _ (hdo_nd h d.k d.x)

section
variable {s : Nat → Sp} {n : Nat} {out : List Nat} {T : List Ob}
theorem Snd.nd (h : Snd s n out T) : T.Nodup := by rw [← h.run]; exact runT_nodup _ _ List.nodup_nil

theorem Snd.snoc (h : Snd s n out T) {e : Nat} {tc : Int} (hen : e < n) (heo : e ∉ out) (hef : (s e).f ≤ tc) (hu : ∀ j, j < n → j ∉ out → 0 ≤ (s j).t → tc ≤ (s j).t)
    (hd : (hdo T (s e).d.k (s e).d.x).1 = 0) : Snd s n (out ++ [e]) (hdo T (s e).d.k (s e).d.x).2 := by
  have e1 : dds s (out ++ [e]) = dds s out ++ [(s e).d] := by simp [dds]
  refine ⟨h.good.snoc hen heo, ?_, ?_, ?_, ?_⟩
  · rw [e1, okP_append, h.run]
    exact ⟨h.play, hd, trivial⟩
  · rw [e1, runT_append, h.run]
    rfl
  · rw [List.pairwise_append]
    refine ⟨h.pre, List.pairwise_singleton _ _, fun a ha b hb => ?_⟩
    rw [List.mem_singleton.1 hb]
    rintro ⟨h1, h2⟩
    have := h.lat a ha e hen heo h1
    omega
  · intro i hi j hj hjo hjt
    have hjo' : j ∉ out := fun hm => hjo (List.mem_append_left _ hm)
    rcases List.mem_append.1 hi with hi | hi
    · exact h.lat i hi j hj hjo' hjt
    · rw [List.mem_singleton.1 hi]
      have := hu j hj hjo' hjt
      omega

theorem Snd.bads {o : Ob} {tc : Int} (ho : o ∉ T) : ∀ (D : List Nat) {out : List Nat}, Snd s n out T → D.Nodup → (∀ i ∈ D, i < n ∧ (s i).d = ⟨4, o⟩ ∧ i ∉ out ∧ (s i).f ≤ tc) →
    (∀ j, j < n → j ∉ out → 0 ≤ (s j).t → tc ≤ (s j).t) → Snd s n (out ++ D) T := by
  intro D
  induction D with
  | nil => intro out h _ _ _; simpa using h
  | cons e D ih =>
    intro out h hnd hD hu
    obtain ⟨h1, h2, h3, h4⟩ := hD e (List.mem_cons_self)
    rw [List.nodup_cons] at hnd
    have hdo' : hdo T (s e).d.k (s e).d.x = (0, T) := by
      rw [h2]
      simp [hdo, ho]
    have := h.snoc h1 h3 h4 hu (by rw [hdo'])
    rw [hdo'] at this
    have h5 := ih this hnd.2 (fun i hi => by
      obtain ⟨g1, g2, g3, g4⟩ := hD i (List.mem_cons_of_mem _ hi)
      refine ⟨g1, g2, fun hm => ?_, g4⟩
      rcases List.mem_append.1 hm with hm | hm
      · exact g3 hm
      · rw [List.mem_singleton.1 hm] at hi; exact hnd.1 hi) (fun j hj hjo hjt => hu j hj (fun hm => hjo (List.mem_append_left _ hm)) hjt)
    simpa using h5

theorem lwho_fit {σ : List Nat} {c x : Nat} (h : lwho s σ out T c = some x) : fitP (memF T) (s x).d ∧ ((s x).d.k = 1 → (s x).d.x = (s c).d.x) := by
  unfold lwho at h
  split at h
  · have hm := helpI_mem h
    rw [hm.2.1]
    unfold helpK fitP memF
    refine ⟨.inr ?_, fun _ => rfl⟩
    by_cases hT : (s c).d.x ∈ T <;> simp [hT]
  · next hst =>
    cases h
    exact ⟨(stuck_fit c).1 (by simpa using hst), fun _ => rfl⟩

theorem snd_step {σ : List Nat} {c x : Nat} (hM : May s n) (hσn : ∀ i ∈ σ, i < n) (hnd : σ.Nodup) (h : Snd s n out T) (hc : Urg s n out c) (hx : lwho s σ out T c = some x) :
    Snd s n (lout s σ out c x) (lheap s T x) := by
  obtain ⟨hxn, hxo⟩ := lwho_mem hσn hc.lt hc.no hx
  obtain ⟨hfit, hobj⟩ := lwho_fit hx
  have hcode := (hdo_fit (hM.nrm x hxn)).2 hfit
  have hxf : (s x).f ≤ (s c).t := by
    unfold lwho at hx
    split at hx
    · exact (helpI_mem hx).2.2.2
    · cases hx; exact hM.ft c hc.lt hc.t0
  unfold lout lheap
  by_cases hk : (s x).d.k = 1
  · rw [if_pos hk]
    have hoT : (s c).d.x ∉ T := by
      rw [← hobj hk]
      rcases hfit with e | e
      · omega
      · simpa [memF, hk] using e
    have hb := h.bads (tc := (s c).t) hoT (badI s σ out c) ((hnd.sublist List.filter_sublist).sublist List.filter_sublist) (fun i hi => by
      obtain ⟨g1, g2, g3, g4, g5⟩ := badI_mem hi
      exact ⟨hσn i g1, g2, g3, g5⟩) hc.le
    refine hb.snoc hxn (fun hm => ?_) hxf (fun j hj hjo hjt => hc.le j hj (fun hm => hjo (List.mem_append_left _ hm)) hjt) hcode
    rcases List.mem_append.1 hm with hm | hm
    · exact hxo hm
    · have := (badI_mem hm).2.1
      rw [this] at hk
      simp at hk
  · rw [if_neg hk]
    exact h.snoc hxn hxo hxf hc.le hcode

theorem lout_sub {σ : List Nat} {c x : Nat} : ∀ i ∈ out, i ∈ lout s σ out c x := by
  intro i hi
  unfold lout
  split <;> simp [hi]
theorem Urg.sub {c : Nat} {out' : List Nat} (h : Urg s n out c) (hs : ∀ i ∈ out, i ∈ out') (hc : c ∉ out') : Urg s n out' c := ⟨h.lt, hc, h.t0, fun i hi hio => h.le i hi (fun hm => hio (hs i hm))⟩

/-- The rounds for c: what is done begins an order. -/
theorem lrun_snd {σ : List Nat} {c : Nat} (hM : May s n) (hσn : ∀ i ∈ σ, i < n) (hnd : σ.Nodup) : ∀ (f : Nat) {out : List Nat} {T : List Ob} {o : List Nat} {T' : List Ob}, Snd s n out T → (c ∉ out → Urg s n out c) → lrun s σ c f out T = some (o, T') →
    Snd s n o T' ∧ c ∈ o ∧ ∀ i ∈ out, i ∈ o := by
  intro f
  induction f with
  | zero => intro out T o T' _ _ h; cases h
  | succ f ih =>
    intro out T o T' hs hu h
    rw [lrun] at h
    split at h
    · next hco => cases h; exact ⟨hs, hco, fun i hi => hi⟩
    · next hco =>
      split at h
      · cases h
      · next x hx =>
        have h1 := snd_step hM hσn hnd hs (hu hco) hx
        obtain ⟨g1, g2, g3⟩ := ih h1 (fun hc' => (hu hco).sub lout_sub hc') h
        exact ⟨g1, g2, fun i hi => g3 i (lout_sub i hi)⟩

/-- The rounds for c don't fail where what is left has an order. -/
theorem lrun_cpl {σ : List Nat} {c : Nat} (hM : May s n) (hσ : ∀ i, i < n → i ∈ σ) (hS : Srt (fun i => (s i).t) σ) (hσn : ∀ i ∈ σ, i < n) (hnd : σ.Nodup) : ∀ (f : Nat) {out rest : List Nat} {T : List Ob}, Snd s n out T → (c ∉ out → Urg s n out c) → Cpl s n out rest T →
    n < f + out.length → ∃ o T' rest', lrun s σ c f out T = some (o, T') ∧ Cpl s n o rest' T' := by
  intro f
  induction f with
  | zero =>
    intro out rest T hs _ _ hf
    have := hs.good.len
    omega
  | succ f ih =>
    intro out rest T hs hu hcp hf
    by_cases hco : c ∈ out
    · exact ⟨out, T, rest, lrun_done hco, hcp⟩
    · obtain ⟨x, hx, rest', hr⟩ := cpl_step hs.nd hM hσ hS hσn hcp (hu hco)
      have h1 := snd_step hM hσn hnd hs (hu hco) hx
      have hl := lout_len (s := s) (σ := σ) (out := out) (c := c) (x := x)
      obtain ⟨o, T', rest2, h2, h3⟩ := ih h1 (fun hc' => (hu hco).sub lout_sub hc') hr (by omega)
      exact ⟨o, T', rest2, by rw [lrun_step hco hx, h2], h3⟩

/-- The head of what is left of σ is the most urgent one. -/
theorem urg_head {σ P l : List Nat} {c : Nat} (hσ : ∀ i, i < n → i ∈ σ) (hS : Srt (fun i => (s i).t) σ) (hσn : ∀ i ∈ σ, i < n) (he : σ = P ++ c :: l) (hP : ∀ i ∈ P, i ∈ out) (ht : 0 ≤ (s c).t) (hco : c ∉ out) : Urg s n out c := by
  refine ⟨hσn c (by rw [he]; simp), hco, ht, fun i hi hio hit => ?_⟩
  have h1 := hσ i hi
  rw [he] at h1 hS
  rcases List.mem_append.1 h1 with h1 | h1
  · exact absurd (hP i h1) hio
  · rcases List.mem_cons.1 h1 with rfl | h1
    · exact Int.le_refl _
    · have := (List.pairwise_cons.1 (List.pairwise_append.1 hS).2.1).1 i h1
      unfold Bf ltT at this
      simp only at this
      omega

theorem lall_snd {σ : List Nat} (hM : May s n) (hσ : ∀ i, i < n → i ∈ σ) (hS : Srt (fun i => (s i).t) σ) (hσn : ∀ i ∈ σ, i < n) (hnd : σ.Nodup) (N : Nat) : ∀ (l P : List Nat) {out : List Nat} {T : List Ob} {o : List Nat} {T' : List Ob}, σ = P ++ l → (∀ i ∈ P, i ∈ out) →
    Snd s n out T → lall s σ N l out T = some (o, T') → Snd s n o T' ∧ ∀ i, i < n → 0 ≤ (s i).t → i ∈ o := by
  intro l
  induction l with
  | nil =>
    intro P out T o T' he hP hs h
    cases h
    refine ⟨hs, fun i hi _ => hP i ?_⟩
    have := hσ i hi
    rw [he] at this
    simpa using this
  | cons c l ih =>
    intro P out T o T' he hP hs h
    rw [lall] at h
    split at h
    · next hct =>
      cases h
      refine ⟨hs, fun i hi hit => ?_⟩
      have h1 := hσ i hi
      rw [he] at h1 hS
      rcases List.mem_append.1 h1 with h1 | h1
      · exact hP i h1
      · rcases List.mem_cons.1 h1 with rfl | h1
        · omega
        · have := (List.pairwise_cons.1 (List.pairwise_append.1 hS).2.1).1 i h1
          unfold Bf ltT at this
          simp only at this
          omega
    · next hct =>
      split at h
      · cases h
      · next out' T1 hr =>
        obtain ⟨g1, g2, g3⟩ := lrun_snd hM hσn hnd N hs (urg_head hσ hS hσn he hP (by omega)) hr
        refine ih (P ++ [c]) (by rw [he]; simp) (fun i hi => ?_) g1 h
        rcases List.mem_append.1 hi with hi | hi
        · exact g3 i (hP i hi)
        · rw [List.mem_singleton.1 hi]; exact g2

theorem lall_cpl {σ : List Nat} (hM : May s n) (hσ : ∀ i, i < n → i ∈ σ) (hS : Srt (fun i => (s i).t) σ) (hσn : ∀ i ∈ σ, i < n) (hnd : σ.Nodup) (N : Nat) (hN : n < N) : ∀ (l P : List Nat) {out rest : List Nat} {T : List Ob}, σ = P ++ l → (∀ i ∈ P, i ∈ out) →
    Snd s n out T → Cpl s n out rest T → ∃ r, lall s σ N l out T = some r := by
  intro l
  induction l with
  | nil => intro P out rest T _ _ _ _; exact ⟨_, rfl⟩
  | cons c l ih =>
    intro P out rest T he hP hs hcp
    rw [lall]
    split
    · exact ⟨_, rfl⟩
    · next hct =>
      have hu := urg_head (out := out) hσ hS hσn he hP (by omega)
      obtain ⟨o, T', rest', hr, hcp'⟩ := lrun_cpl hM hσ hS hσn hnd N hs hu hcp (by omega)
      rw [hr]
      obtain ⟨g1, g2, g3⟩ := lrun_snd hM hσn hnd N hs hu hr
      refine ih (P ++ [c]) (by rw [he]; simp) (fun i hi => ?_) g1 hcp'
      rcases List.mem_append.1 hi with hi | hi
      · exact g3 i (hP i hi)
      · rw [List.mem_singleton.1 hi]; exact g2
end

theorem chk_nrm {S : List Sp} (h : chk S = 0) : May (spOf S) S.length := by
  have key : ∀ i, i < S.length → mayB (spOf S i) = true := fun i hi => by rw [spOf_get hi]; exact (chk_may h).2 _ (List.getElem_mem hi)
  have key2 : ∀ i, i < S.length → (1 ≤ (spOf S i).d.k ∧ (spOf S i).d.k ≤ 4 ∧ ((spOf S i).d.k ≠ 2 ∨ (spOf S i).d.x = zob)) ∧ (0 ≤ (spOf S i).f ∧ (spOf S i).f ≤ 9007199254740991 ∧ ((spOf S i).t = -1 ∨ ((spOf S i).f ≤ (spOf S i).t ∧ (spOf S i).t ≤ 9007199254740991))) := by
    intro i hi
    have := key i hi
    simpa only [mayB, kindB, timeB, Bool.and_eq_true, decide_eq_true_eq] using this
  refine ⟨fun i hi => ?_, fun i hi => ?_, fun i hi ht => ?_, fun i hi => ?_⟩
  · obtain ⟨⟨h1, h2, h3⟩, _⟩ := key2 i hi
    exact ⟨h1, h2, fun hk => h3.resolve_left (fun hh => hh hk)⟩
  · exact (key2 i hi).2.1
  · have := (key2 i hi).2.2.2
    omega
  · have := (key2 i hi).2
    omega
theorem sigma_all {S : List Sp} : ∀ i, i < S.length → i ∈ sigma S := fun _ hi => (sortL_perm _ _).mem_iff.2 (List.mem_range.2 hi)
theorem sigma_srt {S : List Sp} (h : chk S = 0) : Srt (fun i => (spOf S i).t) (sigma S) := sortL_srt (chk_t h)
theorem snd_nil (s : Nat → Sp) (n : Nat) : Snd s n [] [] := ⟨⟨List.nodup_nil, by simp⟩, trivial, rfl, List.Pairwise.nil, by simp⟩

/-- What Line answers is an order. -/
theorem line_sound {S : List Sp} {o : List Nat} (hc : chk S = 0) (h : lineM S = some o) : IsOrd S o := by
  unfold lineM at h
  cases hl : lall (spOf S) (sigma S) (S.length + 1) (sigma S) [] [] with
  | none => rw [hl] at h; cases h
  | some r =>
    rw [hl] at h
    cases h
    obtain ⟨h1, h2⟩ := lall_snd (chk_nrm hc) sigma_all (sigma_srt hc) sigma_lt sigma_nodup (S.length + 1) (sigma S) [] (o := r.1) (T' := r.2) rfl (by simp) (snd_nil _ _) hl
    exact ⟨h1.good, h1.play, h1.pre, h2⟩

/-- Where there is an order Line answers one. -/
theorem line_complete {S : List Sp} {o : List Nat} (hc : chk S = 0) (h : IsOrd S o) : ∃ o', lineM S = some o' := by
  have hM := chk_nrm hc
  have hcp : Cpl (spOf S) S.length [] o [] := by
    refine ⟨h.good.1, h.good.2, by simp, fun i hi ht _ => h.all i hi ht, h.pre, ?_⟩
    exact (okP_pf _ _ (fun d hd => by
      obtain ⟨i, hi, rfl⟩ := List.mem_map.1 hd
      exact hM.nrm i (h.good.2 i hi)) List.nodup_nil).1 h.play
  obtain ⟨r, hr⟩ := lall_cpl hM sigma_all (sigma_srt hc) sigma_lt sigma_nodup (S.length + 1) (by omega) (sigma S) [] rfl (by simp) (snd_nil _ _) hcp
  exact ⟨r.1, by unfold lineM; rw [hr]; rfl⟩
end Go.Proofs.Ytjaabbjobnfmmaa

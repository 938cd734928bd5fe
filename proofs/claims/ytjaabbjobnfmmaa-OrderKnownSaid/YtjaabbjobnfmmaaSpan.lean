/-
  Calls of a history: what they are, how they lie in memory, which may be.
-/
import Derived.Test.YtjaabbjobnfmmaaWorks
namespace Go.Proofs.Ytjaabbjobnfmmaa
open Go.RowKit

/-- A call: its deed, its beginning, its end. -/
structure Sp where
  d : Dd
  f : Int
  t : Int
deriving DecidableEq

def Sp.wf (x : Sp) : Prop := x.d.wf ∧ (Lit.int .i64 x.f).wf = true ∧ (Lit.int .i64 x.t).wf = true
def Sp.enc (x : Sp) : List Value := [.int .i64 x.d.k, .int .i64 x.d.x.c, .int .i64 x.d.x.s, .int .i64 x.d.x.o, .int .i64 x.f, .int .i64 x.t]
theorem enc6 : ∀ x : Sp, x.enc.length = 6 := fun _ => rfl
theorem enc6_one : ∀ x : Sp, ∀ u ∈ x.enc, u.oneCell' = true := by
  intro x u hu
  simp [Sp.enc] at hu
  rcases hu with rfl | rfl | rfl | rfl | rfl | rfl <;> rfl

/-- A slice of calls: where there is an element the address is ⟨b, off⟩; the cells hold the calls l. -/
structure SpansIn (w : World) (a : Option Addr) (b off : Nat) (l : List Sp) : Prop where
  addr : 0 < l.length → a = some ⟨b, off, none⟩
  cells : ∀ j, j < l.length * 6 → w.cell? ⟨b, off + j, none⟩ = (flat Sp.enc l)[j]?
  lt : 0 < l.length → b < w.heap.size
  wf : ∀ x ∈ l, x.wf
  small : l.length ≤ 2932031007402

section
variable {w w' : World} {a : Option Addr} {b off : Nat} {l : List Sp} {X : Nat → Prop}
theorem SpansIn.frX (h : SpansIn w a b off l) (hf : Fr X w w') (hb : 0 < l.length → ¬ X b) : SpansIn w' a b off l :=
  ⟨h.addr, fun j hj => (hf.cell (p := ⟨b, off + j, none⟩) (h.lt (by omega)) (hb (by omega))).trans (h.cells j hj), fun hl => hf.lt (h.lt hl), h.wf, h.small⟩
theorem SpansIn.fr0 (h : SpansIn w a b off l) (hf : Fr0 w w') : SpansIn w' a b off l := h.frX hf (fun _ h => h)
theorem SpansIn.at (h : SpansIn w a b off l) (i : Nat) (hi : i < l.length) :
    w.cell? ⟨b, off + i * 6, none⟩ = some (.int .i64 l[i].d.k) ∧ w.cell? ⟨b, off + i * 6 + 1, none⟩ = some (.int .i64 l[i].d.x.c) ∧ w.cell? ⟨b, off + i * 6 + 2, none⟩ = some (.int .i64 l[i].d.x.s) ∧
    w.cell? ⟨b, off + i * 6 + 3, none⟩ = some (.int .i64 l[i].d.x.o) ∧ w.cell? ⟨b, off + i * 6 + 4, none⟩ = some (.int .i64 l[i].f) ∧ w.cell? ⟨b, off + i * 6 + 5, none⟩ = some (.int .i64 l[i].t) := by
  have e := flat_get enc6 l i hi
  exact ⟨(h.cells _ (by omega)).trans (e 0 (by omega)), (h.cells _ (by omega)).trans (e 1 (by omega)), (h.cells _ (by omega)).trans (e 2 (by omega)), (h.cells _ (by omega)).trans (e 3 (by omega)), (h.cells _ (by omega)).trans (e 4 (by omega)), (h.cells _ (by omega)).trans (e 5 (by omega))⟩
theorem size50 (W : World) : (sizeOf 50).run Try.prog W = .ok 6 W := by go_simp
theorem SpansIn.index (h : SpansIn w a b off l) (cap k : Nat) (hk : k < l.length) (W : World) :
    (Instr.indexAt 45 (.slice a l.length cap) (.int .i64 k)).run Try.prog W = .ok (.pointer (some ⟨b, off + k * 6, none⟩)) W :=
  index_of Try.underlying45 W (size50 W) h.addr cap k hk
theorem SpansIn.take (h : SpansIn w a b off l) (n cap : Nat) : SpansIn w (cutA a cap 0 6) b off (l.take n) := by
  refine ⟨fun h0 => cutA_zero (h.addr (by simp at h0; omega)), fun j hj => ?_, fun h0 => h.lt (by simp at h0; omega), fun d hd => h.wf d (List.mem_of_mem_take hd), by have := h.small; simp; omega⟩
  rw [h.cells j (by simp at hj; omega), ← flat_take enc6, List.getElem?_take, if_pos (by simp at hj; omega)]
end

/-- The greatest number. -/
def maxN : Int := 9007199254740991
/-- A call's deed may be. -/
def kindB (d : Dd) : Bool := decide (1 ≤ d.k ∧ d.k ≤ 4 ∧ (d.k ≠ 2 ∨ d.x = zob))
/-- A call's times may be. -/
def timeB (f t : Int) : Bool := decide (0 ≤ f ∧ f ≤ 9007199254740991 ∧ (t = -1 ∨ (f ≤ t ∧ t ≤ 9007199254740991)))
/-- A call may be. -/
def mayB (x : Sp) : Bool := kindB x.d && timeB x.f x.t
/-- What Check answers. -/
def chk (l : List Sp) : Int := if 256 < l.length then 5 else if l.all mayB then 0 else 2

/-- The ways of a call's times. -/
theorem time_ways (f t : Int) : (f < 0 ∧ timeB f t = false) ∨ (0 ≤ f ∧ 9007199254740991 < max f t ∧ (f > 9007199254740991 ∨ (f ≤ 9007199254740991 ∧ t ≠ -1 ∧ f ≤ t ∧ 9007199254740991 < t)) ∧ timeB f t = false) ∨
    (0 ≤ f ∧ f ≤ 9007199254740991 ∧ max f t ≤ 9007199254740991 ∧ t = -1 ∧ timeB f t = true) ∨ (0 ≤ f ∧ f ≤ 9007199254740991 ∧ max f t ≤ 9007199254740991 ∧ t ≠ -1 ∧ f ≤ t ∧ t ≤ 9007199254740991 ∧ timeB f t = true) ∨ (0 ≤ f ∧ f ≤ 9007199254740991 ∧ max f t ≤ 9007199254740991 ∧ t ≠ -1 ∧ t < f ∧ timeB f t = false) := by
  unfold timeB
  simp only [decide_eq_true_eq, decide_eq_false_iff_not]
  omega
theorem kind_ways (d : Dd) : (d.k < 1 ∧ kindB d = false) ∨ (1 ≤ d.k ∧ 4 < d.k ∧ kindB d = false) ∨ (1 ≤ d.k ∧ d.k ≤ 4 ∧ d.k ≠ 2 ∧ kindB d = true) ∨ (d.k = 2 ∧ d.x = zob ∧ kindB d = true) ∨ (d.k = 2 ∧ d.x ≠ zob ∧ kindB d = false) := by
  unfold kindB
  simp only [decide_eq_true_eq, decide_eq_false_iff_not]
  by_cases h : d.x = zob
  · simp [h]; omega
  · simp [h]; omega

set_option maxRecDepth 100000 in
set_option maxHeartbeats 4000000 in
theorem may_any (x : Sp) (w : World) :
    Calls Try.prog 64 #[.agg #[.int .i64 x.d.k, .int .i64 x.d.x.c, .int .i64 x.d.x.s, .int .i64 x.d.x.o, .int .i64 x.f, .int .i64 x.t]] w fun e w' => e = .returned (.bool (mayB x)) ∧ Fr0 w w' := by
  unfold mayB
  have hgd := guard30
  have heq := fun W => eql30 x.d.x zob W
  rcases kind_ways x.d with ⟨h1, hr⟩ | ⟨h1, h2, hr⟩ | ⟨h1, h2, h3, hr⟩ | ⟨h1, h2, hr⟩ | ⟨h1, h2, hr⟩
  · rw [hr, Bool.false_and]
    clear heq hr
    go_enter Try.func64, Try.ntmps64
    go_wp2
    all_goals
      go_ret
      exact ⟨rfl, fr0_alloc _ _⟩
  · rw [hr, Bool.false_and]
    have h2' : decide (x.d.k ≤ 4) = false := by simp; omega
    clear heq hr h2
    go_enter Try.func64, Try.ntmps64
    go_wp2
    all_goals
      go_ret
      exact ⟨rfl, fr0_alloc _ _⟩
  · rw [hr, Bool.true_and]
    have h3' : (x.d.k != 2) = true := by simp [h3]
    clear heq hr h3
    generalize x.f = f
    generalize x.t = t
    rcases time_ways f t with ⟨q1, hr⟩ | ⟨q1, q2, q0, hr⟩ | ⟨q1, q0, q2, q3, hr⟩ | ⟨q1, q0, q2, q3, q4, q5, hr⟩ | ⟨q1, q0, q2, q3, q4, hr⟩
    · rw [hr]
      clear hr
      go_enter Try.func64, Try.ntmps64
      go_wp2
      all_goals
        go_ret
        exact ⟨rfl, fr0_alloc _ _⟩
    · rw [hr]
      have q6 : (t ≤ f ∧ 9007199254740991 < f) ∨ (f < t ∧ 9007199254740991 < t) := by omega
      clear hr q2 q0
      rcases q6 with ⟨q6, q7⟩ | ⟨q6, q7⟩
      all_goals
        go_enter Try.func64, Try.ntmps64
        go_wp2
        all_goals
          go_ret
          exact ⟨rfl, fr0_alloc _ _⟩
    · rw [hr]
      have q2' : decide (max f t ≤ 9007199254740991) = true := by simp only [decide_eq_true_eq]; omega
      have q3' : (t == -1) = true := by simp [q3]
      clear hr q3
      go_enter Try.func64, Try.ntmps64
      go_wp2
      all_goals
        go_ret
        exact ⟨rfl, fr0_alloc _ _⟩
    · rw [hr]
      have q2' : decide (max f t ≤ 9007199254740991) = true := by simp only [decide_eq_true_eq]; omega
      have q3' : (t == -1) = false := by simp [q3]
      clear hr q3
      go_enter Try.func64, Try.ntmps64
      go_wp2
      all_goals
        go_ret
        exact ⟨rfl, fr0_alloc _ _⟩
    · rw [hr]
      have q2' : decide (max f t ≤ 9007199254740991) = true := by simp only [decide_eq_true_eq]; omega
      have q3' : (t == -1) = false := by simp [q3]
      have q4' : decide (f ≤ t) = false := by simp; omega
      clear hr q3 q4
      go_enter Try.func64, Try.ntmps64
      go_wp2
      all_goals
        go_ret
        exact ⟨rfl, fr0_alloc _ _⟩
  · rw [hr, Bool.true_and]
    rw [decide_eq_true h2] at heq
    simp only [Ob.val, zob] at heq
    have k1 : decide (1 ≤ x.d.k) = true := by simp [h1]
    have k2 : decide (x.d.k ≤ 4) = true := by simp [h1]
    have k3 : (x.d.k != 2) = false := by simp [h1]
    clear hr h2 h1
    generalize x.f = f
    generalize x.t = t
    rcases time_ways f t with ⟨q1, hr⟩ | ⟨q1, q2, q0, hr⟩ | ⟨q1, q0, q2, q3, hr⟩ | ⟨q1, q0, q2, q3, q4, q5, hr⟩ | ⟨q1, q0, q2, q3, q4, hr⟩
    · rw [hr]
      clear hr
      go_enter Try.func64, Try.ntmps64
      go_wp2
      all_goals
        go_ret
        exact ⟨rfl, fr0_alloc _ _⟩
    · rw [hr]
      have q6 : (t ≤ f ∧ 9007199254740991 < f) ∨ (f < t ∧ 9007199254740991 < t) := by omega
      clear hr q2 q0
      rcases q6 with ⟨q6, q7⟩ | ⟨q6, q7⟩
      all_goals
        go_enter Try.func64, Try.ntmps64
        go_wp2
        all_goals
          go_ret
          exact ⟨rfl, fr0_alloc _ _⟩
    · rw [hr]
      have q2' : decide (max f t ≤ 9007199254740991) = true := by simp only [decide_eq_true_eq]; omega
      have q3' : (t == -1) = true := by simp [q3]
      clear hr q3
      go_enter Try.func64, Try.ntmps64
      go_wp2
      all_goals
        go_ret
        exact ⟨rfl, fr0_alloc _ _⟩
    · rw [hr]
      have q2' : decide (max f t ≤ 9007199254740991) = true := by simp only [decide_eq_true_eq]; omega
      have q3' : (t == -1) = false := by simp [q3]
      clear hr q3
      go_enter Try.func64, Try.ntmps64
      go_wp2
      all_goals
        go_ret
        exact ⟨rfl, fr0_alloc _ _⟩
    · rw [hr]
      have q2' : decide (max f t ≤ 9007199254740991) = true := by simp only [decide_eq_true_eq]; omega
      have q3' : (t == -1) = false := by simp [q3]
      have q4' : decide (f ≤ t) = false := by simp; omega
      clear hr q3 q4
      go_enter Try.func64, Try.ntmps64
      go_wp2
      all_goals
        go_ret
        exact ⟨rfl, fr0_alloc _ _⟩
  · rw [hr, Bool.false_and]
    rw [decide_eq_false h2] at heq
    simp only [Ob.val, zob] at heq
    have k1 : decide (1 ≤ x.d.k) = true := by simp [h1]
    have k2 : decide (x.d.k ≤ 4) = true := by simp [h1]
    have k3 : (x.d.k != 2) = false := by simp [h1]
    clear hr h2 h1
    go_enter Try.func64, Try.ntmps64
    go_wp2
    all_goals
      go_ret
      exact ⟨rfl, fr0_alloc _ _⟩

theorem may63_any (x : Sp) (w : World) :
    Calls Try.prog 63 #[.agg #[.int .i64 x.d.k, .int .i64 x.d.x.c, .int .i64 x.d.x.s, .int .i64 x.d.x.o, .int .i64 x.f, .int .i64 x.t]] w fun e w' => e = .returned (.bool (!mayB x)) ∧ Fr0 w w' := by
  have HM := fun W => may_any x W
  generalize mayB x = bb at HM
  go_enter Try.func63, Try.ntmps63
  go_wp2_with fail
  refine (HM _).mono ?_
  rintro e w1 ⟨rfl, hf1⟩
  go_wp2
  go_ret
  exact ⟨rfl, (fr0_alloc _ _).trans0 hf1⟩

set_option maxHeartbeats 1000000 in
theorem index74_any (a : Option Addr) (b off cap : Nat) (l : List Sp) (w : World) (h : SpansIn w a b off l) :
    Calls Try.prog 74 #[.slice a l.length cap, .func (.func 63) #[] #[]] w fun e w' => ∃ r : Int, e = .returned (.int .i64 r) ∧ decide (0 ≤ r) = !l.all mayB ∧ Fr0 w w' := by
  have hsm := h.small
  have H := hid h
  clear h
  go_enter Try.func74, Try.ntmps74
  go_wp2_with fail
  go_loopw [8] (fun i wr => ∃ k : Nat, i = .int .i64 k ∧ k ≤ l.length ∧ Hid (Fr0 w wr ∧ ∀ j (hj : j < l.length), j < k → mayB l[j] = true)) (fun i _ => l.length - (intOf i).toNat)
  case atStart => exact ⟨0, rfl, Nat.zero_le _, hid ⟨Fr.refl _ _, by omega⟩⟩
  case round =>
    obtain ⟨k, rfl, hk, hR⟩ := hrel
    by_cases hlt : k < l.length
    · have HS := hid (H.out.fr0 hR.out.1)
      have hix := HS.out.index cap k hlt
      obtain ⟨c0, c1, c2, c3, c4, c5⟩ := HS.out.at k hlt
      have HM := fun W => may63_any l[k] W
      obtain ⟨bb, hbb⟩ : ∃ bb, bb = mayB l[k] := ⟨_, rfl⟩
      rw [← hbb] at HM
      have HB := hid hbb
      have HM := hid HM
      clear hbb
      go_wp2_with fail
      refine (HM.out _).mono ?_
      rintro e w1 ⟨rfl, hf1⟩
      cases bb with
      | true =>
        have HE : Hid (Fr0 w w1 ∧ ∀ j (hj : j < l.length), j < k + 1 → mayB l[j] = true) := hid ⟨hR.out.1.trans0 hf1, fun j hj hjk => by
          by_cases e : j = k
          · subst e; exact HB.out.symm
          · exact hR.out.2 j hj (by omega)⟩
        clear hf1 hR
        go_wp2
        go_roundw
        case rel => exact ⟨k + 1, by go_num, by omega, HE⟩
        case measure => simp [intOf]; omega
      | false =>
        have HE : Hid (decide ((0 : Int) ≤ (k : Int)) = !l.all mayB ∧ Fr0 w w1) := hid ⟨by
          have : l.all mayB = false := by
            rw [← Bool.not_eq_true, List.all_eq_true]
            intro h
            have := h _ (List.getElem_mem hlt)
            rw [← HB.out] at this
            cases this
          rw [this]; simp, hR.out.1.trans0 hf1⟩
        clear hf1 hR
        go_wp2
        go_ret
        exact ⟨(k : Int), rfl, HE.out⟩
    · have HE : Hid (decide ((0 : Int) ≤ (-1 : Int)) = !l.all mayB ∧ Fr0 w wr) := hid ⟨by
        have : l.all mayB = true := by
          rw [List.all_eq_true]
          intro x hx
          obtain ⟨j, hj, rfl⟩ := List.getElem_of_mem hx
          exact hR.out.2 j hj (by omega)
        rw [this]; rfl, hR.out.1⟩
      clear hR
      go_wp2
      go_ret
      exact ⟨-1, rfl, HE.out⟩

theorem contains62_any (a : Option Addr) (b off cap : Nat) (l : List Sp) (w : World) (h : SpansIn w a b off l) :
    Calls Try.prog 62 #[.slice a l.length cap, .func (.func 63) #[] #[]] w fun e w' => e = .returned (.bool (!l.all mayB)) ∧ Fr0 w w' := by
  have H := index74_any a b off cap l w h
  clear h
  generalize (!l.all mayB) = bb at H ⊢
  go_enter Try.func62, Try.ntmps62
  go_wp2_with fail
  refine H.mono ?_
  rintro e w1 ⟨r, rfl, hr, hf1⟩
  clear H
  cases bb with
  | true =>
    go_wp2
    go_ret
    exact ⟨rfl, hf1⟩
  | false =>
    go_wp2
    go_ret
    exact ⟨rfl, hf1⟩

set_option maxHeartbeats 1000000 in
theorem check_any (a : Option Addr) (b off cap : Nat) (l : List Sp) (w : World) (h : SpansIn w a b off l) :
    Calls Try.prog 28 #[.slice a l.length cap] w fun e w' => e = .returned (.int .i64 (chk l)) ∧ Fr0 w w' := by
  have H := contains62_any a b off cap l w h
  clear h
  unfold chk
  by_cases hl : 256 < l.length
  · rw [if_pos hl]
    clear H
    go_enter Try.func28, Try.ntmps28
    go_wp2
    go_ret
    exact ⟨rfl, Fr.refl _ _⟩
  · rw [if_neg hl]
    generalize l.all mayB = bb at H ⊢
    cases bb with
    | true =>
      go_enter Try.func28, Try.ntmps28
      go_wp2_with fail
      refine H.mono ?_
      rintro e w1 ⟨rfl, hf1⟩
      go_wp2
      go_ret
      exact ⟨rfl, hf1⟩
    | false =>
      go_enter Try.func28, Try.ntmps28
      go_wp2_with fail
      refine H.mono ?_
      rintro e w1 ⟨rfl, hf1⟩
      go_wp2
      go_ret
      exact ⟨rfl, hf1⟩
end Go.Proofs.Ytjaabbjobnfmmaa

/-
  Rows of structs in memory: the cells of a list, the element at an index, a row of the call's own. Plain laws; no program of this seat.
-/
import Derived.Test.YtjaabbjobnfmmaaFrame
namespace Go.Proofs.Ytjaabbjobnfmmaa
open Go.RowKit

section
variable {α : Type} {enc : α → List Value} {s : Nat}

/-- The cells of a list of structs, one behind the other. -/
def flat (enc : α → List Value) (L : List α) : List Value := L.flatMap enc

theorem flat_nil : flat enc ([] : List α) = [] := rfl
theorem flat_cons (x : α) (L : List α) : flat enc (x :: L) = enc x ++ flat enc L := rfl
theorem flat_append (L M : List α) : flat enc (L ++ M) = flat enc L ++ flat enc M := by simp [flat]
theorem flat_snoc (L : List α) (x : α) : flat enc (L ++ [x]) = flat enc L ++ enc x := by simp [flat]
theorem flat_length (h : ∀ x, (enc x).length = s) (L : List α) : (flat enc L).length = L.length * s := by
  induction L with
  | nil => simp [flat]
  | cons x L ih => rw [flat_cons, List.length_append, h, ih, List.length_cons, Nat.add_mul]; omega
theorem flat_get (h : ∀ x, (enc x).length = s) (L : List α) (k : Nat) (hk : k < L.length) (j : Nat) (hj : j < s) : (flat enc L)[k * s + j]? = (enc L[k])[j]? := by
  induction L generalizing k with
  | nil => simp at hk
  | cons x L ih =>
    rw [flat_cons]
    cases k with
    | zero =>
      rw [Nat.zero_mul, Nat.zero_add, List.getElem?_append_left (by rw [h]; exact hj)]
      rfl
    | succ k =>
      rw [List.getElem?_append_right (by rw [h, Nat.add_mul]; omega), h, show (k + 1) * s + j - s = k * s + j by rw [Nat.add_mul]; omega]
      exact ih k (by simpa using hk)
theorem flat_take (h : ∀ x, (enc x).length = s) (L : List α) (n : Nat) : (flat enc L).take (n * s) = flat enc (L.take n) := by
  induction L generalizing n with
  | nil => simp [flat]
  | cons x L ih =>
    cases n with
    | zero => simp [flat]
    | succ n =>
      rw [flat_cons, List.take_succ_cons, flat_cons, List.take_append, h, Nat.add_mul, Nat.one_mul, List.take_of_length_le (by rw [h]; omega), Nat.add_sub_cancel, ih]
theorem flat_drop (h : ∀ x, (enc x).length = s) (L : List α) (n : Nat) : (flat enc L).drop (n * s) = flat enc (L.drop n) := by
  induction L generalizing n with
  | nil => simp [flat]
  | cons x L ih =>
    cases n with
    | zero => simp [flat]
    | succ n =>
      rw [flat_cons, List.drop_succ_cons, List.drop_append, h, Nat.add_mul, Nat.one_mul, List.drop_of_length_le (by rw [h]; omega), Nat.add_sub_cancel, ih, List.nil_append]
theorem flat_one (h : ∀ x, ∀ u ∈ enc x, u.oneCell' = true) (L : List α) : ∀ u ∈ flat enc L, u.oneCell' = true := by
  intro u hu
  obtain ⟨x, _, hx⟩ := List.mem_flatMap.1 hu
  exact h x u hx
end

section
variable {P : Program} {w w' : World} {base : Nat} {e t : TypeId} {s n : Nat} {v : Value} {xs : List Value} {a : Option Addr} {b off cap : Nat}

/-- The address of an element, the slice's own address known only where there is one. -/
theorem index_of (ht : P.underlying t = some (.slice e)) (W : World) (hs : (sizeOf e).run P W = .ok s W) (ha : 0 < n → a = some ⟨b, off, none⟩) (cap : Nat) (k : Nat) (hk : k < n) :
    (Instr.indexAt t (.slice a n cap) (.int .i64 k)).run P W = .ok (.pointer (some ⟨b, off + k * s, none⟩)) W := by
  have he : P.elem t = e := by simp [Program.elem, ht]
  rw [ha (by omega), run_indexAt_slice W t ⟨b, off, none⟩ n cap .i64 k (by rw [he]; exact ht), if_pos ⟨by omega, by omega⟩, he, hs]
  simp only [Result.andThen_ok, Int.toNat_natCast, Addr.add]
  by_cases h0 : k * s = 0
  · rw [if_pos h0, h0]; rfl
  · rw [if_neg h0]

theorem index_of0 (ht : P.underlying t = some (.slice e)) (W : World) (hs : (sizeOf e).run P W = .ok s W) (ha : 0 < n → a = some ⟨b, 0, none⟩) (cap : Nat) (k : Nat) (hk : k < n) :
    (Instr.indexAt t (.slice a n cap) (.int .i64 k)).run P W = .ok (.pointer (some ⟨b, k * s, none⟩)) W := by
  have := index_of ht W hs ha cap k hk
  simpa using this

/-- A row of the call's own, taken apart. -/
theorem own_form (h : w.ownsRow base e s v n xs) : ∃ a g cap, v = .slice a n cap ∧ (0 < n → a = some ⟨g, 0, none⟩) ∧ n ≤ cap ∧ cap ≤ maxLen ∧ (∀ i, v.ownBlock = some i → i = g) ∧ (0 < n → v.ownBlock = some g ∧ base ≤ g ∧ g < w.heap.size) ∧
    (∀ j, j < n * s → w.cell? ⟨g, j, none⟩ = xs[j]?) ∧ (a = none → n = 0 ∧ cap = 0) := by
  obtain ⟨hl, ⟨rfl, rfl⟩ | ⟨g, cap, cur, rfl, hb, hg, hn, hc, hs, ht⟩⟩ := h
  · exact ⟨none, 0, 0, rfl, by simp, Nat.le_refl _, Nat.zero_le _, by simp [Value.ownBlock], by simp, by simp, fun _ => ⟨rfl, rfl⟩⟩
  · refine ⟨some ⟨g, 0, none⟩, g, cap, rfl, fun _ => rfl, hn, hc, fun i hi => by simpa [Value.ownBlock] using hi.symm, fun _ => ⟨rfl, hb, lt_of_block hg⟩, fun j hj => ?_, by simp⟩
    rw [cell_of_block hg, ← ht, List.getElem?_take, if_pos hj]
    simp

theorem own_fr {X : Nat → Prop} (h : w.ownsRow base e s v n xs) (hf : Fr X w w') (hx : ∀ i, v.ownBlock = some i → ¬ X i) : w'.ownsRow base e s v n xs := by
  refine ⟨h.1, ?_⟩
  rcases h.2 with hn | ⟨g, cap, cur, rfl, hb, hgg, rest⟩
  · exact .inl hn
  · exact .inr ⟨g, cap, cur, rfl, hb, hf.at hgg (hx g rfl), rest⟩

theorem own_fr0 (h : w.ownsRow base e s v n xs) (hf : Fr0 w w') : w'.ownsRow base e s v n xs := own_fr h hf (fun _ _ h => h)

/-- The row's block is no other block whose cells are of another type. -/
theorem own_ne {i : Nat} {cs : Array Value} {t : TypeId} {f : Nat × Nat} (h : w.ownsRow base e s v n xs) (hi : w.heap[i]? = some (.cells cs t f)) (hne : e ≠ t) : ∀ j, v.ownBlock = some j → j ≠ i := by
  intro j hj hji
  subst hji
  rcases h.2 with ⟨rfl, _⟩ | ⟨g, cap, cur, rfl, hb, hgg, rest⟩
  · simp [Value.ownBlock] at hj
  · have : g = j := by simpa [Value.ownBlock] using hj
    subst this
    rw [hi] at hgg
    simp at hgg
    exact hne hgg.2.1.symm
theorem own_ne_map {i : Nat} {es : Array MapEntry} {c : Nat} (h : w.ownsRow base e s v n xs) (hi : w.heap[i]? = some (.map es c)) : ∀ j, v.ownBlock = some j → j ≠ i := by
  intro j hj hji
  subst hji
  rcases h.2 with ⟨rfl, _⟩ | ⟨g, cap, cur, rfl, hb, hgg, rest⟩
  · simp [Value.ownBlock] at hj
  · have : g = j := by simpa [Value.ownBlock] using hj
    subst this
    rw [hi] at hgg
    simp at hgg
end

/-- The address of what is left of a slice from element k on. -/
def cutA (a : Option Addr) (cap k s : Nat) : Option Addr := if cap = k then a else a.map (·.add (k * s))

section
variable {P : Program} {e t : TypeId} {s n k : Nat} {a : Option Addr} {b off cap : Nat}

theorem cutA_none (h : cutA a cap k s = none) : a = none := by
  unfold cutA at h
  split at h
  · exact h
  · simpa using h

/-- 'xs[k:]'. -/
theorem slice_from (ht : P.underlying t = some (.slice e)) (W : World) (hs : (sizeOf e).run P W = .ok s W) (k : Nat) (hk : k ≤ n) :
    (Instr.slice t (.slice a n cap) (some (.int .i64 k)) none none).run P W = .ok (.slice (cutA a cap k s) (n - k) (cap - k)) W := by
  simp [Instr.slice, run_underlying ht, Instr.sliceBounds, Instr.sliceBound, asIntOf, hk, hs, cutA]

/-- 'xs[:k]'. -/
theorem slice_upto (ht : P.underlying t = some (.slice e)) (W : World) (hs : (sizeOf e).run P W = .ok s W) (k : Nat) (hc : k ≤ cap) :
    (Instr.slice t (.slice a n cap) none (some (.int .i64 k)) none).run P W = .ok (.slice (cutA a cap 0 s) k cap) W := by
  simp [Instr.slice, run_underlying ht, Instr.sliceBounds, Instr.sliceBound, asIntOf, hc, hs, cutA]

theorem cutA_zero (ha : a = some ⟨b, off, none⟩) : cutA a cap 0 s = some ⟨b, off, none⟩ := by
  subst ha; simp [cutA, Addr.add]

theorem cutA_cells {w : World} {xs : List Value} (ha : 0 < n → a = some ⟨b, off, none⟩) (hcap : n ≤ cap) (hx : ∀ j, j < n * s → w.cell? ⟨b, off + j, none⟩ = xs[j]?) (hl : xs.length = n * s) (k : Nat) (hk : k ≤ n) :
    ∀ ad, cutA a cap k s = some ad → ∀ j u, (xs.drop (k * s))[j]? = some u → w.cell? (ad.add j) = some u := by
  intro ad had j u hu
  have hj : j < xs.length - k * s := by
    have := (List.getElem?_eq_some_iff.1 hu).1
    simpa using this
  have hle : k * s ≤ n * s := Nat.mul_le_mul_right s hk
  have hlt : k < n := by
    rcases Nat.lt_or_ge k n with h | h
    · exact h
    · have : k = n := by omega
      subst this; omega
  unfold cutA at had
  rw [if_neg (by omega), ha (by omega)] at had
  simp only [Option.map_some, Option.some.injEq] at had
  subst had
  have e : ((⟨b, off, none⟩ : Addr).add (k * s)).add j = ⟨b, off + (k * s + j), none⟩ := by
    rw [Addr.add_lit, Addr.add_lit, Nat.add_assoc]
  rw [e, hx _ (by omega)]
  rw [List.getElem?_drop] at hu
  exact hu

/-- An append onto a row of the call's own, whatever the source's address: where it has none, nothing is appended. -/
theorem append_own_any (w : World) {ops : Array Oper} {rest : List Oper} {o : Oper} {a : Act} {Q : Exit → Act → World → Prop} (hgd : o.guard = none) (x y : Operand) (t : TypeId)
    (ho : o.op = .call { callee := .builtin .append, args := #[x, y], argTypes := #[t, t] })
    (base : Nat) (e : TypeId) (i : TypeInfo) (z : Value) (size bytes : Nat) (ht : P.underlying t = some (.slice e)) (hi : P.info? e = some i) (hz : i.zero = some z)
    (hsize : i.size = size) (hby : i.bytes = bytes) (hzs : z.cells.size = size) (hsz : 0 < size)
    (v : Value) (n : Nat) (xs : List Value) (hs : a.eval x = v) (hown : w.ownsRow base e size v n xs)
    (ao : Option Addr) (m c : Nat) (news : List Value) (hx : a.eval y = .slice ao m c) (hl : news.length = m * size) (hnone : ao = none → m = 0 ∧ c = 0) (hnews : ∀ ad, ao = some ad → ∀ j u, news[j]? = some u → w.cell? (ad.add j) = some u) (h1 : ∀ u ∈ news, u.oneCell' = true)
    (h63 : n + m ≤ maxLen) (hbytes : (n + m) * bytes ≤ 140737488355328) (hbase : base ≤ w.heap.size)
    (h : ∀ v' w', w'.ownsRow base e size v' (n + m) (xs ++ news) → w.grownBy w' v.ownBlock → wpList P ops Q rest (a.put o.dst v') w') : wpList P ops Q (o :: rest) a w := by
  cases ao with
  | some ad => exact wpList_append_own w hgd x y t ho base e i z size bytes ht hi hz hsize hby hzs hsz v n xs hs hown ad m c news hx hl (hnews ad rfl) h1 h63 hbytes hbase (fun v' w' h2 h3 _ => h v' w' h2 h3)
  | none =>
    obtain ⟨rfl, rfl⟩ := hnone rfl
    have hnn : news = [] := List.eq_nil_of_length_eq_zero (by simpa using hl)
    subst hnn
    refine wpList_plain hgd fun K hK' => ?_
    have hrun := run_append_owned_none (P := P) w base t o.type e i size ht hi v n xs hown
    unfold Oper.wp
    simp [execOp, ho, resolve, invoke, builtin, hs, hx, hrun, Result.andThen]
    exact hK' _ _ (by simpa using h v w (by simpa using hown) (World.grownBy.refl _ _))
end
end Go.Proofs.Ytjaabbjobnfmmaa

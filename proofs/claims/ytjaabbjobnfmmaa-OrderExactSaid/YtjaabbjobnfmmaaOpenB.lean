/-
  Arguments that are slices of calls, of numbers, opened to their cells.
-/
import Derived.Test.YtjaabbjobnfmmaaOpen
import Derived.Test.YtjaabbjobnfmmaaNums
namespace Go.Proofs.Ytjaabbjobnfmmaa
open Go.ChangeShapes Go.WideShapes Go.ChangeAt Go.RowKit Go.Deep

theorem cells50 : Try.prog.cellsOf 50 = 6 := by kernel_rfl
theorem bytes50 : Try.prog.bytesOf 50 = 48 := by kernel_rfl
theorem bytes3 : Try.prog.bytesOf 3 = 8 := by kernel_rfl
instance : Inhabited Sp := ⟨zsp⟩

theorem six {α : Type} {l : List α} (h : l.length = 6) : ∃ a b c d e f, l = [a, b, c, d, e, f] := by
  match l, h with
  | [a, b, c, d, e, f], _ => exact ⟨a, b, c, d, e, f, rfl⟩

theorem trod_span {H : Type} {enc : TypeId × Value → H} {w : World} {base : Nat} {spare : Nat → Bool} {held : Bool} {fuel : Nat} {cs : List Value} {x : DataW H × List MemPlace}
    (h : DataW.trod enc Try.prog w base spare held fuel 50 cs = some x) : ∃ y : Sp, cs = y.enc ∧ y.wf := by
  obtain ⟨xs, n, _, _, hlen, hxl, hf⟩ := DataW.trod_struct Try.underlying50 h
  have g0 : DataW.trod enc Try.prog w base spare held n 32 ((cs.drop 0).take (Try.prog.cellsOf 32)) = xs[0]? := hf 0 _ rfl
  have g1 : DataW.trod enc Try.prog w base spare held n 3 ((cs.drop 4).take (Try.prog.cellsOf 3)) = xs[1]? := hf 1 _ rfl
  have g2 : DataW.trod enc Try.prog w base spare held n 3 ((cs.drop 5).take (Try.prog.cellsOf 3)) = xs[2]? := hf 2 _ rfl
  rw [cells32] at g0
  rw [cells3] at g1 g2
  simp at hxl
  rw [List.getElem?_eq_getElem (by omega)] at g0 g1 g2
  obtain ⟨k, c, s, o, hk, wk, wc, ws, wo⟩ := trod_deed Try.underlying32 cells32 Try.underlying30 Try.underlying3 cells30 cells3 g0
  obtain ⟨f, hf', _, wf⟩ := DataW.trod_int Try.underlying3 g1
  obtain ⟨t, ht', _, wt⟩ := DataW.trod_int Try.underlying3 g2
  rw [cells50] at hlen
  refine ⟨⟨⟨k, ⟨c, s, o⟩⟩, f, t⟩, ?_, ⟨wk, wc, ws, wo⟩, wf, wt⟩
  obtain ⟨c0, c1, c2, c3, c4, c5, rfl⟩ := six hlen
  simp only [List.drop_zero, List.drop_succ_cons, List.take_succ_cons, List.take_zero, List.cons.injEq, and_true] at hk hf' ht'
  obtain ⟨rfl, rfl, rfl, rfl⟩ := hk
  subst hf' ht'
  rfl

/-- The form's own reach, for an argument that is a slice of calls and stands first. -/
theorem reach_spans {H : Type} {enc : TypeId × Value → H} {W : World} {a0 : Option Addr} {len cap : Nat} {d : DataW H} {p : List MemPlace} {base : Nat} {sp : Nat → Bool} {ts : List TypeId} {ds : List (DataW H)}
    (h : DataW.Trod enc Try.prog W base sp true 45 (.slice a0 len cap) d p) (hsz : (DataW.weightsEach Try.prog (45 :: ts) (d :: ds)).all (· ≤ reachBytes) = true) : len * 48 ≤ 140737488351232 := by
  obtain ⟨fuel, hf⟩ := h
  rcases open_slice Try.underlying45 hf with ⟨hcs, _⟩ | ⟨a, len', cap', m, n, D, Pl, hcs, _, hl, _, hm, hx, hel⟩
  · simp [Value.cells] at hcs
    omega
  · simp [Value.cells] at hcs
    obtain ⟨rfl, rfl, rfl⟩ := hcs
    simp only [Prod.mk.injEq] at hx
    obtain ⟨rfl, _⟩ := hx
    have := sized_slice hsz (j := 0) (t := 45) (e := 50) rfl rfl Try.underlying45
    rw [bytes50] at this
    simp only [List.length_map, List.length_range, reachBytes] at this
    omega


theorem spans_of {W : World} {b off len : Nat} {V : Nat → Sp} (h : ∀ i, i < len → ∀ j, j < 6 → W.cell? ⟨b, off + i * 6 + j, none⟩ = (V i).enc[j]?) (k : Nat) (hk : k < len * 6) : W.cell? ⟨b, off + k, none⟩ = (flat Sp.enc ((List.range len).map V))[k]? := by
  have h1 : k / 6 < len := by omega
  have h2 : k % 6 < 6 := by omega
  have e : k = k / 6 * 6 + k % 6 := by omega
  have := flat_get enc6 ((List.range len).map V) (k / 6) (by simpa using h1) (k % 6) h2
  rw [← e] at this
  rw [this]
  have hh := h (k / 6) h1 (k % 6) h2
  rw [show off + k / 6 * 6 + k % 6 = off + k by omega] at hh
  rw [hh]
  simp

/-- The argument, opened: its address, and its calls. -/
theorem open_spans {H : Type} {enc : TypeId × Value → H} {W : World} {a0 : Option Addr} {len cap : Nat} {d : DataW H} {p : List MemPlace} {base : Nat} {sp : Nat → Bool}
    (h : DataW.Trod enc Try.prog W base sp true 45 (.slice a0 len cap) d p) (hreach : len * 48 ≤ 140737488351232) :
    ∃ (b off : Nat) (l : List Sp), l.length = len ∧ SpansIn W a0 b off l := by
  obtain ⟨fuel, hf⟩ := h
  rcases open_slice Try.underlying45 hf with ⟨hcs, _⟩ | ⟨a, len', cap', m, n, D, Pl, hcs, _, hl, _, hm, hx, hel⟩
  · simp [Value.cells] at hcs
    obtain ⟨rfl, rfl, rfl⟩ := hcs
    exact ⟨0, 0, [], rfl, by simp, by simp, by simp, by simp, by simp⟩
  · simp [Value.cells] at hcs
    obtain ⟨rfl, rfl, rfl⟩ := hcs
    have hlm : len ≤ m := by rw [hm]; split <;> omega
    have key : ∀ i, i < len → ∃ y : Sp, y.wf ∧ ∀ j, j < 6 → W.cell? ((a.add (i * 6)).add j) = y.enc[j]? := by
      intro i hi
      obtain ⟨cs', hc, ht⟩ := hel i (by omega)
      rw [cells50] at hc
      obtain ⟨_, hlc, hat⟩ := World.cells?_some hc
      obtain ⟨y, rfl, wy⟩ := trod_span ht
      exact ⟨y, wy, fun j hj => hat j (by omega)⟩
    obtain ⟨V, hV⟩ := choose_lt key
    obtain ⟨b, off, spot⟩ := a
    refine ⟨b, off, (List.range len).map V, by simp, ?_⟩
    have first : 0 < len → W.cell? ({ block := b, off := off, spot := spot } : Addr) = some (.int .i64 (V 0).d.k) := fun h0 => by
      have := (hV 0 h0).2 0 (by omega)
      simpa [Addr.add, Sp.enc] using this
    have hspot : 0 < len → spot = none := fun h0 => by
      simpa using World.cell?_spot (first h0)
    refine ⟨fun h0 => ?_, fun k hk => ?_, fun h0 => ?_, ?_, by simp; omega⟩
    · rw [hspot (by simpa using h0)]
    · have hk' : k < len * 6 := by simpa using hk
      refine spans_of (fun i hi j hj => ?_) k hk'
      have := (hV i hi).2 j hj
      rw [hspot (by omega), Addr.add_lit, Addr.add_lit] at this
      exact this
    · have h0 : 0 < len := by simpa using h0
      simpa using World.block_lt_of_cell? W _ (first h0)
    · intro y hy
      obtain ⟨i, hi, rfl⟩ := List.mem_map.1 hy
      exact (hV i (by simpa using hi)).1

/-- The argument, opened: its address, and its numbers. -/
theorem open_nums {H : Type} {enc : TypeId × Value → H} {W : World} {a0 : Option Addr} {len cap : Nat} {d d0 : DataW H} {p : List MemPlace} {base : Nat} {sp : Nat → Bool} {t0 : TypeId} {ts : List TypeId} {ds : List (DataW H)}
    (h : DataW.Trod enc Try.prog W base sp true 46 (.slice a0 len cap) d p) (hsz : (DataW.weightsEach Try.prog (t0 :: 46 :: ts) (d0 :: d :: ds)).all (· ≤ reachBytes) = true) :
    ∃ (b off : Nat) (o : List Int), o.length = len ∧ NumsIn W a0 b off o := by
  obtain ⟨fuel, hf⟩ := h
  rcases open_slice Try.underlying46 hf with ⟨hcs, _⟩ | ⟨a, len', cap', m, n, D, Pl, hcs, _, hl, _, hm, hx, hel⟩
  · simp [Value.cells] at hcs
    obtain ⟨rfl, rfl, rfl⟩ := hcs
    exact ⟨0, 0, [], rfl, by simp, by simp, by simp, by simp⟩
  · simp [Value.cells] at hcs
    obtain ⟨rfl, rfl, rfl⟩ := hcs
    simp only [Prod.mk.injEq] at hx
    obtain ⟨rfl, _⟩ := hx
    have hreach := sized_slice hsz (j := 1) (t := 46) (e := 3) rfl rfl Try.underlying46
    rw [bytes3] at hreach
    simp only [List.length_map, List.length_range, reachBytes] at hreach
    have hlm : len ≤ m := by rw [hm]; split <;> omega
    have key : ∀ i, i < len → ∃ y : Int, True ∧ W.cell? (a.add i) = some (.int .i64 y) := by
      intro i hi
      obtain ⟨cs', hc, ht⟩ := hel i (by omega)
      rw [cells3] at hc
      obtain ⟨_, _, hat⟩ := World.cells?_some hc
      obtain ⟨f, hf', _, _⟩ := DataW.trod_int Try.underlying3 ht
      subst hf'
      exact ⟨f, trivial, by simpa [Addr.add] using hat 0 (by omega)⟩
    obtain ⟨V, hV⟩ := choose_lt key
    obtain ⟨b, off, spot⟩ := a
    refine ⟨b, off, (List.range len).map V, by simp, ?_⟩
    have first : 0 < len → W.cell? ({ block := b, off := off, spot := spot } : Addr) = some (.int .i64 (V 0)) := fun h0 => by
      have := (hV 0 h0).2
      simpa [Addr.add] using this
    have hspot : 0 < len → spot = none := fun h0 => by
      simpa using World.cell?_spot (first h0)
    refine ⟨fun h0 => ?_, fun k hk => ?_, fun h0 => ?_, by simp; omega⟩
    · rw [hspot (by simpa using h0)]
    · have hk' : k < len := by simpa using hk
      have := (hV k hk').2
      rw [hspot (by omega), Addr.add_lit] at this
      simpa using this
    · have h0 : 0 < len := by simpa using h0
      simpa using World.block_lt_of_cell? W _ (first h0)
end Go.Proofs.Ytjaabbjobnfmmaa

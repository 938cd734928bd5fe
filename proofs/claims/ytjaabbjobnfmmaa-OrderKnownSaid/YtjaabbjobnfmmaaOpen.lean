/-
  An argument that is a slice of deeds, opened to its cells.
-/
import Derived.Test.YtjaabbjobnfmmaaWorks
import Derived.ProofKit
import Derived.SizedLaws
import Derived.Deep.Slices
namespace Go.Proofs.Ytjaabbjobnfmmaa
open Go.ChangeShapes Go.WideShapes Go.ChangeAt Go.RowKit Go.Deep

instance : Inhabited Dd := ⟨⟨0, ⟨0, 0, 0⟩⟩⟩
theorem cells32 : Try.prog.cellsOf 32 = 4 := by kernel_rfl
theorem bytes32 : Try.prog.bytesOf 32 = 32 := by kernel_rfl

section
variable {H : Type} {enc : TypeId × Value → H} {P : Program} {w : World} {base : Nat} {spare : Nat → Bool} {held : Bool} {fuel : Nat} {cs : List Value} {x : DataW H × List MemPlace}

theorem trod_obj {k e : TypeId} {n0 n1 n2 : String} {b0 b1 b2 : Bool} {t0 t1 t2 p0 p1 p2 : String} {o0 o1 o2 : Nat}
    (hk : P.underlying k = some (.struct #[⟨n0, e, 0, b0, t0, p0, o0⟩, ⟨n1, e, 1, b1, t1, p1, o1⟩, ⟨n2, e, 2, b2, t2, p2, o2⟩])) (he : P.underlying e = some (.int .i64)) (hc : P.cellsOf k = 3) (hce : P.cellsOf e = 1)
    (h : DataW.trod enc P w base spare held fuel k cs = some x) : ∃ a b c : Int, cs = [.int .i64 a, .int .i64 b, .int .i64 c] ∧ (Lit.int .i64 a).wf = true ∧ (Lit.int .i64 b).wf = true ∧ (Lit.int .i64 c).wf = true := by
  obtain ⟨xs, n, _, _, hlen, hxl, hf⟩ := DataW.trod_struct hk h
  have g0 : DataW.trod enc P w base spare held n e ((cs.drop 0).take (P.cellsOf e)) = xs[0]? := hf 0 _ rfl
  have g1 : DataW.trod enc P w base spare held n e ((cs.drop 1).take (P.cellsOf e)) = xs[1]? := hf 1 _ rfl
  have g2 : DataW.trod enc P w base spare held n e ((cs.drop 2).take (P.cellsOf e)) = xs[2]? := hf 2 _ rfl
  rw [hce] at g0 g1 g2
  simp at hxl
  rw [List.getElem?_eq_getElem (by omega)] at g0 g1 g2
  obtain ⟨a, ha, _, wa⟩ := DataW.trod_int he g0
  obtain ⟨b, hb, _, wb⟩ := DataW.trod_int he g1
  obtain ⟨c, hc', _, wc⟩ := DataW.trod_int he g2
  refine ⟨a, b, c, ?_, wa, wb, wc⟩
  rw [hc] at hlen
  match cs, hlen with
  | [c0, c1, c2], _ => simp_all

theorem trod_deed {d k e : TypeId} {n0 n1 n2 m0 m1 : String} {b0 b1 b2 c0 c1 : Bool} {t0 t1 t2 p0 p1 p2 u0 u1 q0 q1 : String} {o0 o1 o2 r0 r1 : Nat}
    (hd : P.underlying d = some (.struct #[⟨m0, e, 0, c0, u0, q0, r0⟩, ⟨m1, k, 1, c1, u1, q1, r1⟩])) (hcd : P.cellsOf d = 4)
    (hk : P.underlying k = some (.struct #[⟨n0, e, 0, b0, t0, p0, o0⟩, ⟨n1, e, 1, b1, t1, p1, o1⟩, ⟨n2, e, 2, b2, t2, p2, o2⟩])) (he : P.underlying e = some (.int .i64)) (hc : P.cellsOf k = 3) (hce : P.cellsOf e = 1)
    (h : DataW.trod enc P w base spare held fuel d cs = some x) : ∃ a b c f : Int, cs = [.int .i64 a, .int .i64 b, .int .i64 c, .int .i64 f] ∧ (Lit.int .i64 a).wf = true ∧ (Lit.int .i64 b).wf = true ∧ (Lit.int .i64 c).wf = true ∧ (Lit.int .i64 f).wf = true := by
  obtain ⟨xs, n, _, _, hlen, hxl, hf⟩ := DataW.trod_struct hd h
  have g0 : DataW.trod enc P w base spare held n e ((cs.drop 0).take (P.cellsOf e)) = xs[0]? := hf 0 _ rfl
  have g1 : DataW.trod enc P w base spare held n k ((cs.drop 1).take (P.cellsOf k)) = xs[1]? := hf 1 _ rfl
  rw [hce] at g0
  rw [hc] at g1
  simp at hxl
  rw [List.getElem?_eq_getElem (by omega)] at g0 g1
  obtain ⟨a, ha, _, wa⟩ := DataW.trod_int he g0
  obtain ⟨b, c, f, hb, wb, wc, wf⟩ := trod_obj hk he hc hce g1
  refine ⟨a, b, c, f, ?_, wa, wb, wc, wf⟩
  rw [hcd] at hlen
  match cs, hlen with
  | [c0, c1, c2, c3], _ => simp_all
end

/-- The form's own reach, for an argument that is a slice of deeds and stands first. -/
theorem reach_deeds {H : Type} {enc : TypeId × Value → H} {W : World} {a0 : Option Addr} {len cap : Nat} {d : DataW H} {p : List MemPlace} {base : Nat} {sp : Nat → Bool} {ts : List TypeId} {ds : List (DataW H)}
    (h : DataW.Trod enc Try.prog W base sp true 22 (.slice a0 len cap) d p) (hsz : (DataW.weightsEach Try.prog (22 :: ts) (d :: ds)).all (· ≤ reachBytes) = true) : len * 32 ≤ 140737488351232 := by
  obtain ⟨fuel, hf⟩ := h
  rcases open_slice Try.underlying22 hf with ⟨hcs, _⟩ | ⟨a, len', cap', m, n, D, Pl, hcs, _, hl, _, hm, hx, hel⟩
  · simp [Value.cells] at hcs
    omega
  · simp [Value.cells] at hcs
    obtain ⟨rfl, rfl, rfl⟩ := hcs
    simp only [Prod.mk.injEq] at hx
    obtain ⟨rfl, _⟩ := hx
    have := sized_slice hsz (j := 0) (t := 22) (e := 32) rfl rfl Try.underlying22
    rw [bytes32] at this
    simp only [List.length_map, List.length_range, reachBytes] at this
    omega

/-- The argument, opened: its address, and its deeds. -/
theorem open_deeds {H : Type} {enc : TypeId × Value → H} {W : World} {a0 : Option Addr} {len cap : Nat} {d : DataW H} {p : List MemPlace} {base : Nat} {sp : Nat → Bool}
    (h : DataW.Trod enc Try.prog W base sp true 22 (.slice a0 len cap) d p) (hreach : len * 32 ≤ 140737488351232) :
    ∃ (b off : Nat) (l : List Dd), l.length = len ∧ DeedsIn W a0 b off l := by
  obtain ⟨fuel, hf⟩ := h
  rcases open_slice Try.underlying22 hf with ⟨hcs, _⟩ | ⟨a, len', cap', m, n, D, Pl, hcs, _, hl, _, hm, hx, hel⟩
  · simp [Value.cells] at hcs
    obtain ⟨rfl, rfl, rfl⟩ := hcs
    exact ⟨0, 0, [], rfl, by simp, by simp, by simp, by simp, by simp⟩
  · simp [Value.cells] at hcs
    obtain ⟨rfl, rfl, rfl⟩ := hcs
    have hlm : len ≤ m := by rw [hm]; split <;> omega
    have key : ∀ i, i < len → ∃ y : Dd, y.wf ∧ W.cell? (a.add (i * 4)) = some (.int .i64 y.k) ∧ W.cell? ((a.add (i * 4)).add 1) = some (.int .i64 y.x.c) ∧ W.cell? ((a.add (i * 4)).add 2) = some (.int .i64 y.x.s) ∧ W.cell? ((a.add (i * 4)).add 3) = some (.int .i64 y.x.o) := by
      intro i hi
      obtain ⟨cs', hc, ht⟩ := hel i (by omega)
      rw [cells32] at hc
      obtain ⟨_, _, hat⟩ := World.cells?_some hc
      obtain ⟨k, c, s, o, rfl, wk, wc, ws, wo⟩ := trod_deed Try.underlying32 cells32 Try.underlying30 Try.underlying3 cells30 cells3 ht
      exact ⟨⟨k, ⟨c, s, o⟩⟩, ⟨wk, wc, ws, wo⟩, by simpa [Addr.add] using hat 0 (by omega), hat 1 (by omega), hat 2 (by omega), hat 3 (by omega)⟩
    obtain ⟨V, hV⟩ := choose_lt key
    obtain ⟨b, off, spot⟩ := a
    refine ⟨b, off, (List.range len).map V, by simp, ?_⟩
    have hspot : 0 < len → spot = none := fun h0 => by
      have := (hV 0 h0).2.1
      simpa [Addr.add] using World.cell?_spot this
    have hadd : ∀ i j, 0 < len → (({ block := b, off := off, spot := spot } : Addr).add i).add j = ⟨b, off + i + j, none⟩ := fun i j h0 => by
      rw [hspot h0, Addr.add_lit, Addr.add_lit]
    refine ⟨fun h0 => ?_, fun i hi => ?_, fun h0 => ?_, ?_, by simp; omega⟩
    · rw [hspot (by simpa using h0)]
    · have hi' : i < len := by simpa using hi
      obtain ⟨_, h0, h1, h2, h3⟩ := hV i hi'
      rw [hadd _ _ (by omega)] at h1 h2 h3
      have h0' : W.cell? ⟨b, off + i * 4, none⟩ = some (.int .i64 (V i).k) := by
        have := hadd (i * 4) 0 (by omega)
        have e : (({ block := b, off := off, spot := spot } : Addr).add (i * 4)).add 0 = ({ block := b, off := off, spot := spot } : Addr).add (i * 4) := by simp [Addr.add]
        rw [e] at this
        rw [this] at h0
        exact h0
      simp only [List.getElem_map, List.getElem_range]
      exact ⟨h0', h1, h2, h3⟩
    · have h0 : 0 < len := by simpa using h0
      have := (hV 0 h0).2.1
      have hb := World.block_lt_of_cell? W _ this
      simpa [Addr.add] using hb
    · intro y hy
      obtain ⟨i, hi, rfl⟩ := List.mem_map.1 hy
      exact (hV i (by simpa using hi)).1
end Go.Proofs.Ytjaabbjobnfmmaa

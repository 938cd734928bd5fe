/-
  Slices of numbers: how they lie; EqInts.
-/
import Derived.Test.YtjaabbjobnfmmaaLineH
namespace Go.Proofs.Ytjaabbjobnfmmaa
open Go.RowKit

/-- A slice of numbers: where there is an element the address is ⟨b, off⟩; the cells hold the numbers o. -/
structure NumsIn (w : World) (a : Option Addr) (b off : Nat) (o : List Int) : Prop where
  addr : 0 < o.length → a = some ⟨b, off, none⟩
  cells : ∀ j (h : j < o.length), w.cell? ⟨b, off + j, none⟩ = some (.int .i64 o[j])
  lt : 0 < o.length → b < w.heap.size
  small : o.length ≤ 17592186044416

section
variable {w w' : World} {a : Option Addr} {b off : Nat} {o : List Int} {X : Nat → Prop}
theorem NumsIn.frX (h : NumsIn w a b off o) (hf : Fr X w w') (hb : 0 < o.length → ¬ X b) : NumsIn w' a b off o :=
  ⟨h.addr, fun j hj => (hf.cell (p := ⟨b, off + j, none⟩) (h.lt (by omega)) (hb (by omega))).trans (h.cells j hj), fun hl => hf.lt (h.lt hl), h.small⟩
theorem NumsIn.fr0 (h : NumsIn w a b off o) (hf : Fr0 w w') : NumsIn w' a b off o := h.frX hf (fun _ h => h)
theorem size3 (W : World) : (sizeOf 3).run Try.prog W = .ok 1 W := by go_simp
theorem NumsIn.index (h : NumsIn w a b off o) (cap k : Nat) (hk : k < o.length) (W : World) :
    (Instr.indexAt 46 (.slice a o.length cap) (.int .i64 k)).run Try.prog W = .ok (.pointer (some ⟨b, off + k, none⟩)) W := by
  have := index_of (n := o.length) Try.underlying46 W (size3 W) h.addr cap k hk
  simpa using this
theorem NumsIn.nil (w : World) : NumsIn w none 0 0 [] := ⟨fun h => by simp at h, fun j h => by simp at h, fun h => by simp at h, Nat.zero_le _⟩
/-- A slice of numbers that a call has made. -/
theorem IntsOwn.nums {v : Value} {q : List Nat} (h : IntsOwn w w' v q) (hs : q.length ≤ 1000) : ∃ a g cap, v = .slice a q.length cap ∧ NumsIn w' a g 0 (q.map fun i : Nat => (i : Int)) := by
  obtain ⟨a, g, cap, hv, h1, h2, h3, h4, h5, h6, h7⟩ := own_form h
  refine ⟨a, g, cap, hv, fun hl => h1 (by simpa using hl), fun j hj => ?_, fun hl => (h5 (by simpa using hl)).2.2, by simp; omega⟩
  have hj' : j < q.length := by simpa using hj
  rw [Nat.zero_add, h6 j (by omega)]
  simp [hj']
end

/-- Two rows of numbers, compared to place k. -/
theorem take_eq_snoc {o q : List Int} {k : Nat} (h1 : k < o.length) (h2 : k < q.length) (h : o.take k = q.take k) (he : o[k] = q[k]) : o.take (k + 1) = q.take (k + 1) := by
  rw [take_snoc' o k h1, take_snoc' q k h2, h, he]

set_option maxRecDepth 100000 in
set_option maxHeartbeats 4000000 in
theorem eqInts_any (a1 : Option Addr) (b1 off1 cap1 : Nat) (o1 : List Int) (a2 : Option Addr) (b2 off2 cap2 : Nat) (o2 : List Int) (w : World) (h1 : NumsIn w a1 b1 off1 o1) (h2 : NumsIn w a2 b2 off2 o2) :
    Calls Try.prog 30 #[.slice a1 o1.length cap1, .slice a2 o2.length cap2] w fun e w' => e = .returned (.bool (decide (o1 = o2))) ∧ Fr0 w w' := by
  by_cases hl : o1.length = o2.length
  · have hlb : ((o1.length : Int) != (o2.length : Int)) = false := by simp [hl]
    have HL := hid hl
    have hs1 := h1.small
    have H := hid (And.intro h1 h2)
    clear h1 h2 hl
    go_enter Try.func30, Try.ntmps30
    go_wp2_with fail
    go_loopw [5] (fun i wr => ∃ k : Nat, i = .int .i64 k ∧ k ≤ o1.length ∧ Hid (Fr0 w wr ∧ o1.take k = o2.take k)) (fun i _ => o1.length - (intOf i).toNat)
    case atStart => exact ⟨0, rfl, Nat.zero_le _, hid ⟨Fr.refl _ _, rfl⟩⟩
    case round =>
      obtain ⟨k, rfl, hk, hR⟩ := hrel
      by_cases hlt : k < o1.length
      · have hlt2 : k < o2.length := by have := HL.out; omega
        have i1 := fun W => H.out.1.index cap1 k hlt W
        have i2 := fun W => H.out.2.index cap2 k hlt2 W
        have c1 := (H.out.1.fr0 hR.out.1).cells k hlt
        have c2 := (H.out.2.fr0 hR.out.1).cells k hlt2
        have HE := hid (take_eq_snoc hlt hlt2 hR.out.2)
        have HN : Hid (o1[k] ≠ o2[k] → o1 ≠ o2) := hid (fun hn he => by subst he; exact hn rfl)
        generalize o1[k] = x at c1 HE HN
        generalize o2[k] = y at c2 HE HN
        cases hxy : (x != y) with
        | true =>
          have HX := hid (HN.out (by simpa using hxy))
          go_wp2
          go_quiet (fail)
          go_wp2
          go_ret
          exact ⟨by rw [decide_eq_false HX.out]; rfl, hR.out.1.drewN _⟩
        | false =>
          have HX := hid (HE.out (by simpa using hxy))
          go_wp2
          go_quiet (fail)
          go_wp2
          go_roundw
          case rel => exact ⟨k + 1, by go_num, by omega, hid ⟨hR.out.1.drewN _, HX.out⟩⟩
          case measure => simp [intOf]; omega
      · have hkl : k = o1.length := by omega
        subst hkl
        have HX : Hid (o1 = o2) := hid (by
          have := hR.out.2
          rw [List.take_of_length_le (Nat.le_refl _), List.take_of_length_le (by rw [HL.out]; exact Nat.le_refl _)] at this
          exact this)
        go_wp2
        go_ret
        exact ⟨by rw [decide_eq_true HX.out]; rfl, hR.out.1⟩
  · have hlb : ((o1.length : Int) != (o2.length : Int)) = true := by simp; omega
    have HX : Hid (o1 ≠ o2) := hid (fun e => hl (by rw [e]))
    clear hl h1 h2
    go_enter Try.func30, Try.ntmps30
    go_wp2
    go_ret
    exact ⟨by rw [decide_eq_false HX.out]; rfl, Fr.refl _ _⟩
end Go.Proofs.Ytjaabbjobnfmmaa

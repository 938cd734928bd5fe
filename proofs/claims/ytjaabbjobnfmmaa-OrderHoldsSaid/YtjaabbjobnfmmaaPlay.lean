/-
  The program's heap: Play, at every list of deeds.
-/
import Derived.Test.YtjaabbjobnfmmaaHeapC
namespace Go.Proofs.Ytjaabbjobnfmmaa
open Go.RowKit

/-- A deed: its kind, its object. -/
structure Dd where
  k : Int
  x : Ob
deriving DecidableEq

def Dd.wf (d : Dd) : Prop := (Lit.int .i64 d.k).wf = true ∧ d.x.wf

/-- A slice of deeds: where there is an element the address is ⟨b, off⟩; the cells hold the deeds l. -/
structure DeedsIn (w : World) (a : Option Addr) (b off : Nat) (l : List Dd) : Prop where
  addr : 0 < l.length → a = some ⟨b, off, none⟩
  cells : ∀ i (h : i < l.length), w.cell? ⟨b, off + i * 4, none⟩ = some (.int .i64 l[i].k) ∧ w.cell? ⟨b, off + i * 4 + 1, none⟩ = some (.int .i64 l[i].x.c) ∧
    w.cell? ⟨b, off + i * 4 + 2, none⟩ = some (.int .i64 l[i].x.s) ∧ w.cell? ⟨b, off + i * 4 + 3, none⟩ = some (.int .i64 l[i].x.o)
  lt : 0 < l.length → b < w.heap.size
  wf : ∀ d ∈ l, d.wf
  small : l.length ≤ 4398046511104

theorem DeedsIn.fr {X : Nat → Prop} {w w' : World} {a : Option Addr} {b off : Nat} {l : List Dd} (h : DeedsIn w a b off l) (hf : Fr X w w') (hb : ¬ X b) : DeedsIn w' a b off l :=
  ⟨h.addr, fun i hi => by
    have hl := h.lt (by omega)
    obtain ⟨h0, h1, h2, h3⟩ := h.cells i hi
    exact ⟨(hf.cell (p := ⟨b, _, none⟩) hl hb).trans h0, (hf.cell (p := ⟨b, _, none⟩) hl hb).trans h1, (hf.cell (p := ⟨b, _, none⟩) hl hb).trans h2, (hf.cell (p := ⟨b, _, none⟩) hl hb).trans h3⟩,
    fun hl => hf.lt (h.lt hl), h.wf, h.small⟩

theorem elem22 : Try.prog.elem 22 = 32 := by simp [Program.elem, Try.underlying22]
theorem DeedsIn.index {w : World} {a : Option Addr} {b off : Nat} {l : List Dd} (h : DeedsIn w a b off l) (cap : Nat) (k : Nat) (hk : k < l.length) (W : World) :
    (Instr.indexAt 22 (.slice a l.length cap) (.int .i64 k)).run Try.prog W = .ok (.pointer (some ⟨b, off + k * 4, none⟩)) W := by
  have hs : (sizeOf 32).run Try.prog W = .ok 4 W := by go_simp
  rw [h.addr (by omega), run_indexAt_slice W 22 ⟨b, off, none⟩ l.length cap .i64 k (by rw [elem22]; exact Try.underlying22), if_pos ⟨by omega, by omega⟩, elem22, hs]
  simp only [Result.andThen_ok, Int.toNat_natCast, Addr.add]
  by_cases h0 : k = 0
  · subst h0; simp
  · rw [if_neg (by omega)]

/-- What Play answers from deed i on, S being out. -/
def hplay (S : List Ob) : Nat → List Dd → Int × Int
  | _, [] => (0, 0)
  | i, d :: l => if (hdo S d.k d.x).1 ≠ 0 then (i, (hdo S d.k d.x).1) else hplay (hdo S d.k d.x).2 (i + 1) l

theorem hplay_stop (S : List Ob) (l : List Dd) (k : Nat) (hk : k < l.length) (h : (hdo S l[k].k l[k].x).1 ≠ 0) : hplay S k (l.drop k) = ((k : Int), (hdo S l[k].k l[k].x).1) := by
  rw [List.drop_eq_getElem_cons hk, hplay, if_pos h]
theorem hplay_go (S : List Ob) (l : List Dd) (k : Nat) (hk : k < l.length) (h : (hdo S l[k].k l[k].x).1 = 0) : hplay S k (l.drop k) = hplay (hdo S l[k].k l[k].x).2 (k + 1) (l.drop (k + 1)) := by
  rw [List.drop_eq_getElem_cons hk, hplay, if_neg (by simp [h])]

set_option maxHeartbeats 400000 in
theorem play_any (a : Option Addr) (b off cap : Nat) (l : List Dd) (w : World) (h : DeedsIn w a b off l) :
    Calls Try.prog 16 #[.slice a l.length cap] w fun e w' => e = .returned (.tuple #[.int .i64 (hplay [] 0 l).1, .int .i64 (hplay [] 0 l).2]) ∧ Fr0 w w' := by
  have hsm := h.small
  have HD := hid h
  clear h
  go_enter Try.func16, Try.ntmps16
  go_wp2_with (go_at_call 21; refine (new_any _).mono ?_; rintro e w1 ⟨rfl, hf1, hh1⟩)
  have HE := hid (show (hplay [] 0 l) = hplay [] 0 (l.drop 0) by simp)
  go_loopw [11] (fun i wr => ∃ (k : Nat) (S : List Ob), k ≤ l.length ∧ i = .int .i64 k ∧ HeapIs wr (w.heap.size + 1) w.heap.size S ∧ Fr0 w wr ∧ Hid (hplay [] 0 l = hplay S k (l.drop k)))
    (fun i _ => l.length - (intOf i).toNat)
  case atStart => exact ⟨0, [], Nat.zero_le _, rfl, hh1, hf1, HE⟩
  case round =>
    obtain ⟨k, S, hk, rfl, hH, hF, hE⟩ := hrel
    by_cases hlt : k < l.length
    · have hdi := HD.out.fr hF (fun h => h)
      have hix := hdi.index cap k hlt
      obtain ⟨c0, c1, c2, c3⟩ := hdi.cells k hlt
      have hDo := do_any (w.heap.size + 1) w.heap.size S l[k].x (hdi.wf _ (List.getElem_mem hlt)).2 l[k].k (wr.alloc (.cells #[.int .i64 l[k].k, .int .i64 l[k].x.c, .int .i64 l[k].x.s, .int .i64 l[k].x.o] 32)) (hH.fr0 (fr0_alloc _ _))
      have HG := hid hdi
      have HF := hid hF
      have HS := hid hH
      by_cases hc : (hdo S l[k].k l[k].x).1 = 0
      · rw [hc] at hDo
        have HC := hid hc
        clear hdi hF hH hc
        go_wp2_with (go_at_call 22; refine hDo.mono ?_; rintro e w2 ⟨rfl, hf2, hh2⟩)
        go_roundw
        case rel => exact ⟨k + 1, _, by omega, by go_num, hh2, (HF.out.alloc _).trans hf2 (by intro i hi e; omega), hid (hE.out.trans (hplay_go S l k hlt HC.out))⟩
        case measure => simp [intOf]; omega
      · have HC := hid (hplay_stop S l k hlt hc)
        have hc' : ((hdo S l[k].k l[k].x).1 != 0) = true := by simpa using hc
        generalize (hdo S l[k].k l[k].x).1 = code at hDo hc' HC
        clear hdi hF hH hc
        go_wp2_with (go_at_call 22; refine hDo.mono ?_; rintro e w2 ⟨rfl, hf2, hh2⟩)
        go_ret2
        refine ⟨by rw [hE.out, HC.out]; rfl, (HF.out.alloc _).trans hf2 (by intro i hi e; omega)⟩
    · have hk : k = l.length := by omega
      subst hk
      have HF := hid hF
      clear hF hH
      go_wp2
      go_ret2
      exact ⟨by rw [hE.out]; simp [hplay], HF.out⟩
end Go.Proofs.Ytjaabbjobnfmmaa

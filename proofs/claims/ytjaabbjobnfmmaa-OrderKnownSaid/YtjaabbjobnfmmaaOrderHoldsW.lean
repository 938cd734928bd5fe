/-
  OrderHolds, walked.
-/
import Derived.Test.YtjaabbjobnfmmaaRefHolds
namespace Go.Proofs.Ytjaabbjobnfmmaa
open Go.RowKit

theorem NumsIn.upto {w : World} {a : Option Addr} {b off : Nat} {o : List Int} (h : NumsIn w a b off o) (n : Nat) : NumsIn w a b off (o.take n) := by
  refine ⟨fun h0 => h.addr (by simp at h0; omega), fun j hj => ?_, fun h0 => h.lt (by simp at h0; omega), by have := h.small; simp; omega⟩
  rw [h.cells j (by simp at hj; omega)]
  simp
theorem SpansIn.upto {w : World} {a : Option Addr} {b off : Nat} {l : List Sp} (h : SpansIn w a b off l) (n : Nat) : SpansIn w a b off (l.take n) := by
  refine ⟨fun h0 => h.addr (by simp at h0; omega), fun j hj => ?_, fun h0 => h.lt (by simp at h0; omega), fun d hd => h.wf d (List.mem_of_mem_take hd), by have := h.small; simp; omega⟩
  rw [h.cells j (by simp at hj; omega), ← flat_take enc6, List.getElem?_take, if_pos (by simp at hj; omega)]

set_option maxRecDepth 100000 in
set_option maxHeartbeats 4000000 in
theorem orderHolds_walk (a : Option Addr) (b off cap : Nat) (l : List Sp) (a2 : Option Addr) (b2 off2 cap2 : Nat) (o : List Int) (w : World) (h : SpansIn w a b off l) (h2 : NumsIn w a2 b2 off2 o) (hc1 : l.length ≤ cap) (hc2 : o.length ≤ cap2) :
    Calls Try.prog 8 #[.slice a l.length cap, .slice a2 o.length cap2] w fun e w' => e = .returned (.bool true) ∧ Fr0 w w' := by
  have hs1 := h.small
  have hs2 := h2.small
  by_cases q1 : l.length ≤ 100 <;> by_cases q2 : o.length ≤ 120
  · have e1 : l.length = l.length := by simp; try omega
    have e2 : o.length = o.length := by simp; try omega
    have HS : Hid (SpansIn w a b off l) := hid (h)
    have HN : Hid (NumsIn w a2 b2 off2 o) := hid (h2)
    have H1 := hid (holds_any a b off cap l a2 b2 off2 cap2 o w HS.out HN.out)
    have H2 : Hid (∀ W, Fr0 w W → _) := hid (fun W hW => refHolds_any a b off cap l a2 b2 off2 cap2 o W (HS.out.fr0 hW) (HN.out.fr0 hW) (by rw [e2]; omega))
    rw [e1, e2] at H1 H2
    generalize holdsM l o = r at H1 H2
    clear e1 e2 h h2
    go_enter Try.func8, Try.ntmps8
    go_wp2_with fail
    refine H1.out.mono ?_
    rintro e w1 ⟨rfl, hf1⟩
    have HF := hid hf1
    clear hf1
    go_wp2_with fail
    refine (H2.out _ HF.out).mono ?_
    rintro e w2 ⟨rfl, hf2⟩
    have HF2 := hid (HF.out.trans0 hf2)
    clear hf2
    have hrr : (r == r) = true := by simp
    go_wp2_with fail
    refine (works28_any _).mono ?_
    rintro e w3 ⟨rfl, hf3⟩
    go_wp2
    go_ret
    exact ⟨rfl, HF2.out.trans0 hf3⟩
  · have e1 : l.length = l.length := by simp; try omega
    have e2 : (o.take 120).length = 120 := by simp; try omega
    have HS : Hid (SpansIn w a b off l) := hid (h)
    have HN : Hid (NumsIn w a2 b2 off2 (o.take 120)) := hid (h2.upto 120)
    have H1 := hid (holds_any a b off cap l a2 b2 off2 cap2 (o.take 120) w HS.out HN.out)
    have H2 : Hid (∀ W, Fr0 w W → _) := hid (fun W hW => refHolds_any a b off cap l a2 b2 off2 cap2 (o.take 120) W (HS.out.fr0 hW) (HN.out.fr0 hW) (by rw [e2]; omega))
    rw [e1, e2] at H1 H2
    generalize holdsM l (o.take 120) = r at H1 H2
    clear e1 e2 h h2
    go_enter Try.func8, Try.ntmps8
    go_wp2_with fail
    refine H1.out.mono ?_
    rintro e w1 ⟨rfl, hf1⟩
    have HF := hid hf1
    clear hf1
    go_wp2_with fail
    refine (H2.out _ HF.out).mono ?_
    rintro e w2 ⟨rfl, hf2⟩
    have HF2 := hid (HF.out.trans0 hf2)
    clear hf2
    have hrr : (r == r) = true := by simp
    go_wp2_with fail
    refine (works28_any _).mono ?_
    rintro e w3 ⟨rfl, hf3⟩
    go_wp2
    go_ret
    exact ⟨rfl, HF2.out.trans0 hf3⟩
  · have e1 : (l.take 100).length = 100 := by simp; try omega
    have e2 : o.length = o.length := by simp; try omega
    have HS : Hid (SpansIn w a b off (l.take 100)) := hid (h.upto 100)
    have HN : Hid (NumsIn w a2 b2 off2 o) := hid (h2)
    have H1 := hid (holds_any a b off cap (l.take 100) a2 b2 off2 cap2 o w HS.out HN.out)
    have H2 : Hid (∀ W, Fr0 w W → _) := hid (fun W hW => refHolds_any a b off cap (l.take 100) a2 b2 off2 cap2 o W (HS.out.fr0 hW) (HN.out.fr0 hW) (by rw [e2]; omega))
    rw [e1, e2] at H1 H2
    generalize holdsM (l.take 100) o = r at H1 H2
    clear e1 e2 h h2
    go_enter Try.func8, Try.ntmps8
    go_wp2_with fail
    refine H1.out.mono ?_
    rintro e w1 ⟨rfl, hf1⟩
    have HF := hid hf1
    clear hf1
    go_wp2_with fail
    refine (H2.out _ HF.out).mono ?_
    rintro e w2 ⟨rfl, hf2⟩
    have HF2 := hid (HF.out.trans0 hf2)
    clear hf2
    have hrr : (r == r) = true := by simp
    go_wp2_with fail
    refine (works28_any _).mono ?_
    rintro e w3 ⟨rfl, hf3⟩
    go_wp2
    go_ret
    exact ⟨rfl, HF2.out.trans0 hf3⟩
  · have e1 : (l.take 100).length = 100 := by simp; try omega
    have e2 : (o.take 120).length = 120 := by simp; try omega
    have HS : Hid (SpansIn w a b off (l.take 100)) := hid (h.upto 100)
    have HN : Hid (NumsIn w a2 b2 off2 (o.take 120)) := hid (h2.upto 120)
    have H1 := hid (holds_any a b off cap (l.take 100) a2 b2 off2 cap2 (o.take 120) w HS.out HN.out)
    have H2 : Hid (∀ W, Fr0 w W → _) := hid (fun W hW => refHolds_any a b off cap (l.take 100) a2 b2 off2 cap2 (o.take 120) W (HS.out.fr0 hW) (HN.out.fr0 hW) (by rw [e2]; omega))
    rw [e1, e2] at H1 H2
    generalize holdsM (l.take 100) (o.take 120) = r at H1 H2
    clear e1 e2 h h2
    go_enter Try.func8, Try.ntmps8
    go_wp2_with fail
    refine H1.out.mono ?_
    rintro e w1 ⟨rfl, hf1⟩
    have HF := hid hf1
    clear hf1
    go_wp2_with fail
    refine (H2.out _ HF.out).mono ?_
    rintro e w2 ⟨rfl, hf2⟩
    have HF2 := hid (HF.out.trans0 hf2)
    clear hf2
    have hrr : (r == r) = true := by simp
    go_wp2_with fail
    refine (works28_any _).mono ?_
    rintro e w3 ⟨rfl, hf3⟩
    go_wp2
    go_ret
    exact ⟨rfl, HF2.out.trans0 hf3⟩

theorem orderHolds_walk2 (a : Option Addr) (b off cap : Nat) (l : List Sp) (a2 : Option Addr) (b2 off2 cap2 : Nat) (o : List Int) (w : World) (h : SpansIn w a b off l) (hc1 : l.length ≤ cap) (h2 : NumsIn w a2 b2 off2 o) (hc2 : o.length ≤ cap2) :
    Calls Try.prog 8 #[.slice a l.length cap, .slice a2 o.length cap2] w fun e w' => e = .returned (.bool true) ∧ Fr0 w w' := orderHolds_walk a b off cap l a2 b2 off2 cap2 o w h h2 hc1 hc2
end Go.Proofs.Ytjaabbjobnfmmaa

/-
  The document's Check.
-/
import Derived.Test.YtjaabbjobnfmmaaSpan
import Derived.Deep.RegionHeld3
import Derived.Deep.DeepCutAuto
namespace Go.Proofs.Ytjaabbjobnfmmaa
open Go.RowKit

/-- A call in a box of its own. -/
def SpanAt (w : World) (b : Nat) (x : Sp) : Prop := w.heap[b]? = some (.cells #[.int .i64 x.d.k, .int .i64 x.d.x.c, .int .i64 x.d.x.s, .int .i64 x.d.x.o, .int .i64 x.f, .int .i64 x.t] 50 (0, 0))
theorem SpanAt.cells {w : World} {b : Nat} {x : Sp} (h : SpanAt w b x) : w.cell? ⟨b, 0, none⟩ = some (.int .i64 x.d.k) ∧ w.cell? ⟨b, 1, none⟩ = some (.int .i64 x.d.x.c) ∧ w.cell? ⟨b, 2, none⟩ = some (.int .i64 x.d.x.s) ∧
    w.cell? ⟨b, 3, none⟩ = some (.int .i64 x.d.x.o) ∧ w.cell? ⟨b, 4, none⟩ = some (.int .i64 x.f) ∧ w.cell? ⟨b, 5, none⟩ = some (.int .i64 x.t) :=
  ⟨cell_of_block h 0, cell_of_block h 1, cell_of_block h 2, cell_of_block h 3, cell_of_block h 4, cell_of_block h 5⟩

set_option maxRecDepth 100000 in
set_option maxHeartbeats 4000000 in
theorem refCheck_any (a : Option Addr) (b off cap : Nat) (l : List Sp) (w : World) (h : SpansIn w a b off l) :
    Calls Try.prog 29 #[.slice a l.length cap] w fun e w' => e = .returned (.int .i64 (chk l)) ∧ Fr0 w w' := by
  have hsm := h.small
  have H := hid h
  clear h
  by_cases hl : 256 < l.length
  · have e1 : chk l = 5 := by unfold chk; rw [if_pos hl]
    rw [e1]
    clear H e1
    go_enter Try.func29, Try.ntmps29
    go_wp2
    go_ret
    exact ⟨rfl, Fr.refl _ _⟩
  · have e1 : chk l = if l.all mayB then 0 else 2 := by unfold chk; rw [if_neg hl]
    have HC := hid e1
    clear e1
    go_enter Try.func29, Try.ntmps29
    go_wp2_with fail
    go_loopw [4] (fun i wr => ∃ k : Nat, i = .int .i64 k ∧ k ≤ l.length ∧ Hid (Fr0 w wr ∧ BoxAt wr w.heap.size zob ∧ ∀ j (hj : j < l.length), j < k → mayB l[j] = true)) (fun i _ => l.length - (intOf i).toNat)
    case atStart => exact ⟨0, rfl, Nat.zero_le _, hid ⟨fr0_alloc _ _, alloc_block _ _, by omega⟩⟩
    case round =>
      obtain ⟨k, rfl, hk, hR⟩ := hrel
      by_cases hlt : k < l.length
      · have HS := hid (H.out.fr0 hR.out.1)
        have hix := HS.out.index cap k hlt
        obtain ⟨c0, c1, c2, c3, c4, c5⟩ := HS.out.at k hlt
        obtain ⟨z0, z1, z2⟩ := hR.out.2.1.cells
        simp only [zob] at z0 z1 z2
        go_upto_region 8 with (fail)
        generalize hW : wr.alloc _ = W1
        have hb1 : Hid (SpanAt W1 wr.heap.size l[k]) := hid (hW ▸ alloc_block wr _)
        have hz1 : Hid (BoxAt W1 w.heap.size zob) := hid (hW ▸ (fr0_alloc wr _).at hR.out.2.1 (fun h => h))
        have hf1 : Hid (Fr0 w W1) := hid (hW ▸ hR.out.1.trans0 (fr0_alloc wr _))
        clear hW c0 c1 c2 c3 c4 c5 z0 z1 z2
        have hgd := guard30
        have heq := fun W => eql30 l[k].d.x zob W
        obtain ⟨kb, hkb⟩ : ∃ kb, kb = kindB l[k].d := ⟨_, rfl⟩
        have HKB := hid hkb
        clear hkb
        go_cut [6] (fun t6 wx => t6 = .bool kb ∧ W1 = wx)
        case first =>
          obtain ⟨c0, c1, c2, c3, c4, c5⟩ := hb1.out.cells
          obtain ⟨z0, z1, z2⟩ := hz1.out.cells
          simp only [zob] at z0 z1 z2
          rcases kind_ways l[k].d with ⟨h1, hr⟩ | ⟨h1, h2, hr⟩ | ⟨h1, h2, h3, hr⟩ | ⟨h1, h2, hr⟩ | ⟨h1, h2, hr⟩
          · obtain rfl : kb = _ := HKB.out.trans hr
            clear heq hr
            go_wp2_with fail
            go_meet
            exact ⟨rfl, rfl⟩
          · obtain rfl : kb = _ := HKB.out.trans hr
            have h2' : decide (l[k].d.k ≤ 4) = false := by simp; omega
            clear heq hr h2
            go_wp2_with fail
            go_meet
            exact ⟨rfl, rfl⟩
          · obtain rfl : kb = _ := HKB.out.trans hr
            have h3' : (l[k].d.k != 2) = true := by simp [h3]
            clear heq hr h3
            go_wp2_with fail
            go_meet
            exact ⟨rfl, rfl⟩
          · obtain rfl : kb = _ := HKB.out.trans hr
            rw [decide_eq_true h2] at heq
            simp only [Ob.val, zob] at heq
            have k1 : decide (1 ≤ l[k].d.k) = true := by simp [h1]
            have k2 : decide (l[k].d.k ≤ 4) = true := by simp [h1]
            have k3 : (l[k].d.k != 2) = false := by simp [h1]
            clear hr h2 h1
            go_wp2_with fail
            go_meet
            exact ⟨rfl, rfl⟩
          · obtain rfl : kb = _ := HKB.out.trans hr
            rw [decide_eq_false h2] at heq
            simp only [Ob.val, zob] at heq
            have k1 : decide (1 ≤ l[k].d.k) = true := by simp [h1]
            have k2 : decide (l[k].d.k ≤ 4) = true := by simp [h1]
            have k3 : (l[k].d.k != 2) = false := by simp [h1]
            clear hr h2 h1
            go_wp2_with fail
            go_meet
            exact ⟨rfl, rfl⟩
        case rest =>
          obtain ⟨rfl, rfl⟩ := hcut
          clear heq
          go_upto_region 9 with (fail)
          obtain ⟨tb, htb⟩ : ∃ tb, tb = timeB l[k].f l[k].t := ⟨_, rfl⟩
          have HTB := hid htb
          clear htb
          go_cut [7] (fun t7 wx => t7 = .bool tb ∧ W1 = wx)
          case first =>
            obtain ⟨c0, c1, c2, c3, c4, c5⟩ := hb1.out.cells
            rcases time_ways l[k].f l[k].t with ⟨q1, hr⟩ | ⟨q1, q2, q0, hr⟩ | ⟨q1, q0, q2, q3, hr⟩ | ⟨q1, q0, q2, q3, q4, q5, hr⟩ | ⟨q1, q0, q2, q3, q4, hr⟩
            · obtain rfl : tb = _ := HTB.out.trans hr
              clear hr
              go_wp2_with fail
              go_meet
              exact ⟨rfl, rfl⟩
            · obtain rfl : tb = _ := HTB.out.trans hr
              clear hr q2
              rcases q0 with q0 | ⟨q0, q3, q4, q5⟩
              · have q0' : decide (l[k].f ≤ 9007199254740991) = false := by simp; omega
                clear q0
                go_wp2_with fail
                go_meet
                exact ⟨rfl, rfl⟩
              · have q3' : (l[k].t == -1) = false := by simp [q3]
                have q5' : decide (l[k].t ≤ 9007199254740991) = false := by simp; omega
                clear q3 q5
                go_wp2_with fail
                go_meet
                exact ⟨rfl, rfl⟩
            · obtain rfl : tb = _ := HTB.out.trans hr
              have q3' : (l[k].t == -1) = true := by simp [q3]
              clear hr q3 q2
              go_wp2_with fail
              go_meet
              exact ⟨rfl, rfl⟩
            · obtain rfl : tb = _ := HTB.out.trans hr
              have q3' : (l[k].t == -1) = false := by simp [q3]
              clear hr q3 q2
              go_wp2_with fail
              go_meet
              exact ⟨rfl, rfl⟩
            · obtain rfl : tb = _ := HTB.out.trans hr
              have q3' : (l[k].t == -1) = false := by simp [q3]
              have q4' : decide (l[k].f ≤ l[k].t) = false := by simp; omega
              clear hr q3 q4 q2
              go_wp2_with fail
              go_meet
              exact ⟨rfl, rfl⟩
          case rest =>
            obtain ⟨rfl, rfl⟩ := hcut
            have HY : Hid (mayB l[k] = (kb && tb)) := hid (by unfold mayB; rw [← HKB.out, ← HTB.out])
            clear HKB HTB
            have hno : Hid (mayB l[k] = false → chk l = 2) := hid (fun hm => by
              rw [HC.out, if_neg]
              rw [List.all_eq_true]
              intro h
              have := h _ (List.getElem_mem hlt)
              rw [hm] at this
              cases this)
            cases kb with
            | false =>
              go_wp2
              go_ret
              exact ⟨by rw [hno.out (by rw [HY.out]; rfl)]; rfl, hf1.out⟩
            | true =>
              cases tb with
              | false =>
                go_wp2
                go_ret
                exact ⟨by rw [hno.out (by rw [HY.out]; rfl)]; rfl, hf1.out⟩
              | true =>
                have HE : Hid (Fr0 w W1 ∧ BoxAt W1 w.heap.size zob ∧ ∀ j (hj : j < l.length), j < k + 1 → mayB l[j] = true) := hid ⟨hf1.out, hz1.out, fun j hj hjk => by
                  by_cases e : j = k
                  · subst e; exact HY.out
                  · exact hR.out.2.2 j hj (by omega)⟩
                go_wp2
                go_roundw
                case rel => exact ⟨k + 1, by go_num, by omega, HE⟩
                case measure => simp [intOf]; omega
      · have HE : Hid (chk l = 0 ∧ Fr0 w wr) := hid ⟨by
          rw [HC.out, if_pos]
          rw [List.all_eq_true]
          intro x hx
          obtain ⟨j, hj, rfl⟩ := List.getElem_of_mem hx
          exact hR.out.2.2 j hj (by omega), hR.out.1⟩
        clear hR
        go_wp2
        go_ret
        exact ⟨by rw [HE.out.1]; rfl, HE.out.2⟩
end Go.Proofs.Ytjaabbjobnfmmaa

/-
  The walk of HeapAlone.
-/
import Derived.Test.YtjaabbjobnfmmaaAloneLaw
import Derived.Test.YtjaabbjobnfmmaaWorksB
namespace Go.Proofs.Ytjaabbjobnfmmaa
open Go.RowKit

def brg (a : Int) (n : Int) : Int := if a.tmod n < 0 then a.tmod n + n else a.tmod n

theorem brg_range (a n : Int) (hn : 0 < n) : 0 ≤ brg a n ∧ brg a n < n := by
  have h1 := Int.tmod_lt_of_pos a hn
  have h2 := Int.lt_tmod_of_pos a hn
  unfold brg
  split <;> omega

set_option maxHeartbeats 800000 in
theorem bring4 (a : Int) (w : World) : Calls Try.prog 19 #[.int .i64 a, .int .i64 4] w fun e w' => e = .returned (.int .i64 (brg a 4)) ∧ w' = w := by
  have h1 := Int.tmod_lt_of_pos a (show (0:Int) < 4 by decide)
  have h2 := Int.lt_tmod_of_pos a (show (0:Int) < 4 by decide)
  by_cases h : a.tmod 4 < 0
  · have hb : brg a 4 = a.tmod 4 + 4 := by simp [brg, h]
    rw [hb]
    clear hb
    go_enter Try.func19, Try.ntmps19
    go_wp2
    go_ret
    exact ⟨by rfl, rfl⟩
  · have hb : brg a 4 = a.tmod 4 := by simp [brg, h]
    rw [hb]
    clear hb
    go_enter Try.func19, Try.ntmps19
    go_wp2
    go_ret
    exact ⟨by rfl, rfl⟩

/-- A deed, brought to be of one of the kinds. -/
def nrm (d : Dd) : Dd := if 1 + brg d.k 4 = 2 then ⟨2, zob⟩ else ⟨1 + brg d.k 4, d.x⟩

theorem nrm_is (d : Dd) : Nrm (nrm d) := by
  have := brg_range d.k 4 (by decide)
  unfold nrm
  split
  · exact ⟨by decide, by decide, fun _ => rfl⟩
  · rename_i h
    exact ⟨by dsimp only; omega, by dsimp only; omega, fun e => absurd e h⟩

theorem nrm_wf {d : Dd} (h : d.wf) : (nrm d).wf := by
  have := brg_range d.k 4 (by decide)
  unfold nrm
  split
  · exact ⟨by decide, by decide, by decide, by decide⟩
  · refine ⟨?_, h.2⟩
    generalize brg d.k 4 = z at *
    have hz : z = 0 ∨ z = 1 ∨ z = 2 ∨ z = 3 := by omega
    rcases hz with rfl | rfl | rfl | rfl
    · exact (by decide : (Lit.int .i64 (1 + 0)).wf = true)
    · exact (by decide : (Lit.int .i64 (1 + 1)).wf = true)
    · exact (by decide : (Lit.int .i64 (1 + 2)).wf = true)
    · exact (by decide : (Lit.int .i64 (1 + 3)).wf = true)

/-- How the first loop stands. -/
structure NrmRel (w wr : World) (a : Option Addr) (b off : Nat) (l : List Dd) (v : Value) (k : Nat) : Prop where
  le : k ≤ l.length
  le80 : k ≤ 80
  own : OwnD wr w.heap.size v ((l.map nrm).take k)
  blt : 0 < l.length → b < w.heap.size
  fr : Fr0 w wr
  deeds : DeedsIn wr a b off l

theorem nrm_snoc (l : List Dd) (k : Nat) (hk : k < l.length) : (l.map nrm).take (k + 1) = (l.map nrm).take k ++ [nrm l[k]] := by
  rw [take_snoc' (l.map nrm) k (by simpa using hk)]
  simp
theorem map_len {l : List Dd} {k : Nat} (hk : k ≤ l.length) : ((l.map nrm).take k).length = k := by
  rw [List.length_take, List.length_map]
  omega

section
variable {w wr w' : World} {b off : Nat} {a : Option Addr} {l : List Dd} {v : Value} {k : Nat}
theorem NrmRel.fr0 (h : NrmRel w wr a b off l v k) (hf : Fr0 wr w') : NrmRel w w' a b off l v k :=
  ⟨h.le, h.le80, own_fr0 h.own hf, h.blt, h.fr.trans0 hf, h.deeds.fr hf (fun h => h)⟩
theorem NrmRel.snoc (h : NrmRel w wr a b off l v k) (hk : k < l.length) (h80 : k < 80) {v' : Value} {w' : World} {o : Obj}
    (hown : w'.ownsRow w.heap.size 32 4 v' (k + 1) (flat Dd.enc ((l.map nrm).take k) ++ (nrm l[k]).enc)) (hg : (wr.alloc o).grownBy w' v.ownBlock) : NrmRel w w' a b off l v' (k + 1) := by
  have hb : ∀ i, some i = v.ownBlock → w.heap.size ≤ i := fun i e => (h.own.lt i e.symm).1
  have hf : Fr (fun i => some i = v.ownBlock) wr w' := (fr0_alloc wr o |>.mono (fun _ _ h => h.elim)).grown hg (fun _ _ h => h)
  refine ⟨by omega, by omega, by rw [nrm_snoc l k hk]; exact ownD_snoc (by rw [map_len h.le]; exact hown), h.blt, h.fr.trans hf (fun i hi e => by have := hb i e; omega), h.deeds.frX hf (fun hl e => by have := hb b e; have := h.blt hl; omega)⟩
end

/-- A deed in a box. -/
def DBox (w : World) (q : Nat) (k c s o : Int) : Prop := w.heap[q]? = some (.cells #[.int .i64 k, .int .i64 c, .int .i64 s, .int .i64 o] 32 (0, 0))

theorem DBox.cells {w : World} {q : Nat} {k c s o : Int} (h : DBox w q k c s o) : (w.cell? ⟨q, 0, none⟩ = some (.int .i64 k) ∧ w.cell? ⟨q, 1, none⟩ = some (.int .i64 c) ∧ w.cell? ⟨q, 2, none⟩ = some (.int .i64 s) ∧ w.cell? ⟨q, 3, none⟩ = some (.int .i64 o)) ∧
    (w.frozen? ⟨q, 1, none⟩ = false ∧ w.frozen? ⟨q, 2, none⟩ = false ∧ w.frozen? ⟨q, 3, none⟩ = false) :=
  ⟨⟨cell_of_block h 0, cell_of_block h 1, cell_of_block h 2, cell_of_block h 3⟩, free_of_block h 1, free_of_block h 2, free_of_block h 3⟩

theorem fr0_zeros {w w1 : World} {q : Nat} (h : Fr0 w w1 ∧ w.heap.size ≤ q) (x y z : Value) : Fr0 w (((w1.setCell ⟨q, 1, none⟩ x).setCell ⟨q, 2, none⟩ y).setCell ⟨q, 3, none⟩ z) := by
  have hn : ¬ q < w.heap.size := by have := h.2; omega
  exact ((h.1.setCell (fun h => absurd h hn) _).setCell (fun h => absurd h hn) _).setCell (fun h => absurd h hn) _

theorem box_zeros {w : World} {q : Nat} {k c s o : Int} (h : DBox w q k c s o) : DBox (((w.setCell ⟨q, 1, none⟩ (.int .i64 0)).setCell ⟨q, 2, none⟩ (.int .i64 0)).setCell ⟨q, 3, none⟩ (.int .i64 0)) q k 0 0 0 := by
  have := setCell_block (setCell_block (setCell_block h 1 (.int .i64 0)) 2 (.int .i64 0)) 3 (.int .i64 0)
  unfold DBox
  simpa using this

theorem nrm_two {d : Dd} {z : Int} (hz : z = brg d.k 4) (h : 1 + z = 2) : (nrm d).enc = [.int .i64 2, .int .i64 0, .int .i64 0, .int .i64 0] := by
  subst hz
  unfold nrm
  rw [if_pos h]
  rfl
theorem nrm_not {d : Dd} {z : Int} (hz : z = brg d.k 4) (h : ¬1 + z = 2) : (nrm d).enc = [.int .i64 (1 + z), .int .i64 d.x.c, .int .i64 d.x.s, .int .i64 d.x.o] := by
  subst hz
  unfold nrm
  rw [if_neg h]
  rfl

theorem one4 (a b c d : Int) : ∀ u ∈ [Value.int .i64 a, .int .i64 b, .int .i64 c, .int .i64 d], u.oneCell' = true := by
  intro u hu
  simp at hu
  rcases hu with rfl | rfl | rfl | rfl <;> rfl

theorem each_snoc {M : List Dd} {k : Nat} {r : Bool} (hk : k < M.length) (h : r = true ↔ ∀ i (h : i < M.length), i < k → (hplay [] 0 (aloneL M M[i].x)).2 = 0) (c : Bool)
    (hc : c = true ↔ (hplay [] 0 (aloneL M M[k].x)).2 = 0) : ((r && c) = true ↔ ∀ i (h : i < M.length), i < k + 1 → (hplay [] 0 (aloneL M M[i].x)).2 = 0) := by
  rw [Bool.and_eq_true, h, hc]
  constructor
  · rintro ⟨h1, h2⟩ i hi hik
    rcases Nat.lt_or_ge i k with hlt | hge
    · exact h1 i hi hlt
    · have : i = k := by omega
      subst this
      exact h2
  · intro h1
    exact ⟨fun i hi hik => h1 i hi (by omega), h1 k hk (by omega)⟩

set_option maxRecDepth 100000 in
set_option maxHeartbeats 3200000 in
theorem heapAlone_walk (a : Option Addr) (b off cap : Nat) (l : List Dd) (w : World) (h : DeedsIn w a b off l) :
    Calls Try.prog 4 #[.slice a l.length cap] w fun e w' => e = .returned (.bool true) ∧ Fr0 w w' := by
  obtain ⟨i0, hi, hz0, hz1, hz2⟩ := info_parts info32
  have HZ := hid (show Try.prog.info? 32 = some i0 ∧ i0.zero = some (.agg #[.int .i64 0, .int .i64 0, .int .i64 0, .int .i64 0]) ∧ i0.size = 4 ∧ i0.bytes = 32 from ⟨hi, hz0, hz1, hz2⟩)
  have HD := hid h
  have hsm := h.small
  clear h hz0 hz1 hz2 hi
  go_enter Try.func4, Try.ntmps4
  go_wp2_with (fail)
  go_loopw [3, 4] (fun v i wr => ∃ k : Nat, i = .int .i64 k ∧ Hid (NrmRel w wr a b off l v k))
    (fun _ i _ => 80 - (intOf i).toNat)
  case atStart => exact ⟨0, rfl, hid ⟨Nat.zero_le _, Nat.zero_le _, (World.ownsRow_nil _ _ _ _ : OwnD _ _ _ []), HD.out.lt, Fr.refl _ _, HD.out⟩⟩
  case round =>
    obtain ⟨k, rfl, hR⟩ := hrel
    have hk := hR.out.le
    have hk8 := hR.out.le80
    by_cases hgo : k < l.length ∧ k < 80
    · obtain ⟨hlt, h80⟩ := hgo
      have hix := hR.out.deeds.index cap k hlt
      obtain ⟨c0, c1, c2, c3⟩ := hR.out.deeds.cells k hlt
      have HB := bring4 l[k].k
      have r := brg_range l[k].k 4 (by decide)
      obtain ⟨z, hz⟩ : ∃ z, z = brg l[k].k 4 := ⟨_, rfl⟩
      rw [← hz] at HB r
      have Hz := hid hz
      clear hz
      have n0 := World.new_ne wr _ c0
      have n1 := World.new_ne wr _ c1
      have n2 := World.new_ne wr _ c2
      have n3 := World.new_ne wr _ c3
      go_upto_region 5 with (fail)
      have e80 : decide ((k : Int) < 80) = true := by simp; omega
      try simp only [e80]
      have hwr : IntKind.i64.wrap (1 + z) = 1 + z := by
        have hz : z = 0 ∨ z = 1 ∨ z = 2 ∨ z = 3 := by omega
        rcases hz with rfl | rfl | rfl | rfl <;> decide
      have Hwr := hid hwr
      clear hwr
      go_cut [5] from 22 to 34 (fun t5 wx => ∃ q : Nat, t5 = .pointer (some ⟨q, 0, none⟩) ∧ DBox wx q (1 + z) l[k].x.c l[k].x.s l[k].x.o ∧ Fr0 wr wx ∧ wr.heap.size ≤ q)
      case first =>
        go_region_held3 (fun w' => w'.cell? ⟨b, off + k * 4, none⟩ = some (.int .i64 l[k].k) ∧ w'.cell? ⟨b, off + k * 4 + 1, none⟩ = some (.int .i64 l[k].x.c) ∧ w'.cell? ⟨b, off + k * 4 + 2, none⟩ = some (.int .i64 l[k].x.s) ∧ w'.cell? ⟨b, off + k * 4 + 3, none⟩ = some (.int .i64 l[k].x.o)) (go_keep) ((go_at_call 19; refine (HB _).mono ?_; rintro e w' ⟨rfl, rfl⟩))
        all_goals
          go_wp2_with fail
          go_meet
          refine ⟨_, rfl, ?_, ((Fr.refl _ wr).alloc _).drew, Nat.le_refl _⟩
          simp only [Hwr.out]
          exact alloc_block wr _
      case rest =>
        obtain ⟨q, rfl, hq, hfx, hqs⟩ := hcut
        clear HB n0 n1 n2 n3 c0 c1 c2 c3 hix
        obtain ⟨⟨d0, d1, d2, d3⟩, f1, f2, f3⟩ := hq.cells
        have Hx := hid (And.intro hfx hqs)
        have Hq := hid hq
        clear hq hfx hqs r
        by_cases hz2 : 1 + z = 2
        · have hzb : (1 + z == 2) = true := by simp [hz2]
          have HE := hid (nrm_two Hz.out hz2)
          have HZ2 := hid hz2
          clear hz2
          go_upto_region 8 with (fail)
          generalize hW5 : (((_ : World).setCell _ _).setCell _ _).setCell _ _ = W5
          have hR2 := hid (hR.out.fr0 (w' := W5) (by rw [← hW5]; exact fr0_zeros Hx.out _ _ _))
          have hq5 : DBox W5 q 2 0 0 0 := by
            rw [← hW5, ← HZ2.out]
            exact box_zeros Hq.out
          clear hW5 d0 d1 d2 d3 f1 f2 f3
          obtain ⟨⟨d0, d1, d2, d3⟩, f1, f2, f3⟩ := hq5.cells
          clear f1 f2 f3 hq5
          have hown := hid hR2.out.own
          have hlen := hid (map_len hk)
          clear hR
          go_wp2_with (at_builtin; refine wpList_append_own _ rfl _ _ 22 rfl w.heap.size 32 i0 (.agg #[.int .i64 0, .int .i64 0, .int .i64 0, .int .i64 0]) 4 32 Try.underlying22 HZ.out.1 HZ.out.2.1 HZ.out.2.2.1 HZ.out.2.2.2 rfl (by decide) _ _ _ rfl (hown.out.alloc _) ⟨_, 0, none⟩ 1 1 [.int .i64 2, .int .i64 0, .int .i64 0, .int .i64 0] rfl rfl ?c1 ?c2 ?c3 ?c4 ?c5 ?_)
          case c1 => exact cells_new4 _ _ _ _ _ _
          case c2 => exact one4 _ _ _ _
          case c3 => rw [hlen.out]; simp only [maxLen]; omega
          case c4 => rw [hlen.out]; omega
          case c5 => have := hR2.out.fr.size; simp at this ⊢; omega
          intro v' w3 hown' hg _
          have hown2 : w3.ownsRow w.heap.size 32 4 v' (k + 1) (flat Dd.enc ((l.map nrm).take k) ++ (nrm l[k]).enc) := by
            rw [HE.out]
            exact hown'
          have hS := hid (hR2.out.snoc hlt h80 hown2 hg)
          clear hown' hown2 hg hown hR2 d0 d1 d2 d3
          go_wp2
          go_roundw
          case rel => exact ⟨k + 1, by go_num, hS⟩
          case measure => simp [intOf]; omega
        · have hzb : (1 + z == 2) = false := by simp [hz2]
          have HE := hid (nrm_not Hz.out hz2)
          clear hz2 d0 d1 d2 d3 f1 f2 f3
          obtain ⟨⟨d0, d1, d2, d3⟩, f1, f2, f3⟩ := Hq.out.cells
          go_upto_region 8 with (fail)
          have hR2 := hid (hR.out.fr0 Hx.out.1)
          have hq5 := Hq.out
          clear d0 d1 d2 d3 f1 f2 f3
          obtain ⟨⟨d0, d1, d2, d3⟩, f1, f2, f3⟩ := hq5.cells
          clear f1 f2 f3 hq5
          have hown := hid hR2.out.own
          have hlen := hid (map_len hk)
          clear hR
          go_wp2_with (at_builtin; refine wpList_append_own _ rfl _ _ 22 rfl w.heap.size 32 i0 (.agg #[.int .i64 0, .int .i64 0, .int .i64 0, .int .i64 0]) 4 32 Try.underlying22 HZ.out.1 HZ.out.2.1 HZ.out.2.2.1 HZ.out.2.2.2 rfl (by decide) _ _ _ rfl (hown.out.alloc _) ⟨_, 0, none⟩ 1 1 [.int .i64 (1 + z), .int .i64 l[k].x.c, .int .i64 l[k].x.s, .int .i64 l[k].x.o] rfl rfl ?c1 ?c2 ?c3 ?c4 ?c5 ?_)
          case c1 => exact cells_new4 _ _ _ _ _ _
          case c2 => exact one4 _ _ _ _
          case c3 => rw [hlen.out]; simp only [maxLen]; omega
          case c4 => rw [hlen.out]; omega
          case c5 => have := hR2.out.fr.size; simp at this ⊢; omega
          intro v' w3 hown' hg _
          have hown2 : w3.ownsRow w.heap.size 32 4 v' (k + 1) (flat Dd.enc ((l.map nrm).take k) ++ (nrm l[k]).enc) := by
            rw [HE.out]
            exact hown'
          have hS := hid (hR2.out.snoc hlt h80 hown2 hg)
          clear hown' hown2 hg hown hR2 d0 d1 d2 d3
          go_wp2
          go_roundw
          case rel => exact ⟨k + 1, by go_num, hS⟩
          case measure => simp [intOf]; omega
    · by_cases hlt0 : k < l.length
      · have h80 : ¬k < 80 := fun h => hgo ⟨hlt0, h⟩
        clear hgo
        obtain ⟨M, hM⟩ : ∃ M, M = (l.map nrm).take k := ⟨_, rfl⟩
        have ho := hR.out.own
        have hfr := hid hR.out.fr
        rw [← hM] at ho
        have hMn : Hid (∀ d ∈ M, Nrm d) := by
          refine hid fun d hd => ?_
          rw [hM] at hd
          obtain ⟨e, _, rfl⟩ := List.mem_map.1 (List.mem_of_mem_take hd)
          exact nrm_is e
        have hMw : Hid (∀ d ∈ M, d.wf) := by
          refine hid fun d hd => ?_
          rw [hM] at hd
          obtain ⟨e, he, rfl⟩ := List.mem_map.1 (List.mem_of_mem_take hd)
          exact nrm_wf (HD.out.wf e he)
        have hMl : M.length ≤ 80 := by rw [hM, map_len hk]; exact hk8
        obtain ⟨a2, g2, cap2, rfl, hDM⟩ := deedsIn_own ho hMw.out (by omega)
        clear ho hM hR
        have hp := play_any a2 g2 0 cap2 M _ hDM
        obtain ⟨er, her⟩ : ∃ er, er = (hplay [] 0 M).2 := ⟨_, rfl⟩
        rw [← her] at hp
        have Her := hid her
        have HDM := hid hDM
        clear her hDM
        generalize (hplay [] 0 M).1 = x1 at hp
        go_wp2_with (go_at_call 16; refine hp.mono ?_; rintro e w1 ⟨rfl, hf1⟩)
        clear hp
        have HF1 := hid (hfr.out.trans0 hf1)
        have HDW := hid (HDM.out.fr hf1 (fun h => h))
        clear hf1
        go_loopw [8, 9] (fun t8 i wx => ∃ (k : Nat) (r : Bool), t8 = .bool r ∧ i = .int .i64 k ∧ k ≤ M.length ∧ Hid (r = true ↔ ∀ i (h : i < M.length), i < k → (hplay [] 0 (aloneL M M[i].x)).2 = 0) ∧ Fr0 w1 wx)
          (fun _ i _ => M.length - (intOf i).toNat)
        case atStart => exact ⟨0, true, rfl, rfl, Nat.zero_le _, hid ⟨fun _ i _ h => absurd h (Nat.not_lt_zero _), fun _ => rfl⟩, Fr.refl _ _⟩
        case round =>
          obtain ⟨j, r, rfl, rfl, hj, hr, hfx⟩ := hrel
          by_cases hlt : j < M.length
          · have hDx := HDW.out.fr hfx (fun h => h)
            have hix := hDx.index cap2 j hlt
            obtain ⟨c0, c1, c2, c3⟩ := hDx.cells j hlt
            rw [Nat.zero_add] at hix c0 c1 c2 c3
            have HA := alone_any a2 g2 0 cap2 M (by omega) M[j].x _ hDx
            have Hfx := hid hfx
            clear hDx hfx
            go_wp2_with (fail)
            refine HA.mono ?_
            rintro e w2 ⟨v2, rfl, hf2, ho2⟩
            clear HA c0 c1 c2 c3 hix
            obtain ⟨a3, g3, cap3, rfl, hD3⟩ := deedsIn_own ho2 (fun d hd => hMw.out d ((List.mem_filter.1 hd).1)) (by have := List.length_filter_le (isOf M[j].x) M; unfold aloneL; omega)
            have hp2 := play_any a3 g3 0 cap3 _ _ hD3
            obtain ⟨e2, he2⟩ : ∃ e2, e2 = (hplay [] 0 (aloneL M M[j].x)).2 := ⟨_, rfl⟩
            rw [← he2] at hp2
            have He2 := hid he2
            have Hf2 := hid hf2
            clear hD3 ho2 he2 hf2
            generalize (hplay [] 0 (aloneL M M[j].x)).1 = x2 at hp2
            generalize (aloneL M M[j].x).length = n3 at hp2 ⊢
            go_wp2_with (fail)
            refine hp2.mono ?_
            rintro e w3 ⟨rfl, hf3⟩
            clear hp2
            by_cases hz : e2 = 0
            · have hzb : (e2 == 0) = true := by simp [hz]
              have hS := hid (each_snoc hlt hr.out true (by rw [← He2.out]; simp [hz]))
              rw [Bool.and_true] at hS
              clear hz
              cases r
              all_goals
                go_wp2_with (fail)
                go_roundw
                case rel => exact ⟨j + 1, _, rfl, by go_num, by omega, hid (by simpa using hS.out), (Hfx.out.trans0 Hf2.out).trans0 hf3⟩
                case measure => simp [intOf]; omega
            · have hzb : (e2 == 0) = false := by simp [hz]
              have hS := hid (each_snoc hlt hr.out false (by rw [← He2.out]; simp [hz]))
              rw [Bool.and_false] at hS
              clear hz
              cases r
              all_goals
                go_wp2_with (fail)
                go_roundw
                case rel => exact ⟨j + 1, _, rfl, by go_num, by omega, hid (by simpa using hS.out), (Hfx.out.trans0 Hf2.out).trans0 hf3⟩
                case measure => simp [intOf]; omega
          · have hL : Hid (er = 0 ↔ r = true) := by
              refine hid ?_
              rw [Her.out, alone_law M hMn.out, hr.out]
              exact ⟨fun h i hi _ => h i hi, fun h i hi => h i hi (by omega)⟩
            have Hfx := hid hfx
            clear hfx hr
            by_cases hz : er = 0
            · have hr1 := hL.out.1 hz
              have hzb : (er == 0) = true := by simp [hz]
              clear hz hL
              subst hr1
              go_wp2_with (go_at_call 18; refine (works_any _).mono ?_; rintro e w4 ⟨rfl, hf4⟩)
              go_ret
              exact ⟨by rfl, (HF1.out.trans0 Hfx.out).trans0 hf4⟩
            · have hr1 : r = false := by
                cases r
                · rfl
                · exact absurd (hL.out.2 rfl) hz
              have hzb : (er == 0) = false := by simp [hz]
              clear hz hL
              subst hr1
              go_wp2_with (go_at_call 18; refine (works_any _).mono ?_; rintro e w4 ⟨rfl, hf4⟩)
              go_ret
              exact ⟨by rfl, (HF1.out.trans0 Hfx.out).trans0 hf4⟩
      · clear hgo
        obtain ⟨M, hM⟩ : ∃ M, M = (l.map nrm).take k := ⟨_, rfl⟩
        have ho := hR.out.own
        have hfr := hid hR.out.fr
        rw [← hM] at ho
        have hMn : Hid (∀ d ∈ M, Nrm d) := by
          refine hid fun d hd => ?_
          rw [hM] at hd
          obtain ⟨e, _, rfl⟩ := List.mem_map.1 (List.mem_of_mem_take hd)
          exact nrm_is e
        have hMw : Hid (∀ d ∈ M, d.wf) := by
          refine hid fun d hd => ?_
          rw [hM] at hd
          obtain ⟨e, he, rfl⟩ := List.mem_map.1 (List.mem_of_mem_take hd)
          exact nrm_wf (HD.out.wf e he)
        have hMl : M.length ≤ 80 := by rw [hM, map_len hk]; exact hk8
        obtain ⟨a2, g2, cap2, rfl, hDM⟩ := deedsIn_own ho hMw.out (by omega)
        clear ho hM hR
        have hp := play_any a2 g2 0 cap2 M _ hDM
        obtain ⟨er, her⟩ : ∃ er, er = (hplay [] 0 M).2 := ⟨_, rfl⟩
        rw [← her] at hp
        have Her := hid her
        have HDM := hid hDM
        clear her hDM
        generalize (hplay [] 0 M).1 = x1 at hp
        go_wp2_with (go_at_call 16; refine hp.mono ?_; rintro e w1 ⟨rfl, hf1⟩)
        clear hp
        have HF1 := hid (hfr.out.trans0 hf1)
        have HDW := hid (HDM.out.fr hf1 (fun h => h))
        clear hf1
        go_loopw [8, 9] (fun t8 i wx => ∃ (k : Nat) (r : Bool), t8 = .bool r ∧ i = .int .i64 k ∧ k ≤ M.length ∧ Hid (r = true ↔ ∀ i (h : i < M.length), i < k → (hplay [] 0 (aloneL M M[i].x)).2 = 0) ∧ Fr0 w1 wx)
          (fun _ i _ => M.length - (intOf i).toNat)
        case atStart => exact ⟨0, true, rfl, rfl, Nat.zero_le _, hid ⟨fun _ i _ h => absurd h (Nat.not_lt_zero _), fun _ => rfl⟩, Fr.refl _ _⟩
        case round =>
          obtain ⟨j, r, rfl, rfl, hj, hr, hfx⟩ := hrel
          by_cases hlt : j < M.length
          · have hDx := HDW.out.fr hfx (fun h => h)
            have hix := hDx.index cap2 j hlt
            obtain ⟨c0, c1, c2, c3⟩ := hDx.cells j hlt
            rw [Nat.zero_add] at hix c0 c1 c2 c3
            have HA := alone_any a2 g2 0 cap2 M (by omega) M[j].x _ hDx
            have Hfx := hid hfx
            clear hDx hfx
            go_wp2_with (fail)
            refine HA.mono ?_
            rintro e w2 ⟨v2, rfl, hf2, ho2⟩
            clear HA c0 c1 c2 c3 hix
            obtain ⟨a3, g3, cap3, rfl, hD3⟩ := deedsIn_own ho2 (fun d hd => hMw.out d ((List.mem_filter.1 hd).1)) (by have := List.length_filter_le (isOf M[j].x) M; unfold aloneL; omega)
            have hp2 := play_any a3 g3 0 cap3 _ _ hD3
            obtain ⟨e2, he2⟩ : ∃ e2, e2 = (hplay [] 0 (aloneL M M[j].x)).2 := ⟨_, rfl⟩
            rw [← he2] at hp2
            have He2 := hid he2
            have Hf2 := hid hf2
            clear hD3 ho2 he2 hf2
            generalize (hplay [] 0 (aloneL M M[j].x)).1 = x2 at hp2
            generalize (aloneL M M[j].x).length = n3 at hp2 ⊢
            go_wp2_with (fail)
            refine hp2.mono ?_
            rintro e w3 ⟨rfl, hf3⟩
            clear hp2
            by_cases hz : e2 = 0
            · have hzb : (e2 == 0) = true := by simp [hz]
              have hS := hid (each_snoc hlt hr.out true (by rw [← He2.out]; simp [hz]))
              rw [Bool.and_true] at hS
              clear hz
              cases r
              all_goals
                go_wp2_with (fail)
                go_roundw
                case rel => exact ⟨j + 1, _, rfl, by go_num, by omega, hid (by simpa using hS.out), (Hfx.out.trans0 Hf2.out).trans0 hf3⟩
                case measure => simp [intOf]; omega
            · have hzb : (e2 == 0) = false := by simp [hz]
              have hS := hid (each_snoc hlt hr.out false (by rw [← He2.out]; simp [hz]))
              rw [Bool.and_false] at hS
              clear hz
              cases r
              all_goals
                go_wp2_with (fail)
                go_roundw
                case rel => exact ⟨j + 1, _, rfl, by go_num, by omega, hid (by simpa using hS.out), (Hfx.out.trans0 Hf2.out).trans0 hf3⟩
                case measure => simp [intOf]; omega
          · have hL : Hid (er = 0 ↔ r = true) := by
              refine hid ?_
              rw [Her.out, alone_law M hMn.out, hr.out]
              exact ⟨fun h i hi _ => h i hi, fun h i hi => h i hi (by omega)⟩
            have Hfx := hid hfx
            clear hfx hr
            by_cases hz : er = 0
            · have hr1 := hL.out.1 hz
              have hzb : (er == 0) = true := by simp [hz]
              clear hz hL
              subst hr1
              go_wp2_with (go_at_call 18; refine (works_any _).mono ?_; rintro e w4 ⟨rfl, hf4⟩)
              go_ret
              exact ⟨by rfl, (HF1.out.trans0 Hfx.out).trans0 hf4⟩
            · have hr1 : r = false := by
                cases r
                · rfl
                · exact absurd (hL.out.2 rfl) hz
              have hzb : (er == 0) = false := by simp [hz]
              clear hz hL
              subst hr1
              go_wp2_with (go_at_call 18; refine (works_any _).mono ?_; rintro e w4 ⟨rfl, hf4⟩)
              go_ret
              exact ⟨by rfl, (HF1.out.trans0 Hfx.out).trans0 hf4⟩
end Go.Proofs.Ytjaabbjobnfmmaa

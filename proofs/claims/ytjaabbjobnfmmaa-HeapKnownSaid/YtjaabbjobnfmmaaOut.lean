/-
  The program's Out: the objects that are out, in order.
-/
import Derived.Test.YtjaabbjobnfmmaaOutB
import Derived.Deep.RegionHeld3
namespace Go.Proofs.Ytjaabbjobnfmmaa
open Go.Shelf Go.RowKit Go.Lib Go.Sort

theorem ins81_none (p : Option Addr) (cap : Nat) (fv : Value) (w : World) :
    Calls Try.prog 81 #[.slice p 0 cap, .int .i64 0, .int .i64 0, fv] w fun e w' => e = .returned (.tuple #[]) ∧ w' = w := by
  go_enter Try.func81, Try.ntmps81
  go_wp2
  refine wp_loop_rounds 1 ?_
  rw [rounds_succ]
  go_wp2
  go_end0
  exact ⟨rfl, rfl⟩

set_option maxHeartbeats 2000000 in
theorem pdq77_none (p : Option Addr) (cap : Nat) (lim : Int) (fv : Value) (w : World) :
    Calls Try.prog 77 #[.slice p 0 cap, .int .i64 0, .int .i64 0, .int .i64 lim, fv] w fun e w' => e = .returned (.tuple #[]) ∧ w' = w := by
  have hi := fun W => ins81_none p cap fv W
  go_enter Try.func77, Try.ntmps77
  go_wp2
  refine wp_loop_rounds 1 ?_
  rw [rounds_succ]
  go_wp2_with (go_at_call 81; refine (hi _).mono ?_; rintro e w' ⟨rfl, rfl⟩)
  (try simp only [Exit.inBlock, Exit.then]); refine bodyPost_ret (results_none rfl _ _ _) rfl ?_
  exact ⟨rfl, rfl⟩

set_option maxHeartbeats 2000000 in
theorem sort70_none (p : Option Addr) (cap : Nat) (fv : Value) (w : World) :
    Calls Try.prog 70 #[.slice p 0 cap, fv] w fun e w' => e = .returned (.tuple #[]) ∧ w' = w := by
  have hp := fun lim W => pdq77_none p cap lim fv W
  have hl : ∀ W, Calls Try.prog 78 #[.int .u64 0] W fun e w' => e = .returned (.int .i64 (Lib.bitLen 0 : Nat)) ∧ w' = W := fun W => by
    have h := Any.bits_Len (SlLaysF0.n15.bits (P := Try.prog) (ρ := sortOb_ren) { sortOb with }) 0 W (by omega) (by omega)
    exact h
  go_enter Try.func70, Try.ntmps70
  go_wp2_with (first | (go_at_call 78; refine (hl _).mono ?_; rintro e w' ⟨rfl, rfl⟩) | (go_at_call 77; refine (hp _ _).mono ?_; rintro e w' ⟨rfl, rfl⟩))
  go_end0
  exact ⟨rfl, rfl⟩

theorem heap_sortK {w : World} {g n : Nat} {os : Array Obj} {cur : Array Value} {e : TypeId} {fr : Nat × Nat} (d : Array Ob) (hb : w.heap[g]? = some (.cells cur e fr)) :
    (sortWorldK Ob.enc 3 w g 0 n d os).heap[g]? = some (.cells (putCells id 0 (flatK Ob.enc 3 d) cur) e fr) := by
  have hg : g < w.heap.size := (Array.getElem?_eq_some_iff.1 hb).1
  unfold sortWorldK putRowK
  rw [heap_grow_old _ _ (by simpa using hg)]
  simp [putRow, mapBlock, Sort.ahead, Array.getElem?_modify, hb, onCells]

theorem grown_sortK {w : World} {g n : Nat} {os : Array Obj} (d : Array Ob) : w.grownBy (sortWorldK Ob.enc 3 w g 0 n d os) (some g) := by
  unfold sortWorldK putRowK
  refine ⟨rfl, rfl, rfl, by simp, fun k hk hne => ?_⟩
  rw [heap_grow_old _ _ (by simpa using hk)]
  have : g ≠ k := fun e => hne (by rw [e])
  simp [putRow, mapBlock, Sort.ahead, Array.getElem?_modify, this]

theorem take_put (cur F : Array Value) (h : F.size ≤ cur.size) : (putCells id 0 F cur).toList.take F.size = F.toList := by
  apply List.ext_getElem?
  intro j
  by_cases hj : j < F.size
  · rw [List.getElem?_take_of_lt hj, Array.getElem?_toList]
    simp [putCells, hj, show j < cur.size by omega]
  · rw [List.getElem?_take_eq_none (by omega), List.getElem?_eq_none (by simp; omega)]

/-- slices.SortFunc at a slice of the call's own. -/
theorem sortOb_any (B : Nat) (v : Value) (L : List Ob) (hn : L.Nodup) (hs : L.length < 4611686018427387904) (w : World) (h : OwnL w B v L) :
    Calls Try.prog 70 #[v, .func (.func 51) #[] #[]] w fun e w' => e = .returned (.tuple #[]) ∧ ∃ M, M.Perm L ∧ Asc M ∧ OwnL w' B v M ∧ w.grownBy w' v.ownBlock := by
  rcases h.2 with ⟨rfl, h0⟩ | ⟨g, cap, cur, rfl, hbase, hg, h1, h2, h3, h4⟩
  · have hL : L = [] := List.eq_nil_of_length_eq_zero h0
    subst hL
    exact (sort70_none none 0 _ w).mono fun e w' ⟨he, hw⟩ => ⟨he, [], List.Perm.refl _, List.Pairwise.nil, by rw [hw]; exact h, by rw [hw]; exact World.grownBy.refl _ _⟩
  · have hgl : g < w.heap.size := lt_of_block hg
    have hH : HoldsK Ob.enc 3 w g 0 L.toArray := by
      unfold HoldsK
      rw [flatK_eq]
      intro j hj
      have hj' : j < (flat Ob.enc L).length := by simpa using hj
      refine ⟨?_, free_of_block hg _⟩
      rw [cell_of_block hg, Nat.zero_add]
      have e1 := congrArg (fun l => l[j]?) h4
      have hj2 : j < L.length * 3 := by rw [flat_length enc3] at hj'; exact hj'
      simp only [List.getElem?_take, hj2, if_true] at e1
      rw [Array.getElem?_toList] at e1
      rw [e1, List.getElem?_eq_getElem hj']
      simp [hj']
    have eg : ∀ args w, (callFunc 51 args).run Try.prog w = .ok (.enter 51 args) w := enters_of Try.func51 (by kernel_rfl) rfl
    have hc := AnyQ.slices_SortFunc sortOb 3 Try.isAgg30 Try.sizeOf30 Ob.enc enc3 enc3_one ordI swo_ob 51 #[] g 0 cap L.toArray w eg (cmpLays51 g 0 _ w) hH hgl (by simpa using hs)
    change Calls Try.prog 70 _ _ _ at hc
    have hsz : L.toArray.size = L.length := by simp
    rw [hsz] at hc
    refine hc.mono ?_
    rintro e w' ⟨he, d, n, os, hp, hsd, rfl⟩
    obtain ⟨hpm, hasc⟩ := asc_of_sorted hn (by rw [hsz]; exact hp) (by rw [hsz]; exact hsd)
    refine ⟨he, d.toList, hpm, hasc, ?_, grown_sortK d⟩
    have hdl : d.toList.length = L.length := hpm.length_eq
    have hF : flatK Ob.enc 3 d = (flat Ob.enc d.toList).toArray := by rw [← flatK_eq]
    have hFs : (flatK Ob.enc 3 d).size = L.length * 3 := by rw [size_flatK, ← hdl]; simp
    unfold OwnL
    rw [hdl]
    refine ⟨by rw [flat_length enc3, hdl], .inr ⟨g, cap, _, rfl, hbase, heap_sortK d hg, h1, h2, by simp [putCells, h3], ?_⟩⟩
    have := take_put cur (flatK Ob.enc 3 d) (by rw [hFs, h3]; exact Nat.mul_le_mul_right 3 h1)
    rw [hFs] at this
    rw [this, hF]

theorem sortedFunc_any (Bm b : Nat) (S : List Ob) (hn : S.Nodup) (hSl : S.length < 4398046511104) (w : World) (hBm : Bm < w.heap.size) (hm : w.cell? ⟨Bm, 0, none⟩ = some (.map (some b))) (hS : SetIs w b S) :
    Calls Try.prog 49 #[.func (.func 71) #[] #[.pointer (some ⟨Bm, 0, none⟩)], .func (.func 51) #[] #[]] w fun e w' => ∃ (v : Value) (L : List Ob), e = .returned v ∧ L.Perm S ∧ Asc L ∧ OwnL w' w.heap.size v L ∧ Fr0 w w' := by
  have H := collect_any Bm b S hSl w hBm hm hS
  clear hS hm
  go_enter Try.func49, Try.ntmps49
  go_wp2_with fail
  refine H.mono ?_
  rintro e w1 ⟨v, ss, rfl, hp, ho, hb⟩
  have H2 := sortOb_any w.heap.size v ss (hp.nodup_iff.2 hn) (by rw [hp.length_eq]; omega) w1 ho
  have hf1 := hid (Fr.of_below hb)
  have hlt : Hid (∀ i, v.ownBlock = some i → w.heap.size ≤ i) := hid fun i hi => (ho.lt i hi).1
  have HP := hid hp
  clear H hp ho hb
  go_wp2_with fail
  refine H2.mono ?_
  rintro e w2 ⟨rfl, M, hM, hA, ho2, hg⟩
  have HE := hid (And.intro (hM.trans HP.out) (And.intro hA (And.intro ho2 (hf1.out.grown hg (X := fun _ => False) (fun i hi e => absurd (hlt.out i e.symm) (by omega))))))
  clear hM hA ho2 hg H2
  go_wp2
  go_ret
  exact ⟨v, M, rfl, HE.out⟩

set_option maxRecDepth 100000 in
set_option maxHeartbeats 1000000 in
theorem out_any (p b : Nat) (S : List Ob) (hSl : S.length < 4398046511104) (w : World) (h : HeapIs w p b S) :
    Calls Try.prog 23 #[.pointer (some ⟨p, 0, none⟩)] w fun e w' => ∃ (v : Value) (L : List Ob), e = .returned v ∧ L.Perm S ∧ Asc L ∧ OwnL w' w.heap.size v L ∧ Fr0 w w' := by
  have HN := none_any p b S w h
  have hc := h.cell
  have HK := fun W => keys_any b W
  have hS1 : SetIs (w.alloc (.cells #[.map (some b)] 42)) b S := (h.fr0 (fr0_alloc _ _)).2.1
  have HS := sortedFunc_any w.heap.size b S h.2.1.nodup hSl (w.alloc (.cells #[.map (some b)] 42)) (by simp) (cell_of_block (alloc_block _ _) 0) hS1
  clear h hS1
  go_enter Try.func23, Try.ntmps23
  go_wp2_with (go_at_call 44; refine HN.mono ?_; rintro e w' ⟨rfl, rfl⟩)
  refine (HK _).mono ?_
  rintro e w1 ⟨rfl, rfl⟩
  go_wp2_with fail
  refine HS.mono ?_
  rintro e w2 ⟨v, L, rfl, hp, ha, ho, hf⟩
  have HE := hid (And.intro hp (And.intro ha (And.intro (show OwnL w2 w.heap.size v L from ⟨ho.1, by
    rcases ho.2 with h | ⟨g, cap, cur, h1, h2, h3⟩
    · exact .inl h
    · exact .inr ⟨g, cap, cur, h1, by simp at h2; omega, h3⟩⟩) ((fr0_alloc w _).trans0 hf))))
  clear hp ha ho hf HS HK
  go_wp2
  go_ret
  exact ⟨v, L, rfl, HE.out⟩
end Go.Proofs.Ytjaabbjobnfmmaa

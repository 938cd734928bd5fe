/-
  The program's heap: what New and Do do, told by the list of the objects that are out.
-/
import Derived.Test.YtjaabbjobnfmmaaHeapA
import Derived.Deep.QuietTactic
import Derived.BigQuiet
import Derived.Laws.EntriesVeiled
import Derived.StillTailTactics
namespace Go.Proofs.Ytjaabbjobnfmmaa
open Go.RowKit

theorem struct30 : Try.prog.underlying 30 = some (.struct (Try.prog.fieldsOf 30)) := by rw [Program.fieldsOf, Try.underlying30]
theorem stood30 : Try.prog.stoodInHeld 30 = false := by kernel_rfl
theorem guard30 : Try.prog.eqGuardType Try.prog.depth 30 = false := by kernel_rfl

theorem Ob.beq_iff (x y : Ob) : decide (x = y) = (x.c == y.c && (x.s == y.s && x.o == y.o)) := by
  cases x; cases y
  rw [Bool.eq_iff_iff]
  simp

theorem eqIn30 (x y : Ob) (w : World) : (Op.equalIn 10000 30 x.val y.val).run Try.prog w = .ok (decide (x = y)) w := by
  have u3 := Try.underlying3
  have a3 := Try.isAgg3
  rw [Ob.beq_iff]
  simp only [Ob.val]
  rw [show (10000 : Nat) = 9999 + 1 from rfl, run_equalIn_agg w 9999 30 _ _ struct30 stood30]
  simp only [Program.fieldsOf, Try.underlying30]
  go_simp
  by_cases h1 : x.c = y.c <;> by_cases h2 : x.s = y.s <;> by_cases h3 : x.o = y.o <;> simp [h1, h2, h3]

theorem eql30 (x y : Ob) (w : World) : (binOp .eql 30 x.val y.val).run Try.prog w = .ok (.bool (decide (x = y))) w := by
  rw [Ob.val, Ob.val, run_eql_struct]
  have := eqIn30 x y w
  rw [Ob.val, Ob.val] at this
  rw [this]; rfl
theorem neq30 (x y : Ob) (w : World) : (binOp .neq 30 x.val y.val).run Try.prog w = .ok (.bool (!decide (x = y))) w := by
  rw [Ob.val, Ob.val, run_neq_struct]
  have := eqIn30 x y w
  rw [Ob.val, Ob.val] at this
  rw [this]; rfl

theorem new_any (w : World) :
    Calls Try.prog 21 #[] w fun e w' => e = .returned (.pointer (some ⟨w.heap.size + 1, 0, none⟩)) ∧ Fr0 w w' ∧ HeapIs w' (w.heap.size + 1) w.heap.size [] := by
  have hmm := @run_makeMap Try.prog
  go_enter Try.func21, Try.ntmps21
  go_wp2
  go_ret
  refine ⟨rfl, fr0_alloc2 _ _ _, ?_, ⟨(MapIs.made w Try.prog 30).alloc _, by simp⟩, by omega⟩
  have := alloc_block (w.alloc (.map #[] 0)) (.cells #[.map (some w.heap.size)] 44)
  simpa using this

def zob : Ob := ⟨0, 0, 0⟩
/-- What Do answers, and which objects are out behind it. -/
def hdo (S : List Ob) (k : Int) (x : Ob) : Int × List Ob :=
  if k < 1 ∨ 4 < k ∨ (k = 2 ∧ x ≠ zob) then (2, S)
  else if k = 1 then (if x ∈ S then 270 else 0, ins S x)
  else if k = 2 then (0, S)
  else if k = 3 then (if x ∈ S then 0 else 270, S.erase x)
  else (if x ∈ S then 270 else 0, S)

set_option maxRecDepth 100000 in
set_option maxHeartbeats 400000 in
theorem do_give (p b : Nat) (S : List Ob) (x : Ob) (w : World) (h : HeapIs w p b S) (r : Bool) (R : World → Prop)
    (HC : ∀ W, Fr0 w W → Calls Try.prog 45 #[.pointer (some ⟨p, 0, none⟩), .agg #[.int .i64 x.c, .int .i64 x.s, .int .i64 x.o]] W fun e w' => e = .returned (.bool r) ∧ R w') :
    Calls Try.prog 22 #[.pointer (some ⟨p, 0, none⟩), .agg #[.int .i64 1, .int .i64 x.c, .int .i64 x.s, .int .i64 x.o]] w fun e w' => e = .returned (.int .i64 (if r then 0 else 270)) ∧ R w' := by
  have HN := fun o => none_any p b S (w.alloc o) (h.fr0 (fr0_alloc w o))
  clear h
  have HD := hid HC
  clear HC
  go_enter Try.func22, Try.ntmps22
  go_wp2_with (go_at_call 44; refine (HN _).mono ?_; rintro e w' ⟨rfl, rfl⟩)
  generalize hW : ((w.alloc _).alloc _) = W
  have hfr : Fr0 w W := hW ▸ fr0_alloc2 _ _ _
  have hb1 : W.heap[w.heap.size]? = some (.cells #[.int .i64 1, .int .i64 x.c, .int .i64 x.s, .int .i64 x.o] 32 (0, 0)) := by
    rw [← hW]; exact ((Fr.refl _ _).alloc _ : Fr0 _ _).at (alloc_block w _) (fun h => h)
  have hb2 : W.heap[w.heap.size + 1]? = some (.cells #[.nilFunc, .func (.func 45) #[.pointer (some ⟨p, 0, none⟩)] #[], .func (.func 46) #[.pointer (some ⟨p, 0, none⟩)] #[], .func (.func 47) #[.pointer (some ⟨p, 0, none⟩)] #[], .func (.func 48) #[.pointer (some ⟨p, 0, none⟩)] #[]] 64 (0, 0)) := by
    rw [← hW]
    have := alloc_block (w.alloc (.cells #[.int .i64 1, .int .i64 x.c, .int .i64 x.s, .int .i64 x.o] 32)) (.cells #[.nilFunc, .func (.func 45) #[.pointer (some ⟨p, 0, none⟩)] #[], .func (.func 46) #[.pointer (some ⟨p, 0, none⟩)] #[], .func (.func 47) #[.pointer (some ⟨p, 0, none⟩)] #[], .func (.func 48) #[.pointer (some ⟨p, 0, none⟩)] #[]] 64)
    simpa using this
  clear hW
  have c0 : W.cell? ⟨w.heap.size, 0, none⟩ = _ := cell_of_block hb1 0
  have c1 : W.cell? ⟨w.heap.size, 1, none⟩ = _ := cell_of_block hb1 1
  have c2 : W.cell? ⟨w.heap.size, 2, none⟩ = _ := cell_of_block hb1 2
  have c3 : W.cell? ⟨w.heap.size, 3, none⟩ = _ := cell_of_block hb1 3
  have f1 : W.cell? ⟨w.heap.size + 1, 1, none⟩ = _ := cell_of_block hb2 1
  simp only [List.getElem?_toArray, List.getElem?_cons_zero, List.getElem?_cons_succ] at c0 c1 c2 c3 f1
  have HG := HD.out W.drew hfr.drew
  clear hb1 hb2 hfr HN HD
  go_still_tail 6, (by kernel_rfl)
  change wpList _ _ _ _ _ W.drew
  cases r with
  | true =>
    go_wp2_with (go_at_call 45; refine HG.mono ?_; rintro e w2 ⟨rfl, hR⟩)
    go_ret
    exact ⟨rfl, hR⟩
  | false =>
    go_wp2_with (go_at_call 45; refine HG.mono ?_; rintro e w2 ⟨rfl, hR⟩)
    go_ret
    exact ⟨rfl, hR⟩

set_option maxRecDepth 100000 in
set_option maxHeartbeats 400000 in
theorem do_none (p b : Nat) (S : List Ob) (x : Ob) (hz : x = zob) (w : World) (h : HeapIs w p b S) (r : Bool) (R : World → Prop)
    (HC : ∀ W, Fr0 w W → Calls Try.prog 46 #[.pointer (some ⟨p, 0, none⟩), .agg #[.int .i64 x.c, .int .i64 x.s, .int .i64 x.o]] W fun e w' => e = .returned (.bool r) ∧ R w') :
    Calls Try.prog 22 #[.pointer (some ⟨p, 0, none⟩), .agg #[.int .i64 2, .int .i64 x.c, .int .i64 x.s, .int .i64 x.o]] w fun e w' => e = .returned (.int .i64 (if r then 0 else 270)) ∧ R w' := by
  have HN := fun o => none_any p b S (w.alloc o) (h.fr0 (fr0_alloc w o))
  clear h
  have hne := fun W => neq30 x zob W
  rw [decide_eq_true hz] at hne
  simp only [Ob.val, zob] at hne
  have hg := guard30
  clear hz
  have HD := hid HC
  clear HC
  go_enter Try.func22, Try.ntmps22
  go_wp2_with (go_at_call 44; refine (HN _).mono ?_; rintro e w' ⟨rfl, rfl⟩)
  generalize hW : ((w.alloc _).alloc _) = W
  have hfr : Fr0 w W := hW ▸ fr0_alloc2 _ _ _
  have hb1 : W.heap[w.heap.size]? = some (.cells #[.int .i64 2, .int .i64 x.c, .int .i64 x.s, .int .i64 x.o] 32 (0, 0)) := by
    rw [← hW]; exact ((Fr.refl _ _).alloc _ : Fr0 _ _).at (alloc_block w _) (fun h => h)
  have hb2 : W.heap[w.heap.size + 1]? = some (.cells #[.nilFunc, .func (.func 45) #[.pointer (some ⟨p, 0, none⟩)] #[], .func (.func 46) #[.pointer (some ⟨p, 0, none⟩)] #[], .func (.func 47) #[.pointer (some ⟨p, 0, none⟩)] #[], .func (.func 48) #[.pointer (some ⟨p, 0, none⟩)] #[]] 64 (0, 0)) := by
    rw [← hW]
    have := alloc_block (w.alloc (.cells #[.int .i64 2, .int .i64 x.c, .int .i64 x.s, .int .i64 x.o] 32)) (.cells #[.nilFunc, .func (.func 45) #[.pointer (some ⟨p, 0, none⟩)] #[], .func (.func 46) #[.pointer (some ⟨p, 0, none⟩)] #[], .func (.func 47) #[.pointer (some ⟨p, 0, none⟩)] #[], .func (.func 48) #[.pointer (some ⟨p, 0, none⟩)] #[]] 64)
    simpa using this
  clear hW
  have c0 : W.cell? ⟨w.heap.size, 0, none⟩ = _ := cell_of_block hb1 0
  have c1 : W.cell? ⟨w.heap.size, 1, none⟩ = _ := cell_of_block hb1 1
  have c2 : W.cell? ⟨w.heap.size, 2, none⟩ = _ := cell_of_block hb1 2
  have c3 : W.cell? ⟨w.heap.size, 3, none⟩ = _ := cell_of_block hb1 3
  have f1 : W.cell? ⟨w.heap.size + 1, 2, none⟩ = _ := cell_of_block hb2 2
  simp only [List.getElem?_toArray, List.getElem?_cons_zero, List.getElem?_cons_succ] at c0 c1 c2 c3 f1
  have HG := HD.out W.drew hfr.drew
  clear hb1 hb2 hfr HN HD
  go_still_tail 6, (by kernel_rfl)
  change wpList _ _ _ _ _ W.drew
  cases r with
  | true =>
    go_wp2_with (go_at_call 46; refine HG.mono ?_; rintro e w2 ⟨rfl, hR⟩)
    go_ret
    exact ⟨rfl, hR⟩
  | false =>
    go_wp2_with (go_at_call 46; refine HG.mono ?_; rintro e w2 ⟨rfl, hR⟩)
    go_ret
    exact ⟨rfl, hR⟩

set_option maxRecDepth 100000 in
set_option maxHeartbeats 400000 in
theorem do_take (p b : Nat) (S : List Ob) (x : Ob) (w : World) (h : HeapIs w p b S) (r : Bool) (R : World → Prop)
    (HC : ∀ W, Fr0 w W → Calls Try.prog 47 #[.pointer (some ⟨p, 0, none⟩), .agg #[.int .i64 x.c, .int .i64 x.s, .int .i64 x.o]] W fun e w' => e = .returned (.bool r) ∧ R w') :
    Calls Try.prog 22 #[.pointer (some ⟨p, 0, none⟩), .agg #[.int .i64 3, .int .i64 x.c, .int .i64 x.s, .int .i64 x.o]] w fun e w' => e = .returned (.int .i64 (if r then 0 else 270)) ∧ R w' := by
  have HN := fun o => none_any p b S (w.alloc o) (h.fr0 (fr0_alloc w o))
  clear h
  have HD := hid HC
  clear HC
  go_enter Try.func22, Try.ntmps22
  go_wp2_with (go_at_call 44; refine (HN _).mono ?_; rintro e w' ⟨rfl, rfl⟩)
  generalize hW : ((w.alloc _).alloc _) = W
  have hfr : Fr0 w W := hW ▸ fr0_alloc2 _ _ _
  have hb1 : W.heap[w.heap.size]? = some (.cells #[.int .i64 3, .int .i64 x.c, .int .i64 x.s, .int .i64 x.o] 32 (0, 0)) := by
    rw [← hW]; exact ((Fr.refl _ _).alloc _ : Fr0 _ _).at (alloc_block w _) (fun h => h)
  have hb2 : W.heap[w.heap.size + 1]? = some (.cells #[.nilFunc, .func (.func 45) #[.pointer (some ⟨p, 0, none⟩)] #[], .func (.func 46) #[.pointer (some ⟨p, 0, none⟩)] #[], .func (.func 47) #[.pointer (some ⟨p, 0, none⟩)] #[], .func (.func 48) #[.pointer (some ⟨p, 0, none⟩)] #[]] 64 (0, 0)) := by
    rw [← hW]
    have := alloc_block (w.alloc (.cells #[.int .i64 3, .int .i64 x.c, .int .i64 x.s, .int .i64 x.o] 32)) (.cells #[.nilFunc, .func (.func 45) #[.pointer (some ⟨p, 0, none⟩)] #[], .func (.func 46) #[.pointer (some ⟨p, 0, none⟩)] #[], .func (.func 47) #[.pointer (some ⟨p, 0, none⟩)] #[], .func (.func 48) #[.pointer (some ⟨p, 0, none⟩)] #[]] 64)
    simpa using this
  clear hW
  have c0 : W.cell? ⟨w.heap.size, 0, none⟩ = _ := cell_of_block hb1 0
  have c1 : W.cell? ⟨w.heap.size, 1, none⟩ = _ := cell_of_block hb1 1
  have c2 : W.cell? ⟨w.heap.size, 2, none⟩ = _ := cell_of_block hb1 2
  have c3 : W.cell? ⟨w.heap.size, 3, none⟩ = _ := cell_of_block hb1 3
  have f1 : W.cell? ⟨w.heap.size + 1, 3, none⟩ = _ := cell_of_block hb2 3
  simp only [List.getElem?_toArray, List.getElem?_cons_zero, List.getElem?_cons_succ] at c0 c1 c2 c3 f1
  have HG := HD.out W.drew hfr.drew
  clear hb1 hb2 hfr HN HD
  go_still_tail 6, (by kernel_rfl)
  change wpList _ _ _ _ _ W.drew
  cases r with
  | true =>
    go_wp2_with (go_at_call 47; refine HG.mono ?_; rintro e w2 ⟨rfl, hR⟩)
    go_ret
    exact ⟨rfl, hR⟩
  | false =>
    go_wp2_with (go_at_call 47; refine HG.mono ?_; rintro e w2 ⟨rfl, hR⟩)
    go_ret
    exact ⟨rfl, hR⟩

set_option maxRecDepth 100000 in
set_option maxHeartbeats 400000 in
theorem do_bad (p b : Nat) (S : List Ob) (x : Ob) (w : World) (h : HeapIs w p b S) (r : Bool) (R : World → Prop)
    (HC : ∀ W, Fr0 w W → Calls Try.prog 48 #[.pointer (some ⟨p, 0, none⟩), .agg #[.int .i64 x.c, .int .i64 x.s, .int .i64 x.o]] W fun e w' => e = .returned (.bool r) ∧ R w') :
    Calls Try.prog 22 #[.pointer (some ⟨p, 0, none⟩), .agg #[.int .i64 4, .int .i64 x.c, .int .i64 x.s, .int .i64 x.o]] w fun e w' => e = .returned (.int .i64 (if r then 0 else 270)) ∧ R w' := by
  have HN := fun o => none_any p b S (w.alloc o) (h.fr0 (fr0_alloc w o))
  clear h
  have HD := hid HC
  clear HC
  go_enter Try.func22, Try.ntmps22
  go_wp2_with (go_at_call 44; refine (HN _).mono ?_; rintro e w' ⟨rfl, rfl⟩)
  generalize hW : ((w.alloc _).alloc _) = W
  have hfr : Fr0 w W := hW ▸ fr0_alloc2 _ _ _
  have hb1 : W.heap[w.heap.size]? = some (.cells #[.int .i64 4, .int .i64 x.c, .int .i64 x.s, .int .i64 x.o] 32 (0, 0)) := by
    rw [← hW]; exact ((Fr.refl _ _).alloc _ : Fr0 _ _).at (alloc_block w _) (fun h => h)
  have hb2 : W.heap[w.heap.size + 1]? = some (.cells #[.nilFunc, .func (.func 45) #[.pointer (some ⟨p, 0, none⟩)] #[], .func (.func 46) #[.pointer (some ⟨p, 0, none⟩)] #[], .func (.func 47) #[.pointer (some ⟨p, 0, none⟩)] #[], .func (.func 48) #[.pointer (some ⟨p, 0, none⟩)] #[]] 64 (0, 0)) := by
    rw [← hW]
    have := alloc_block (w.alloc (.cells #[.int .i64 4, .int .i64 x.c, .int .i64 x.s, .int .i64 x.o] 32)) (.cells #[.nilFunc, .func (.func 45) #[.pointer (some ⟨p, 0, none⟩)] #[], .func (.func 46) #[.pointer (some ⟨p, 0, none⟩)] #[], .func (.func 47) #[.pointer (some ⟨p, 0, none⟩)] #[], .func (.func 48) #[.pointer (some ⟨p, 0, none⟩)] #[]] 64)
    simpa using this
  clear hW
  have c0 : W.cell? ⟨w.heap.size, 0, none⟩ = _ := cell_of_block hb1 0
  have c1 : W.cell? ⟨w.heap.size, 1, none⟩ = _ := cell_of_block hb1 1
  have c2 : W.cell? ⟨w.heap.size, 2, none⟩ = _ := cell_of_block hb1 2
  have c3 : W.cell? ⟨w.heap.size, 3, none⟩ = _ := cell_of_block hb1 3
  have f1 : W.cell? ⟨w.heap.size + 1, 4, none⟩ = _ := cell_of_block hb2 4
  simp only [List.getElem?_toArray, List.getElem?_cons_zero, List.getElem?_cons_succ] at c0 c1 c2 c3 f1
  have HG := HD.out W.drew hfr.drew
  clear hb1 hb2 hfr HN HD
  go_still_tail 6, (by kernel_rfl)
  change wpList _ _ _ _ _ W.drew
  cases r with
  | true =>
    go_wp2_with (go_at_call 48; refine HG.mono ?_; rintro e w2 ⟨rfl, hR⟩)
    go_ret
    exact ⟨rfl, hR⟩
  | false =>
    go_wp2_with (go_at_call 48; refine HG.mono ?_; rintro e w2 ⟨rfl, hR⟩)
    go_ret
    exact ⟨rfl, hR⟩

end Go.Proofs.Ytjaabbjobnfmmaa

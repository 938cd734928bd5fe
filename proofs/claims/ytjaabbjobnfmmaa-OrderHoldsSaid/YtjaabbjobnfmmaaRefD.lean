/-
  The document's heap: what Do does, told by the list of the objects that are out.
-/
import Derived.Test.YtjaabbjobnfmmaaRefC
import Derived.Test.YtjaabbjobnfmmaaExt
namespace Go.Proofs.Ytjaabbjobnfmmaa
open Go.RowKit

/-- What the document's Do answers, and which objects are out behind it. -/
def rdo (L : List Ob) (k : Int) (x : Ob) : Int × List Ob :=
  if k < 1 ∨ 4 < k ∨ (k = 2 ∧ x ≠ zob) then (2, L)
  else if k = 2 then (0, L)
  else if decide (x ∈ L) ≠ decide (k = 3) then (270, L)
  else if k = 1 then (0, putL L x)
  else if k = 3 then (0, dropL L x)
  else (0, L)

/-- A deed in a box of its own. -/
def DeedAt (w : World) (b : Nat) (k : Int) (x : Ob) : Prop := w.heap[b]? = some (.cells #[.int .i64 k, .int .i64 x.c, .int .i64 x.s, .int .i64 x.o] 32 (0, 0))
theorem DeedAt.cells {w : World} {b : Nat} {k : Int} {x : Ob} (h : DeedAt w b k x) : w.cell? ⟨b, 0, none⟩ = some (.int .i64 k) ∧ w.cell? ⟨b, 1, none⟩ = some (.int .i64 x.c) ∧ w.cell? ⟨b, 2, none⟩ = some (.int .i64 x.s) ∧ w.cell? ⟨b, 3, none⟩ = some (.int .i64 x.o) :=
  ⟨cell_of_block h 0, cell_of_block h 1, cell_of_block h 2, cell_of_block h 3⟩

set_option maxRecDepth 100000 in
set_option maxHeartbeats 400000 in
theorem refDo_arg1 (q : Value) (x : Ob) (k : Int) (w : World) (hk : k < 1 ∨ 4 < k) :
    Calls Try.prog 39 #[q, .agg #[.int .i64 k, .int .i64 x.c, .int .i64 x.s, .int .i64 x.o]] w fun e w' => e = .returned (.int .i64 2) ∧ Fr0 w w' := by
  rcases hk with hk | hk
  · go_enter Try.func39, Try.ntmps39
    go_wp2
    go_ret
    exact ⟨rfl, fr0_alloc2 _ _ _⟩
  · have hk2 : ¬ k < 1 := by omega
    go_enter Try.func39, Try.ntmps39
    go_wp2
    go_ret
    exact ⟨rfl, fr0_alloc2 _ _ _⟩

set_option maxRecDepth 100000 in
set_option maxHeartbeats 400000 in
theorem refDo_two (q : Value) (x : Ob) (w : World) :
    Calls Try.prog 39 #[q, .agg #[.int .i64 2, .int .i64 x.c, .int .i64 x.s, .int .i64 x.o]] w fun e w' => e = .returned (.int .i64 (if x = zob then 0 else 2)) ∧ Fr0 w w' := by
  have hg := guard30
  have hne := fun W => neq30 x zob W
  by_cases hz : x = zob
  · rw [if_pos hz]
    rw [decide_eq_true hz] at hne
    simp only [Ob.val, zob] at hne
    clear hz
    go_enter Try.func39, Try.ntmps39
    go_wp2
    go_ret
    exact ⟨rfl, fr0_alloc2 _ _ _⟩
  · rw [if_neg hz]
    rw [decide_eq_false hz] at hne
    simp only [Ob.val, zob] at hne
    clear hz
    go_enter Try.func39, Try.ntmps39
    go_wp2
    go_ret
    exact ⟨rfl, fr0_alloc2 _ _ _⟩

set_option maxRecDepth 100000 in
set_option maxHeartbeats 800000 in
theorem refDo_give_no (p B : Nat) (L : List Ob) (hL : L.length < 4398046511104) (x : Ob) (w : World) (_hB : B ≤ w.heap.size) (h : RefIs w p B L) (hm : x ∈ L) :
    Calls Try.prog 39 #[.pointer (some ⟨p, 0, none⟩), .agg #[.int .i64 1, .int .i64 x.c, .int .i64 x.s, .int .i64 x.o]] w fun e w' => e = .returned (.int .i64 270) ∧ Fr (· = p) w w' ∧ RefIs w' p B L := by
  have HH := hid h
  have hHas : ∀ W, Fr0 w W → Calls Try.prog 41 #[.pointer (some ⟨p, 0, none⟩), .agg #[.int .i64 x.c, .int .i64 x.s, .int .i64 x.o]] W fun e w' => e = .returned (.bool true) ∧ Fr0 W w' := fun W hW => by
    have := refHas_any p B L (Nat.le_of_lt hL) x W (h.fr0 hW)
    rwa [decide_eq_true hm] at this
  have HD := hid hHas
  clear hHas hm h
  go_enter Try.func39, Try.ntmps39
  go_wp2
  generalize hW : ((w.alloc _).alloc _) = W
  have hfr : Fr0 w W := hW ▸ fr0_alloc2 _ _ _
  have hb1 : DeedAt W w.heap.size 1 x := by rw [← hW]; exact ((Fr.refl _ _).alloc _ : Fr0 _ _).at (alloc_block w _) (fun h => h)
  clear hW
  have e0 : ∀ q : Ext W, q.out.cell? ⟨w.heap.size, 0, none⟩ = some (.int .i64 1) := fun q => q.cell hb1.cells.1
  have e1 : ∀ q : Ext W, q.out.cell? ⟨w.heap.size, 1, none⟩ = some (.int .i64 x.c) := fun q => q.cell hb1.cells.2.1
  have e2 : ∀ q : Ext W, q.out.cell? ⟨w.heap.size, 2, none⟩ = some (.int .i64 x.s) := fun q => q.cell hb1.cells.2.2.1
  have e3 : ∀ q : Ext W, q.out.cell? ⟨w.heap.size, 3, none⟩ = some (.int .i64 x.o) := fun q => q.cell hb1.cells.2.2.2
  have HF := hid hfr
  clear hfr
  refine wp_region_ext (by kernel_rfl) (by kernel_rfl) ?_
  repeat (refine wpQuiet_step (fun K hK => ?_); go_simp; first | (refine hK _ ?_; clear hK K) | (apply Exists.intro; refine ⟨fun _ => ?_, hK _ ?_⟩; (go_at_call 41; refine calls_ext (HD.out _ (HF.out.trans0 (Ext.fr _)))); clear hK K))
  refine wpQuiet_nil ?_
  intro _ hw'
  obtain ⟨q, hw''⟩ := hw'
  subst hw''
  have hW1 := q.fr
  generalize q.out = W1 at hW1 ⊢
  clear q
  have HF1 := hid (HF.out.trans0 hW1)
  have hb2 := hid (hW1.at hb1 (fun h => h) : DeedAt W1 w.heap.size 1 x)
  obtain ⟨d0, d1, d2, d3⟩ := DeedAt.cells hb2.out
  clear e0 e1 e2 e3 hW1 hb1 HF HD
  go_wp2
  go_ret
  exact ⟨rfl, HF1.out.mono (fun _ _ h => h.elim), HH.out.fr0 HF1.out⟩

set_option maxRecDepth 100000 in
set_option maxHeartbeats 800000 in
theorem refDo_give (p B : Nat) (L : List Ob) (hL : L.length < 4398046511104) (x : Ob) (hx : x.wf) (w : World) (hB : B ≤ w.heap.size) (h : RefIs w p B L) (hm : x ∉ L) :
    Calls Try.prog 39 #[.pointer (some ⟨p, 0, none⟩), .agg #[.int .i64 1, .int .i64 x.c, .int .i64 x.s, .int .i64 x.o]] w fun e w' => e = .returned (.int .i64 0) ∧ Fr (· = p) w w' ∧ RefIs w' p B (putL L x) := by
  have HH := hid h
  have hHas : ∀ W, Fr0 w W → Calls Try.prog 41 #[.pointer (some ⟨p, 0, none⟩), .agg #[.int .i64 x.c, .int .i64 x.s, .int .i64 x.o]] W fun e w' => e = .returned (.bool false) ∧ Fr0 W w' := fun W hW => by
    have := refHas_any p B L (Nat.le_of_lt hL) x W (h.fr0 hW)
    rwa [decide_eq_false hm] at this
  have HD := hid hHas
  clear hHas hm h
  go_enter Try.func39, Try.ntmps39
  go_wp2
  generalize hW : ((w.alloc _).alloc _) = W
  have hfr : Fr0 w W := hW ▸ fr0_alloc2 _ _ _
  have hb1 : DeedAt W w.heap.size 1 x := by rw [← hW]; exact ((Fr.refl _ _).alloc _ : Fr0 _ _).at (alloc_block w _) (fun h => h)
  clear hW
  have e0 : ∀ q : Ext W, q.out.cell? ⟨w.heap.size, 0, none⟩ = some (.int .i64 1) := fun q => q.cell hb1.cells.1
  have e1 : ∀ q : Ext W, q.out.cell? ⟨w.heap.size, 1, none⟩ = some (.int .i64 x.c) := fun q => q.cell hb1.cells.2.1
  have e2 : ∀ q : Ext W, q.out.cell? ⟨w.heap.size, 2, none⟩ = some (.int .i64 x.s) := fun q => q.cell hb1.cells.2.2.1
  have e3 : ∀ q : Ext W, q.out.cell? ⟨w.heap.size, 3, none⟩ = some (.int .i64 x.o) := fun q => q.cell hb1.cells.2.2.2
  have HF := hid hfr
  clear hfr
  refine wp_region_ext (by kernel_rfl) (by kernel_rfl) ?_
  repeat (refine wpQuiet_step (fun K hK => ?_); go_simp; first | (refine hK _ ?_; clear hK K) | (apply Exists.intro; refine ⟨fun _ => ?_, hK _ ?_⟩; (go_at_call 41; refine calls_ext (HD.out _ (HF.out.trans0 (Ext.fr _)))); clear hK K))
  refine wpQuiet_nil ?_
  intro _ hw'
  obtain ⟨q, hw''⟩ := hw'
  subst hw''
  have hW1 := q.fr
  generalize q.out = W1 at hW1 ⊢
  clear q
  have HF1 := hid (HF.out.trans0 hW1)
  have hb2 := hid (hW1.at hb1 (fun h => h) : DeedAt W1 w.heap.size 1 x)
  obtain ⟨d0, d1, d2, d3⟩ := DeedAt.cells hb2.out
  clear e0 e1 e2 e3 hW1 hb1 HF HD
  have hB1 := Nat.le_trans hB HF1.out.size
  have hC := put_any p B L hL x hx W1 hB1 (HH.out.fr0 HF1.out)
  go_wp2_with (go_at_call 67; refine hC.mono ?_; rintro e w2 ⟨rfl, hf2, hr2⟩; have hb3 := hf2.at hb2.out (fun e => by obtain ⟨v, hv, _⟩ := HH.out; have := lt_of_block hv; omega); have q0 : w2.cell? ⟨w.heap.size, 0, none⟩ = _ := cell_of_block hb3 0; clear d0 d1 d2 d3; have HR := hid (show Fr (· = p) w w2 ∧ RefIs w2 p B (putL L x) from ⟨(HF1.out.mono (fun _ _ h => h.elim)).trans hf2 (fun _ _ h => h), hr2⟩); clear hf2 hr2 hb3)
  go_ret
  exact ⟨rfl, HR.out⟩

set_option maxRecDepth 100000 in
set_option maxHeartbeats 800000 in
theorem refDo_take_no (p B : Nat) (L : List Ob) (hL : L.length < 4398046511104) (x : Ob) (w : World) (_hB : B ≤ w.heap.size) (h : RefIs w p B L) (hm : x ∉ L) :
    Calls Try.prog 39 #[.pointer (some ⟨p, 0, none⟩), .agg #[.int .i64 3, .int .i64 x.c, .int .i64 x.s, .int .i64 x.o]] w fun e w' => e = .returned (.int .i64 270) ∧ Fr (· = p) w w' ∧ RefIs w' p B L := by
  have HH := hid h
  have hHas : ∀ W, Fr0 w W → Calls Try.prog 41 #[.pointer (some ⟨p, 0, none⟩), .agg #[.int .i64 x.c, .int .i64 x.s, .int .i64 x.o]] W fun e w' => e = .returned (.bool false) ∧ Fr0 W w' := fun W hW => by
    have := refHas_any p B L (Nat.le_of_lt hL) x W (h.fr0 hW)
    rwa [decide_eq_false hm] at this
  have HD := hid hHas
  clear hHas hm h
  go_enter Try.func39, Try.ntmps39
  go_wp2
  generalize hW : ((w.alloc _).alloc _) = W
  have hfr : Fr0 w W := hW ▸ fr0_alloc2 _ _ _
  have hb1 : DeedAt W w.heap.size 3 x := by rw [← hW]; exact ((Fr.refl _ _).alloc _ : Fr0 _ _).at (alloc_block w _) (fun h => h)
  clear hW
  have e0 : ∀ q : Ext W, q.out.cell? ⟨w.heap.size, 0, none⟩ = some (.int .i64 3) := fun q => q.cell hb1.cells.1
  have e1 : ∀ q : Ext W, q.out.cell? ⟨w.heap.size, 1, none⟩ = some (.int .i64 x.c) := fun q => q.cell hb1.cells.2.1
  have e2 : ∀ q : Ext W, q.out.cell? ⟨w.heap.size, 2, none⟩ = some (.int .i64 x.s) := fun q => q.cell hb1.cells.2.2.1
  have e3 : ∀ q : Ext W, q.out.cell? ⟨w.heap.size, 3, none⟩ = some (.int .i64 x.o) := fun q => q.cell hb1.cells.2.2.2
  have HF := hid hfr
  clear hfr
  refine wp_region_ext (by kernel_rfl) (by kernel_rfl) ?_
  repeat (refine wpQuiet_step (fun K hK => ?_); go_simp; first | (refine hK _ ?_; clear hK K) | (apply Exists.intro; refine ⟨fun _ => ?_, hK _ ?_⟩; (go_at_call 41; refine calls_ext (HD.out _ (HF.out.trans0 (Ext.fr _)))); clear hK K))
  refine wpQuiet_nil ?_
  intro _ hw'
  obtain ⟨q, hw''⟩ := hw'
  subst hw''
  have hW1 := q.fr
  generalize q.out = W1 at hW1 ⊢
  clear q
  have HF1 := hid (HF.out.trans0 hW1)
  have hb2 := hid (hW1.at hb1 (fun h => h) : DeedAt W1 w.heap.size 3 x)
  obtain ⟨d0, d1, d2, d3⟩ := DeedAt.cells hb2.out
  clear e0 e1 e2 e3 hW1 hb1 HF HD
  go_wp2
  go_ret
  exact ⟨rfl, HF1.out.mono (fun _ _ h => h.elim), HH.out.fr0 HF1.out⟩

set_option maxRecDepth 100000 in
set_option maxHeartbeats 800000 in
theorem refDo_take (p B : Nat) (L : List Ob) (hL : L.length < 4398046511104) (x : Ob) (w : World) (hB : B ≤ w.heap.size) (h : RefIs w p B L) (hm : x ∈ L) :
    Calls Try.prog 39 #[.pointer (some ⟨p, 0, none⟩), .agg #[.int .i64 3, .int .i64 x.c, .int .i64 x.s, .int .i64 x.o]] w fun e w' => e = .returned (.int .i64 0) ∧ Fr (· = p) w w' ∧ RefIs w' p B (dropL L x) := by
  have HH := hid h
  have hHas : ∀ W, Fr0 w W → Calls Try.prog 41 #[.pointer (some ⟨p, 0, none⟩), .agg #[.int .i64 x.c, .int .i64 x.s, .int .i64 x.o]] W fun e w' => e = .returned (.bool true) ∧ Fr0 W w' := fun W hW => by
    have := refHas_any p B L (Nat.le_of_lt hL) x W (h.fr0 hW)
    rwa [decide_eq_true hm] at this
  have HD := hid hHas
  clear hHas hm h
  go_enter Try.func39, Try.ntmps39
  go_wp2
  generalize hW : ((w.alloc _).alloc _) = W
  have hfr : Fr0 w W := hW ▸ fr0_alloc2 _ _ _
  have hb1 : DeedAt W w.heap.size 3 x := by rw [← hW]; exact ((Fr.refl _ _).alloc _ : Fr0 _ _).at (alloc_block w _) (fun h => h)
  clear hW
  have e0 : ∀ q : Ext W, q.out.cell? ⟨w.heap.size, 0, none⟩ = some (.int .i64 3) := fun q => q.cell hb1.cells.1
  have e1 : ∀ q : Ext W, q.out.cell? ⟨w.heap.size, 1, none⟩ = some (.int .i64 x.c) := fun q => q.cell hb1.cells.2.1
  have e2 : ∀ q : Ext W, q.out.cell? ⟨w.heap.size, 2, none⟩ = some (.int .i64 x.s) := fun q => q.cell hb1.cells.2.2.1
  have e3 : ∀ q : Ext W, q.out.cell? ⟨w.heap.size, 3, none⟩ = some (.int .i64 x.o) := fun q => q.cell hb1.cells.2.2.2
  have HF := hid hfr
  clear hfr
  refine wp_region_ext (by kernel_rfl) (by kernel_rfl) ?_
  repeat (refine wpQuiet_step (fun K hK => ?_); go_simp; first | (refine hK _ ?_; clear hK K) | (apply Exists.intro; refine ⟨fun _ => ?_, hK _ ?_⟩; (go_at_call 41; refine calls_ext (HD.out _ (HF.out.trans0 (Ext.fr _)))); clear hK K))
  refine wpQuiet_nil ?_
  intro _ hw'
  obtain ⟨q, hw''⟩ := hw'
  subst hw''
  have hW1 := q.fr
  generalize q.out = W1 at hW1 ⊢
  clear q
  have HF1 := hid (HF.out.trans0 hW1)
  have hb2 := hid (hW1.at hb1 (fun h => h) : DeedAt W1 w.heap.size 3 x)
  obtain ⟨d0, d1, d2, d3⟩ := DeedAt.cells hb2.out
  clear e0 e1 e2 e3 hW1 hb1 HF HD
  have hB1 := Nat.le_trans hB HF1.out.size
  have hC := drop_any p B L hL x W1 hB1 (HH.out.fr0 HF1.out)
  go_wp2_with (go_at_call 68; refine hC.mono ?_; rintro e w2 ⟨rfl, hf2, hr2⟩; have HR := hid (show Fr (· = p) w w2 ∧ RefIs w2 p B (dropL L x) from ⟨(HF1.out.mono (fun _ _ h => h.elim)).trans hf2 (fun _ _ h => h), hr2⟩); clear hf2 hr2)
  go_ret
  exact ⟨rfl, HR.out⟩

set_option maxRecDepth 100000 in
set_option maxHeartbeats 800000 in
theorem refDo_bad_no (p B : Nat) (L : List Ob) (hL : L.length < 4398046511104) (x : Ob) (w : World) (_hB : B ≤ w.heap.size) (h : RefIs w p B L) (hm : x ∈ L) :
    Calls Try.prog 39 #[.pointer (some ⟨p, 0, none⟩), .agg #[.int .i64 4, .int .i64 x.c, .int .i64 x.s, .int .i64 x.o]] w fun e w' => e = .returned (.int .i64 270) ∧ Fr (· = p) w w' ∧ RefIs w' p B L := by
  have HH := hid h
  have hHas : ∀ W, Fr0 w W → Calls Try.prog 41 #[.pointer (some ⟨p, 0, none⟩), .agg #[.int .i64 x.c, .int .i64 x.s, .int .i64 x.o]] W fun e w' => e = .returned (.bool true) ∧ Fr0 W w' := fun W hW => by
    have := refHas_any p B L (Nat.le_of_lt hL) x W (h.fr0 hW)
    rwa [decide_eq_true hm] at this
  have HD := hid hHas
  clear hHas hm h
  go_enter Try.func39, Try.ntmps39
  go_wp2
  generalize hW : ((w.alloc _).alloc _) = W
  have hfr : Fr0 w W := hW ▸ fr0_alloc2 _ _ _
  have hb1 : DeedAt W w.heap.size 4 x := by rw [← hW]; exact ((Fr.refl _ _).alloc _ : Fr0 _ _).at (alloc_block w _) (fun h => h)
  clear hW
  have e0 : ∀ q : Ext W, q.out.cell? ⟨w.heap.size, 0, none⟩ = some (.int .i64 4) := fun q => q.cell hb1.cells.1
  have e1 : ∀ q : Ext W, q.out.cell? ⟨w.heap.size, 1, none⟩ = some (.int .i64 x.c) := fun q => q.cell hb1.cells.2.1
  have e2 : ∀ q : Ext W, q.out.cell? ⟨w.heap.size, 2, none⟩ = some (.int .i64 x.s) := fun q => q.cell hb1.cells.2.2.1
  have e3 : ∀ q : Ext W, q.out.cell? ⟨w.heap.size, 3, none⟩ = some (.int .i64 x.o) := fun q => q.cell hb1.cells.2.2.2
  have HF := hid hfr
  clear hfr
  refine wp_region_ext (by kernel_rfl) (by kernel_rfl) ?_
  repeat (refine wpQuiet_step (fun K hK => ?_); go_simp; first | (refine hK _ ?_; clear hK K) | (apply Exists.intro; refine ⟨fun _ => ?_, hK _ ?_⟩; (go_at_call 41; refine calls_ext (HD.out _ (HF.out.trans0 (Ext.fr _)))); clear hK K))
  refine wpQuiet_nil ?_
  intro _ hw'
  obtain ⟨q, hw''⟩ := hw'
  subst hw''
  have hW1 := q.fr
  generalize q.out = W1 at hW1 ⊢
  clear q
  have HF1 := hid (HF.out.trans0 hW1)
  have hb2 := hid (hW1.at hb1 (fun h => h) : DeedAt W1 w.heap.size 4 x)
  obtain ⟨d0, d1, d2, d3⟩ := DeedAt.cells hb2.out
  clear e0 e1 e2 e3 hW1 hb1 HF HD
  go_wp2
  go_ret
  exact ⟨rfl, HF1.out.mono (fun _ _ h => h.elim), HH.out.fr0 HF1.out⟩

set_option maxRecDepth 100000 in
set_option maxHeartbeats 800000 in
theorem refDo_bad (p B : Nat) (L : List Ob) (hL : L.length < 4398046511104) (x : Ob) (w : World) (_hB : B ≤ w.heap.size) (h : RefIs w p B L) (hm : x ∉ L) :
    Calls Try.prog 39 #[.pointer (some ⟨p, 0, none⟩), .agg #[.int .i64 4, .int .i64 x.c, .int .i64 x.s, .int .i64 x.o]] w fun e w' => e = .returned (.int .i64 0) ∧ Fr (· = p) w w' ∧ RefIs w' p B L := by
  have HH := hid h
  have hHas : ∀ W, Fr0 w W → Calls Try.prog 41 #[.pointer (some ⟨p, 0, none⟩), .agg #[.int .i64 x.c, .int .i64 x.s, .int .i64 x.o]] W fun e w' => e = .returned (.bool false) ∧ Fr0 W w' := fun W hW => by
    have := refHas_any p B L (Nat.le_of_lt hL) x W (h.fr0 hW)
    rwa [decide_eq_false hm] at this
  have HD := hid hHas
  clear hHas hm h
  go_enter Try.func39, Try.ntmps39
  go_wp2
  generalize hW : ((w.alloc _).alloc _) = W
  have hfr : Fr0 w W := hW ▸ fr0_alloc2 _ _ _
  have hb1 : DeedAt W w.heap.size 4 x := by rw [← hW]; exact ((Fr.refl _ _).alloc _ : Fr0 _ _).at (alloc_block w _) (fun h => h)
  clear hW
  have e0 : ∀ q : Ext W, q.out.cell? ⟨w.heap.size, 0, none⟩ = some (.int .i64 4) := fun q => q.cell hb1.cells.1
  have e1 : ∀ q : Ext W, q.out.cell? ⟨w.heap.size, 1, none⟩ = some (.int .i64 x.c) := fun q => q.cell hb1.cells.2.1
  have e2 : ∀ q : Ext W, q.out.cell? ⟨w.heap.size, 2, none⟩ = some (.int .i64 x.s) := fun q => q.cell hb1.cells.2.2.1
  have e3 : ∀ q : Ext W, q.out.cell? ⟨w.heap.size, 3, none⟩ = some (.int .i64 x.o) := fun q => q.cell hb1.cells.2.2.2
  have HF := hid hfr
  clear hfr
  refine wp_region_ext (by kernel_rfl) (by kernel_rfl) ?_
  repeat (refine wpQuiet_step (fun K hK => ?_); go_simp; first | (refine hK _ ?_; clear hK K) | (apply Exists.intro; refine ⟨fun _ => ?_, hK _ ?_⟩; (go_at_call 41; refine calls_ext (HD.out _ (HF.out.trans0 (Ext.fr _)))); clear hK K))
  refine wpQuiet_nil ?_
  intro _ hw'
  obtain ⟨q, hw''⟩ := hw'
  subst hw''
  have hW1 := q.fr
  generalize q.out = W1 at hW1 ⊢
  clear q
  have HF1 := hid (HF.out.trans0 hW1)
  have hb2 := hid (hW1.at hb1 (fun h => h) : DeedAt W1 w.heap.size 4 x)
  obtain ⟨d0, d1, d2, d3⟩ := DeedAt.cells hb2.out
  clear e0 e1 e2 e3 hW1 hb1 HF HD
  go_wp2
  go_ret
  exact ⟨rfl, HF1.out.mono (fun _ _ h => h.elim), HH.out.fr0 HF1.out⟩

end Go.Proofs.Ytjaabbjobnfmmaa

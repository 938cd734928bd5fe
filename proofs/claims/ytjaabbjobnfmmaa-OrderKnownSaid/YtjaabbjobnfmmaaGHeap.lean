/-
  The program's heap: what its methods none, Has, give, nothing, take, bad do, told by the list of the objects that are out. The program's heap: what New and Do do, told by the list of the objects that are out. The program's heap: Do at every deed. The program's heap: Play, at every list of deeds.
-/
import Derived.Test.YtjaabbjobnfmmaaMap
import Derived.Test.YtjaabbjobnfmmaaFrame
import Derived.Test.YtjaabbjobnfmmaaRows
import Derived.WalkKit
import Derived.WalkSpells
import Derived.WalkLawsBesides
import Derived.BigRegion
import Derived.DeepKeys4
import Derived.Deep.QuietTactic
import Derived.BigQuiet
import Derived.Laws.EntriesVeiled
import Derived.StillTailTactics
namespace Go.Proofs.Ytjaabbjobnfmmaa
open Go.RowKit
open Go.Maps (Keyed)

/-- An object: its cache, its slab, its number. -/
structure Ob where
  c : Int
  s : Int
  o : Int
deriving DecidableEq

def Ob.val (x : Ob) : Value := .agg #[.int .i64 x.c, .int .i64 x.s, .int .i64 x.o]
def Ob.wf (x : Ob) : Prop := (Lit.int .i64 x.c).wf = true ∧ (Lit.int .i64 x.s).wf = true ∧ (Lit.int .i64 x.o).wf = true

theorem laidOut : laidOutB Try.prog = true := by kernel_rfl
theorem row30 : (30 : TypeId) < Try.prog.types.size := of_decide_eq_true (by kernel_rfl)
theorem deep30 : Try.prog.keyTypeAt 2 30 = true := by kernel_rfl
theorem law30 : Keyed Try.prog 30 := Keyed.of_law (deep_law_laid laidOut (m := 2) (by omega) row30 deep30 (by rw [Try.underlying30]))
theorem keyType30 : Try.prog.keyType 30 = true := by kernel_rfl
theorem cells30 : Try.prog.cellsOf 30 = 3 := by kernel_rfl
theorem cells3 : Try.prog.cellsOf 3 = 1 := by kernel_rfl
theorem keyOf30 (x : Ob) (h : x.wf) : ∃ l, keyOf Try.prog 30 x.val = some l :=
  keyOf_struct3 Try.underlying30 (by decide) (by decide) (by decide) Try.underlying3 keyType30 cells30 cells3 (Nat.lt_of_le_of_lt (Nat.zero_le _) row30) h.1 h.2.1 h.2.2

/-- The heap behind p: its map lies in block b and holds the objects S, in some order. -/
def SetIs (w : World) (b : Nat) (S : List Ob) : Prop := MapIs Try.prog 30 w b (S.map fun x => (x.val, .agg #[])) ∧ ∀ x ∈ S, x.wf
def HeapIs (w : World) (p b : Nat) (S : List Ob) : Prop := w.heap[p]? = some (.cells #[.map (some b)] 44 (0, 0)) ∧ SetIs w b S ∧ p ≠ b

theorem Ob.val_inj {x y : Ob} (h : x.val = y.val) : x = y := by
  cases x; cases y; simp [Ob.val] at h; simp [h]

theorem zero69 (w : World) : (zeroValue 69).run Try.prog w = .ok (.agg #[]) w := by kernel_rfl

theorem SetIs.look {w : World} {b : Nat} {S : List Ob} (h : SetIs w b S) {x : Ob} (hx : x.wf) :
    (Instr.lookup 42 (.map (some b)) x.val true).run Try.prog w = .ok (.tuple #[.agg #[], .bool (decide (x ∈ S))]) w := by
  obtain ⟨kl, hkey⟩ := keyOf30 x hx
  rcases h.1.look true law30 Try.underlying42 (zero69 w) hkey with ⟨h1, h2⟩ | ⟨v, hv, h1⟩
  · have : x ∉ S := fun hm => h2 (x.val, .agg #[]) (List.mem_map.2 ⟨x, hm, rfl⟩) rfl
    simpa [this] using h1
  · obtain ⟨y, hy, e⟩ := List.mem_map.1 hv
    have e1 := Ob.val_inj (congrArg Prod.fst e)
    have e2 := congrArg Prod.snd e
    subst e1
    simp only at e2
    subst e2
    simpa [hy] using h1

theorem SetIs.nodup {w : World} {b : Nat} {S : List Ob} (h : SetIs w b S) : S.Nodup := by
  have := h.1.apart
  rw [List.pairwise_map] at this
  exact this.imp (fun {x y} hne e => hne (by rw [e]))

/-- S with x. -/
def ins (S : List Ob) (x : Ob) : List Ob := if x ∈ S then S else S ++ [x]

theorem SetIs.store {w : World} {b : Nat} {S : List Ob} (h : SetIs w b S) {x : Ob} (hx : x.wf) :
    ∃ w', (Instr.mapUpdate 42 (.map (some b)) x.val (.agg #[])).run Try.prog w = .ok () w' ∧ SetIs w' b (ins S x) ∧ w.mapTurned w' b := by
  obtain ⟨kl, hkey⟩ := keyOf30 x hx
  unfold ins
  by_cases hm : x ∈ S
  · rw [if_pos hm]
    obtain ⟨i, hi⟩ := List.mem_iff_getElem?.1 hm
    have hi' : (S.map fun x => (x.val, Value.agg #[]))[i]? = some (x.val, .agg #[]) := by simp [hi]
    obtain ⟨w', h1, h2, h3⟩ := h.1.store_old law30 Try.underlying42 hkey hi' (.agg #[])
    refine ⟨w', h1, ⟨?_, h.2⟩, h3⟩
    obtain ⟨hl, he⟩ := List.getElem?_eq_some_iff.1 hi'
    have hs := List.set_getElem_self hl
    rw [he] at hs
    rwa [hs] at h2
  · rw [if_neg hm]
    obtain ⟨w', h1, h2, h3⟩ := h.1.store_new law30 Try.underlying42 hkey (fun p hp e => by
      obtain ⟨y, hy, rfl⟩ := List.mem_map.1 hp
      exact hm (Ob.val_inj e ▸ hy)) (.agg #[])
    refine ⟨w', h1, ⟨by simpa using h2, ?_⟩, h3⟩
    intro y hy
    rcases List.mem_append.1 hy with h' | h'
    · exact h.2 y h'
    · rw [List.mem_singleton.1 h']; exact hx

theorem SetIs.drop {w : World} {b : Nat} {S : List Ob} (h : SetIs w b S) {x : Ob} (hx : x.wf) (ty : TypeId) :
    ∃ w', (Builtin.delete_ #[42, 30] ty #[.map (some b), x.val]).run Try.prog w = .ok (.tuple #[]) w' ∧ SetIs w' b (S.erase x) ∧ w.mapTurned w' b := by
  obtain ⟨kl, hkey⟩ := keyOf30 x hx
  by_cases hm : x ∈ S
  · obtain ⟨i, hi⟩ := List.mem_iff_getElem?.1 hm
    have hi' : (S.map fun x => (x.val, Value.agg #[]))[i]? = some (x.val, .agg #[]) := by simp [hi]
    obtain ⟨w', h1, h2, h3⟩ := h.1.drop_some law30 Try.underlying42 hkey hi' ty
    have he : S.erase x = S.eraseIdx i := by
      obtain ⟨hil, hie⟩ := List.getElem?_eq_some_iff.1 hi
      exact List.erase_eq_eraseIdx_of_idxOf (by rw [← hie]; exact h.nodup.idxOf_getElem i hil)
    refine ⟨w', h1, ⟨?_, fun y hy => h.2 y (List.mem_of_mem_erase hy)⟩, h3⟩
    rw [he]
    rwa [← ChangeMaps.map_eraseIdx] at h2
  · rw [List.erase_of_not_mem hm]
    obtain ⟨w', h1, h2, h3⟩ := h.1.drop_none law30 Try.underlying42 hkey (fun p hp e => by
      obtain ⟨y, hy, rfl⟩ := List.mem_map.1 hp
      exact hm (Ob.val_inj e ▸ hy)) ty
    exact ⟨w', h1, ⟨h2, h.2⟩, h3⟩

theorem SetIs.fr {X : Nat → Prop} {w w' : World} {b : Nat} {S : List Ob} (h : SetIs w b S) (hf : Fr X w w') (hb : ¬ X b) : SetIs w' b S :=
  ⟨h.1.block (hf.block b h.1.lt hb), h.2⟩
theorem HeapIs.fr {X : Nat → Prop} {w w' : World} {p b : Nat} {S : List Ob} (h : HeapIs w p b S) (hf : Fr X w w') (hp : ¬ X p) (hb : ¬ X b) : HeapIs w' p b S :=
  ⟨hf.at h.1 hp, h.2.1.fr hf hb, h.2.2⟩
theorem HeapIs.fr0 {w w' : World} {p b : Nat} {S : List Ob} (h : HeapIs w p b S) (hf : Fr0 w w') : HeapIs w' p b S := h.fr hf (fun h => h) (fun h => h)

theorem HeapIs.cell {w : World} {p b : Nat} {S : List Ob} (h : HeapIs w p b S) : w.cell? ⟨p, 0, none⟩ = some (.map (some b)) := by
  simp [World.cell?, h.1]

theorem fr0_alloc (w : World) (o : Obj) : Fr0 w (w.alloc o) := (Fr.refl _ w).alloc o
/-- A box of three cells, made ahead of a call that has left all elder blocks as they were. -/
theorem box3 {w w1 : World} {a b c : Value} {t : TypeId} (h : Fr0 (w.alloc (.cells #[a, b, c] t)) w1) :
    w1.cell? ⟨w.heap.size, 0, none⟩ = some a ∧ w1.cell? ⟨w.heap.size, 1, none⟩ = some b ∧ w1.cell? ⟨w.heap.size, 2, none⟩ = some c := by
  have hb := h.at (alloc_block w _) (fun h => h)
  exact ⟨cell_of_block hb 0, cell_of_block hb 1, cell_of_block hb 2⟩
theorem fr0_alloc2 (w : World) (o o2 : Obj) : Fr0 w ((w.alloc o).alloc o2) := ((Fr.refl _ w).alloc o).alloc o2

set_option maxHeartbeats 400000 in
theorem none_any (p b : Nat) (S : List Ob) (w : World) (h : HeapIs w p b S) :
    Calls Try.prog 44 #[.pointer (some ⟨p, 0, none⟩)] w fun e w' => e = .returned (.bool false) ∧ w = w' := by
  have hc := h.cell
  clear h
  have he := fun (w : World) (r : Option Nat) => run_eql_map_nil (P := Try.prog) w 42 30 69 r Try.underlying42
  go_enter Try.func44, Try.ntmps44
  go_wp2
  go_ret
  exact ⟨rfl, rfl⟩

set_option maxHeartbeats 400000 in
theorem has_any (p b : Nat) (S : List Ob) (x : Ob) (hx : x.wf) (w : World) (h : HeapIs w p b S) :
    Calls Try.prog 24 #[.pointer (some ⟨p, 0, none⟩), .agg #[.int .i64 x.c, .int .i64 x.s, .int .i64 x.o]] w fun e w' => e = .returned (.bool (decide (x ∈ S))) ∧ Fr0 w w' := by
  have hl1 : ∀ o, (Instr.lookup 42 (.map (some b)) (.agg #[.int .i64 x.c, .int .i64 x.s, .int .i64 x.o]) true).run Try.prog (w.alloc o).drew = .ok (.tuple #[.agg #[], .bool (decide (x ∈ S))]) (w.alloc o).drew := fun o => SetIs.look (w := (w.alloc o).drew) (h.fr0 (fr0_alloc w o)).2.1 hx
  have hl2 : ∀ o o2, (Instr.lookup 42 (.map (some b)) (.agg #[.int .i64 x.c, .int .i64 x.s, .int .i64 x.o]) true).run Try.prog ((w.alloc o).alloc o2).drew = .ok (.tuple #[.agg #[], .bool (decide (x ∈ S))]) ((w.alloc o).alloc o2).drew := fun o o2 => SetIs.look (w := ((w.alloc o).alloc o2).drew) (h.fr0 (fr0_alloc2 w o o2)).2.1 hx
  have hcl : ∀ o, (w.alloc o).cell? ⟨p, 0, none⟩ = some (.map (some b)) := fun o => (h.fr0 (fr0_alloc w o)).cell
  have hcl2 : ∀ o o2, ((w.alloc o).alloc o2).cell? ⟨p, 0, none⟩ = some (.map (some b)) := fun o o2 => (h.fr0 (fr0_alloc2 w o o2)).cell
  have HN := fun o => none_any p b S (w.alloc o) (h.fr0 (fr0_alloc w o))
  clear h
  generalize decide (x ∈ S) = r at hl1 hl2
  go_enter Try.func24, Try.ntmps24
  go_wp2_with (go_at_call 44; refine (HN _).mono ?_; rintro e w' ⟨rfl, rfl⟩)
  go_region
  go_wp2
  go_ret
  exact ⟨rfl, (fr0_alloc2 _ _ _).drew⟩

set_option maxHeartbeats 400000 in
theorem bad_any (p b : Nat) (S : List Ob) (x : Ob) (hx : x.wf) (w : World) (h : HeapIs w p b S) :
    Calls Try.prog 48 #[.pointer (some ⟨p, 0, none⟩), .agg #[.int .i64 x.c, .int .i64 x.s, .int .i64 x.o]] w fun e w' => e = .returned (.bool (!decide (x ∈ S))) ∧ Fr0 w w' := by
  have HN := fun o => has_any p b S x hx (w.alloc o) (h.fr0 (fr0_alloc w o))
  clear h
  generalize decide (x ∈ S) = r at HN
  go_enter Try.func48, Try.ntmps48
  go_wp2_with (go_at_call 24; refine (HN _).mono ?_; rintro e w' ⟨rfl, hw'⟩)
  go_ret
  exact ⟨rfl, (fr0_alloc _ _).trans0 hw'⟩

set_option maxHeartbeats 400000 in
theorem nothing_any (q : Value) (x : Ob) (w : World) :
    Calls Try.prog 46 #[q, .agg #[.int .i64 x.c, .int .i64 x.s, .int .i64 x.o]] w fun e w' => e = .returned (.bool true) ∧ Fr0 w w' := by
  go_enter Try.func46, Try.ntmps46
  go_wp2
  go_ret
  exact ⟨rfl, fr0_alloc _ _⟩

set_option maxHeartbeats 400000 in
theorem give_any (p b : Nat) (S : List Ob) (x : Ob) (hx : x.wf) (w : World) (h : HeapIs w p b S) :
    Calls Try.prog 45 #[.pointer (some ⟨p, 0, none⟩), .agg #[.int .i64 x.c, .int .i64 x.s, .int .i64 x.o]] w fun e w' => e = .returned (.bool (!decide (x ∈ S))) ∧ Fr (· = b) w w' ∧ HeapIs w' p b (ins S x) := by
  have HN := fun o => has_any p b S x hx (w.alloc o) (h.fr0 (fr0_alloc w o))
  have HH := hid h
  clear h
  go_enter Try.func45, Try.ntmps45
  go_wp2_with (go_at_call 24; refine (HN _).mono ?_; rintro e w1 ⟨rfl, hw1⟩)
  have hH := HH.out.fr0 ((fr0_alloc w _).trans0 hw1)
  obtain ⟨b0, b1, b2⟩ := box3 hw1
  obtain ⟨w2, hrun, hset, hturn⟩ := SetIs.store (w := w1.drew) hH.2.1 hx
  have hcell := hH.cell
  have HX : Hid (Fr (· = b) w w2 ∧ HeapIs w2 p b (ins S x)) := hid ⟨((fr0_alloc w _).trans0 hw1).drew.mono (fun _ _ h => h.elim) |>.turned hturn (fun _ => rfl), (Fr.refl (· = b) w1).drew.turned hturn (fun _ => rfl) |>.at hH.1 hH.2.2, hset, hH.2.2⟩
  clear hset hturn HH hw1 hH HN
  simp only [Ob.val] at hrun
  go_region
  go_wp2
  go_ret
  exact ⟨rfl, HX.out⟩

set_option maxHeartbeats 400000 in
theorem take_any (p b : Nat) (S : List Ob) (x : Ob) (hx : x.wf) (w : World) (h : HeapIs w p b S) :
    Calls Try.prog 47 #[.pointer (some ⟨p, 0, none⟩), .agg #[.int .i64 x.c, .int .i64 x.s, .int .i64 x.o]] w fun e w' => e = .returned (.bool (decide (x ∈ S))) ∧ Fr (· = b) w w' ∧ HeapIs w' p b (S.erase x) := by
  have HN := fun o => has_any p b S x hx (w.alloc o) (h.fr0 (fr0_alloc w o))
  have HH := hid h
  clear h
  go_enter Try.func47, Try.ntmps47
  go_wp2_with (go_at_call 24; refine (HN _).mono ?_; rintro e w1 ⟨rfl, hw1⟩)
  have hH := HH.out.fr0 ((fr0_alloc w _).trans0 hw1)
  obtain ⟨b0, b1, b2⟩ := box3 hw1
  obtain ⟨w2, hrun, hset, hturn⟩ := SetIs.drop (w := w1.drew) hH.2.1 hx 0
  have hcell := hH.cell
  have HX : Hid (Fr (· = b) w w2 ∧ HeapIs w2 p b (S.erase x)) := hid ⟨((fr0_alloc w _).trans0 hw1).drew.mono (fun _ _ h => h.elim) |>.turned hturn (fun _ => rfl), (Fr.refl (· = b) w1).drew.turned hturn (fun _ => rfl) |>.at hH.1 hH.2.2, hset, hH.2.2⟩
  clear hset hturn HH hw1 hH HN
  simp only [Ob.val] at hrun
  go_region
  go_wp2
  go_ret
  exact ⟨rfl, HX.out⟩

end Go.Proofs.Ytjaabbjobnfmmaa

namespace Go.Proofs.Ytjaabbjobnfmmaa
open Go.RowKit

theorem struct30 : Try.prog.underlying 30 = some (.struct (Try.prog.fieldsOf 30)) := by rw [Program.fieldsOf, Try.underlying30]
theorem stood30 : Try.prog.stoodInHeld 30 = false := by kernel_rfl
theorem guard30 : Try.prog.eqGuardType Try.prog.depth 30 = false := by kernel_rfl

theorem Ob.beq_iff (x y : Ob) : decide (x = y) = (x.c == y.c && (x.s == y.s && x.o == y.o)) := by
  cases x; cases y
  rw [Bool.eq_iff_iff]
  simp

theorem eqIn30 (x y : Ob) (w : World) : (Op.equalIn 10000 30 x.val y.val).run Try.prog w = .ok (decide (x = y)) w := by
  have u3 := Try.underlying3
  have a3 := Try.isAgg3
  rw [Ob.beq_iff]
  simp only [Ob.val]
  rw [show (10000 : Nat) = 9999 + 1 from rfl, run_equalIn_agg w 9999 30 _ _ struct30 stood30]
  simp only [Program.fieldsOf, Try.underlying30]
  go_simp
  by_cases h1 : x.c = y.c <;> by_cases h2 : x.s = y.s <;> by_cases h3 : x.o = y.o <;> simp [h1, h2, h3]

theorem eql30 (x y : Ob) (w : World) : (binOp .eql 30 x.val y.val).run Try.prog w = .ok (.bool (decide (x = y))) w := by
  rw [Ob.val, Ob.val, run_eql_struct]
  have := eqIn30 x y w
  rw [Ob.val, Ob.val] at this
  rw [this]; rfl
theorem neq30 (x y : Ob) (w : World) : (binOp .neq 30 x.val y.val).run Try.prog w = .ok (.bool (!decide (x = y))) w := by
  rw [Ob.val, Ob.val, run_neq_struct]
  have := eqIn30 x y w
  rw [Ob.val, Ob.val] at this
  rw [this]; rfl

theorem new_any (w : World) :
    Calls Try.prog 21 #[] w fun e w' => e = .returned (.pointer (some ⟨w.heap.size + 1, 0, none⟩)) ∧ Fr0 w w' ∧ HeapIs w' (w.heap.size + 1) w.heap.size [] := by
  have hmm := @run_makeMap Try.prog
  go_enter Try.func21, Try.ntmps21
  go_wp2
  go_ret
  refine ⟨rfl, fr0_alloc2 _ _ _, ?_, ⟨(MapIs.made w Try.prog 30).alloc _, by simp⟩, by omega⟩
  have := alloc_block (w.alloc (.map #[] 0)) (.cells #[.map (some w.heap.size)] 44)
  simpa using this

def zob : Ob := ⟨0, 0, 0⟩
/-- What Do answers, and which objects are out behind it. -/
def hdo (S : List Ob) (k : Int) (x : Ob) : Int × List Ob :=
  if k < 1 ∨ 4 < k ∨ (k = 2 ∧ x ≠ zob) then (2, S)
  else if k = 1 then (if x ∈ S then 270 else 0, ins S x)
  else if k = 2 then (0, S)
  else if k = 3 then (if x ∈ S then 0 else 270, S.erase x)
  else (if x ∈ S then 270 else 0, S)

set_option maxRecDepth 100000 in
set_option maxHeartbeats 400000 in
theorem do_give (p b : Nat) (S : List Ob) (x : Ob) (w : World) (h : HeapIs w p b S) (r : Bool) (R : World → Prop)
    (HC : ∀ W, Fr0 w W → Calls Try.prog 45 #[.pointer (some ⟨p, 0, none⟩), .agg #[.int .i64 x.c, .int .i64 x.s, .int .i64 x.o]] W fun e w' => e = .returned (.bool r) ∧ R w') :
    Calls Try.prog 22 #[.pointer (some ⟨p, 0, none⟩), .agg #[.int .i64 1, .int .i64 x.c, .int .i64 x.s, .int .i64 x.o]] w fun e w' => e = .returned (.int .i64 (if r then 0 else 270)) ∧ R w' := by
  have HN := fun o => none_any p b S (w.alloc o) (h.fr0 (fr0_alloc w o))
  clear h
  have HD := hid HC
  clear HC
  go_enter Try.func22, Try.ntmps22
  go_wp2_with (go_at_call 44; refine (HN _).mono ?_; rintro e w' ⟨rfl, rfl⟩)
  generalize hW : ((w.alloc _).alloc _) = W
  have hfr : Fr0 w W := hW ▸ fr0_alloc2 _ _ _
  have hb1 : W.heap[w.heap.size]? = some (.cells #[.int .i64 1, .int .i64 x.c, .int .i64 x.s, .int .i64 x.o] 32 (0, 0)) := by
    rw [← hW]; exact ((Fr.refl _ _).alloc _ : Fr0 _ _).at (alloc_block w _) (fun h => h)
  have hb2 : W.heap[w.heap.size + 1]? = some (.cells #[.nilFunc, .func (.func 45) #[.pointer (some ⟨p, 0, none⟩)] #[], .func (.func 46) #[.pointer (some ⟨p, 0, none⟩)] #[], .func (.func 47) #[.pointer (some ⟨p, 0, none⟩)] #[], .func (.func 48) #[.pointer (some ⟨p, 0, none⟩)] #[]] 64 (0, 0)) := by
    rw [← hW]
    have := alloc_block (w.alloc (.cells #[.int .i64 1, .int .i64 x.c, .int .i64 x.s, .int .i64 x.o] 32)) (.cells #[.nilFunc, .func (.func 45) #[.pointer (some ⟨p, 0, none⟩)] #[], .func (.func 46) #[.pointer (some ⟨p, 0, none⟩)] #[], .func (.func 47) #[.pointer (some ⟨p, 0, none⟩)] #[], .func (.func 48) #[.pointer (some ⟨p, 0, none⟩)] #[]] 64)
    simpa using this
  clear hW
  have c0 : W.cell? ⟨w.heap.size, 0, none⟩ = _ := cell_of_block hb1 0
  have c1 : W.cell? ⟨w.heap.size, 1, none⟩ = _ := cell_of_block hb1 1
  have c2 : W.cell? ⟨w.heap.size, 2, none⟩ = _ := cell_of_block hb1 2
  have c3 : W.cell? ⟨w.heap.size, 3, none⟩ = _ := cell_of_block hb1 3
  have f1 : W.cell? ⟨w.heap.size + 1, 1, none⟩ = _ := cell_of_block hb2 1
  simp only [List.getElem?_toArray, List.getElem?_cons_zero, List.getElem?_cons_succ] at c0 c1 c2 c3 f1
  have HG := HD.out W.drew hfr.drew
  clear hb1 hb2 hfr HN HD
  go_still_tail 6, (by kernel_rfl)
  change wpList _ _ _ _ _ W.drew
  cases r with
  | true =>
    go_wp2_with (go_at_call 45; refine HG.mono ?_; rintro e w2 ⟨rfl, hR⟩)
    go_ret
    exact ⟨rfl, hR⟩
  | false =>
    go_wp2_with (go_at_call 45; refine HG.mono ?_; rintro e w2 ⟨rfl, hR⟩)
    go_ret
    exact ⟨rfl, hR⟩

set_option maxRecDepth 100000 in
set_option maxHeartbeats 400000 in
theorem do_none (p b : Nat) (S : List Ob) (x : Ob) (hz : x = zob) (w : World) (h : HeapIs w p b S) (r : Bool) (R : World → Prop)
    (HC : ∀ W, Fr0 w W → Calls Try.prog 46 #[.pointer (some ⟨p, 0, none⟩), .agg #[.int .i64 x.c, .int .i64 x.s, .int .i64 x.o]] W fun e w' => e = .returned (.bool r) ∧ R w') :
    Calls Try.prog 22 #[.pointer (some ⟨p, 0, none⟩), .agg #[.int .i64 2, .int .i64 x.c, .int .i64 x.s, .int .i64 x.o]] w fun e w' => e = .returned (.int .i64 (if r then 0 else 270)) ∧ R w' := by
  have HN := fun o => none_any p b S (w.alloc o) (h.fr0 (fr0_alloc w o))
  clear h
  have hne := fun W => neq30 x zob W
  rw [decide_eq_true hz] at hne
  simp only [Ob.val, zob] at hne
  have hg := guard30
  clear hz
  have HD := hid HC
  clear HC
  go_enter Try.func22, Try.ntmps22
  go_wp2_with (go_at_call 44; refine (HN _).mono ?_; rintro e w' ⟨rfl, rfl⟩)
  generalize hW : ((w.alloc _).alloc _) = W
  have hfr : Fr0 w W := hW ▸ fr0_alloc2 _ _ _
  have hb1 : W.heap[w.heap.size]? = some (.cells #[.int .i64 2, .int .i64 x.c, .int .i64 x.s, .int .i64 x.o] 32 (0, 0)) := by
    rw [← hW]; exact ((Fr.refl _ _).alloc _ : Fr0 _ _).at (alloc_block w _) (fun h => h)
  have hb2 : W.heap[w.heap.size + 1]? = some (.cells #[.nilFunc, .func (.func 45) #[.pointer (some ⟨p, 0, none⟩)] #[], .func (.func 46) #[.pointer (some ⟨p, 0, none⟩)] #[], .func (.func 47) #[.pointer (some ⟨p, 0, none⟩)] #[], .func (.func 48) #[.pointer (some ⟨p, 0, none⟩)] #[]] 64 (0, 0)) := by
    rw [← hW]
    have := alloc_block (w.alloc (.cells #[.int .i64 2, .int .i64 x.c, .int .i64 x.s, .int .i64 x.o] 32)) (.cells #[.nilFunc, .func (.func 45) #[.pointer (some ⟨p, 0, none⟩)] #[], .func (.func 46) #[.pointer (some ⟨p, 0, none⟩)] #[], .func (.func 47) #[.pointer (some ⟨p, 0, none⟩)] #[], .func (.func 48) #[.pointer (some ⟨p, 0, none⟩)] #[]] 64)
    simpa using this
  clear hW
  have c0 : W.cell? ⟨w.heap.size, 0, none⟩ = _ := cell_of_block hb1 0
  have c1 : W.cell? ⟨w.heap.size, 1, none⟩ = _ := cell_of_block hb1 1
  have c2 : W.cell? ⟨w.heap.size, 2, none⟩ = _ := cell_of_block hb1 2
  have c3 : W.cell? ⟨w.heap.size, 3, none⟩ = _ := cell_of_block hb1 3
  have f1 : W.cell? ⟨w.heap.size + 1, 2, none⟩ = _ := cell_of_block hb2 2
  simp only [List.getElem?_toArray, List.getElem?_cons_zero, List.getElem?_cons_succ] at c0 c1 c2 c3 f1
  have HG := HD.out W.drew hfr.drew
  clear hb1 hb2 hfr HN HD
  go_still_tail 6, (by kernel_rfl)
  change wpList _ _ _ _ _ W.drew
  cases r with
  | true =>
    go_wp2_with (go_at_call 46; refine HG.mono ?_; rintro e w2 ⟨rfl, hR⟩)
    go_ret
    exact ⟨rfl, hR⟩
  | false =>
    go_wp2_with (go_at_call 46; refine HG.mono ?_; rintro e w2 ⟨rfl, hR⟩)
    go_ret
    exact ⟨rfl, hR⟩

set_option maxRecDepth 100000 in
set_option maxHeartbeats 400000 in
theorem do_take (p b : Nat) (S : List Ob) (x : Ob) (w : World) (h : HeapIs w p b S) (r : Bool) (R : World → Prop)
    (HC : ∀ W, Fr0 w W → Calls Try.prog 47 #[.pointer (some ⟨p, 0, none⟩), .agg #[.int .i64 x.c, .int .i64 x.s, .int .i64 x.o]] W fun e w' => e = .returned (.bool r) ∧ R w') :
    Calls Try.prog 22 #[.pointer (some ⟨p, 0, none⟩), .agg #[.int .i64 3, .int .i64 x.c, .int .i64 x.s, .int .i64 x.o]] w fun e w' => e = .returned (.int .i64 (if r then 0 else 270)) ∧ R w' := by
  have HN := fun o => none_any p b S (w.alloc o) (h.fr0 (fr0_alloc w o))
  clear h
  have HD := hid HC
  clear HC
  go_enter Try.func22, Try.ntmps22
  go_wp2_with (go_at_call 44; refine (HN _).mono ?_; rintro e w' ⟨rfl, rfl⟩)
  generalize hW : ((w.alloc _).alloc _) = W
  have hfr : Fr0 w W := hW ▸ fr0_alloc2 _ _ _
  have hb1 : W.heap[w.heap.size]? = some (.cells #[.int .i64 3, .int .i64 x.c, .int .i64 x.s, .int .i64 x.o] 32 (0, 0)) := by
    rw [← hW]; exact ((Fr.refl _ _).alloc _ : Fr0 _ _).at (alloc_block w _) (fun h => h)
  have hb2 : W.heap[w.heap.size + 1]? = some (.cells #[.nilFunc, .func (.func 45) #[.pointer (some ⟨p, 0, none⟩)] #[], .func (.func 46) #[.pointer (some ⟨p, 0, none⟩)] #[], .func (.func 47) #[.pointer (some ⟨p, 0, none⟩)] #[], .func (.func 48) #[.pointer (some ⟨p, 0, none⟩)] #[]] 64 (0, 0)) := by
    rw [← hW]
    have := alloc_block (w.alloc (.cells #[.int .i64 3, .int .i64 x.c, .int .i64 x.s, .int .i64 x.o] 32)) (.cells #[.nilFunc, .func (.func 45) #[.pointer (some ⟨p, 0, none⟩)] #[], .func (.func 46) #[.pointer (some ⟨p, 0, none⟩)] #[], .func (.func 47) #[.pointer (some ⟨p, 0, none⟩)] #[], .func (.func 48) #[.pointer (some ⟨p, 0, none⟩)] #[]] 64)
    simpa using this
  clear hW
  have c0 : W.cell? ⟨w.heap.size, 0, none⟩ = _ := cell_of_block hb1 0
  have c1 : W.cell? ⟨w.heap.size, 1, none⟩ = _ := cell_of_block hb1 1
  have c2 : W.cell? ⟨w.heap.size, 2, none⟩ = _ := cell_of_block hb1 2
  have c3 : W.cell? ⟨w.heap.size, 3, none⟩ = _ := cell_of_block hb1 3
  have f1 : W.cell? ⟨w.heap.size + 1, 3, none⟩ = _ := cell_of_block hb2 3
  simp only [List.getElem?_toArray, List.getElem?_cons_zero, List.getElem?_cons_succ] at c0 c1 c2 c3 f1
  have HG := HD.out W.drew hfr.drew
  clear hb1 hb2 hfr HN HD
  go_still_tail 6, (by kernel_rfl)
  change wpList _ _ _ _ _ W.drew
  cases r with
  | true =>
    go_wp2_with (go_at_call 47; refine HG.mono ?_; rintro e w2 ⟨rfl, hR⟩)
    go_ret
    exact ⟨rfl, hR⟩
  | false =>
    go_wp2_with (go_at_call 47; refine HG.mono ?_; rintro e w2 ⟨rfl, hR⟩)
    go_ret
    exact ⟨rfl, hR⟩

set_option maxRecDepth 100000 in
set_option maxHeartbeats 400000 in
theorem do_bad (p b : Nat) (S : List Ob) (x : Ob) (w : World) (h : HeapIs w p b S) (r : Bool) (R : World → Prop)
    (HC : ∀ W, Fr0 w W → Calls Try.prog 48 #[.pointer (some ⟨p, 0, none⟩), .agg #[.int .i64 x.c, .int .i64 x.s, .int .i64 x.o]] W fun e w' => e = .returned (.bool r) ∧ R w') :
    Calls Try.prog 22 #[.pointer (some ⟨p, 0, none⟩), .agg #[.int .i64 4, .int .i64 x.c, .int .i64 x.s, .int .i64 x.o]] w fun e w' => e = .returned (.int .i64 (if r then 0 else 270)) ∧ R w' := by
  have HN := fun o => none_any p b S (w.alloc o) (h.fr0 (fr0_alloc w o))
  clear h
  have HD := hid HC
  clear HC
  go_enter Try.func22, Try.ntmps22
  go_wp2_with (go_at_call 44; refine (HN _).mono ?_; rintro e w' ⟨rfl, rfl⟩)
  generalize hW : ((w.alloc _).alloc _) = W
  have hfr : Fr0 w W := hW ▸ fr0_alloc2 _ _ _
  have hb1 : W.heap[w.heap.size]? = some (.cells #[.int .i64 4, .int .i64 x.c, .int .i64 x.s, .int .i64 x.o] 32 (0, 0)) := by
    rw [← hW]; exact ((Fr.refl _ _).alloc _ : Fr0 _ _).at (alloc_block w _) (fun h => h)
  have hb2 : W.heap[w.heap.size + 1]? = some (.cells #[.nilFunc, .func (.func 45) #[.pointer (some ⟨p, 0, none⟩)] #[], .func (.func 46) #[.pointer (some ⟨p, 0, none⟩)] #[], .func (.func 47) #[.pointer (some ⟨p, 0, none⟩)] #[], .func (.func 48) #[.pointer (some ⟨p, 0, none⟩)] #[]] 64 (0, 0)) := by
    rw [← hW]
    have := alloc_block (w.alloc (.cells #[.int .i64 4, .int .i64 x.c, .int .i64 x.s, .int .i64 x.o] 32)) (.cells #[.nilFunc, .func (.func 45) #[.pointer (some ⟨p, 0, none⟩)] #[], .func (.func 46) #[.pointer (some ⟨p, 0, none⟩)] #[], .func (.func 47) #[.pointer (some ⟨p, 0, none⟩)] #[], .func (.func 48) #[.pointer (some ⟨p, 0, none⟩)] #[]] 64)
    simpa using this
  clear hW
  have c0 : W.cell? ⟨w.heap.size, 0, none⟩ = _ := cell_of_block hb1 0
  have c1 : W.cell? ⟨w.heap.size, 1, none⟩ = _ := cell_of_block hb1 1
  have c2 : W.cell? ⟨w.heap.size, 2, none⟩ = _ := cell_of_block hb1 2
  have c3 : W.cell? ⟨w.heap.size, 3, none⟩ = _ := cell_of_block hb1 3
  have f1 : W.cell? ⟨w.heap.size + 1, 4, none⟩ = _ := cell_of_block hb2 4
  simp only [List.getElem?_toArray, List.getElem?_cons_zero, List.getElem?_cons_succ] at c0 c1 c2 c3 f1
  have HG := HD.out W.drew hfr.drew
  clear hb1 hb2 hfr HN HD
  go_still_tail 6, (by kernel_rfl)
  change wpList _ _ _ _ _ W.drew
  cases r with
  | true =>
    go_wp2_with (go_at_call 48; refine HG.mono ?_; rintro e w2 ⟨rfl, hR⟩)
    go_ret
    exact ⟨rfl, hR⟩
  | false =>
    go_wp2_with (go_at_call 48; refine HG.mono ?_; rintro e w2 ⟨rfl, hR⟩)
    go_ret
    exact ⟨rfl, hR⟩

end Go.Proofs.Ytjaabbjobnfmmaa

namespace Go.Proofs.Ytjaabbjobnfmmaa
open Go.RowKit

set_option maxRecDepth 100000 in
set_option maxHeartbeats 400000 in
theorem do_arg1 (p b : Nat) (S : List Ob) (x : Ob) (k : Int) (w : World) (h : HeapIs w p b S) (hk : k < 1 ∨ 4 < k) :
    Calls Try.prog 22 #[.pointer (some ⟨p, 0, none⟩), .agg #[.int .i64 k, .int .i64 x.c, .int .i64 x.s, .int .i64 x.o]] w fun e w' => e = .returned (.int .i64 2) ∧ Fr0 w w' := by
  have HN := fun o => none_any p b S (w.alloc o) (h.fr0 (fr0_alloc w o))
  clear h
  rcases hk with hk | hk
  · go_enter Try.func22, Try.ntmps22
    go_wp2_with (go_at_call 44; refine (HN _).mono ?_; rintro e w' ⟨rfl, rfl⟩)
    go_ret
    exact ⟨rfl, fr0_alloc _ _⟩
  · have hk2 : ¬ k < 1 := by omega
    go_enter Try.func22, Try.ntmps22
    go_wp2_with (go_at_call 44; refine (HN _).mono ?_; rintro e w' ⟨rfl, rfl⟩)
    go_ret
    exact ⟨rfl, fr0_alloc _ _⟩

set_option maxRecDepth 100000 in
set_option maxHeartbeats 400000 in
theorem do_arg2 (p b : Nat) (S : List Ob) (x : Ob) (w : World) (h : HeapIs w p b S) (hz : x ≠ zob) :
    Calls Try.prog 22 #[.pointer (some ⟨p, 0, none⟩), .agg #[.int .i64 2, .int .i64 x.c, .int .i64 x.s, .int .i64 x.o]] w fun e w' => e = .returned (.int .i64 2) ∧ Fr0 w w' := by
  have HN := fun o => none_any p b S (w.alloc o) (h.fr0 (fr0_alloc w o))
  clear h
  have hne := fun W => neq30 x zob W
  rw [decide_eq_false hz] at hne
  simp only [Ob.val, zob] at hne
  have hg := guard30
  clear hz
  go_enter Try.func22, Try.ntmps22
  go_wp2_with (go_at_call 44; refine (HN _).mono ?_; rintro e w' ⟨rfl, rfl⟩)
  go_ret
  exact ⟨rfl, fr0_alloc _ _⟩

theorem do_any (p b : Nat) (S : List Ob) (x : Ob) (hx : x.wf) (k : Int) (w : World) (h : HeapIs w p b S) :
    Calls Try.prog 22 #[.pointer (some ⟨p, 0, none⟩), .agg #[.int .i64 k, .int .i64 x.c, .int .i64 x.s, .int .i64 x.o]] w fun e w' =>
      e = .returned (.int .i64 (hdo S k x).1) ∧ Fr (· = b) w w' ∧ HeapIs w' p b (hdo S k x).2 := by
  by_cases h1 : k < 1 ∨ 4 < k
  · have e1 : hdo S k x = (2, S) := by unfold hdo; rw [if_pos (by rcases h1 with h1 | h1 <;> simp [h1])]
    rw [e1]
    exact (do_arg1 p b S x k w h h1).mono fun e w' ⟨he, hf⟩ => ⟨he, hf.mono (fun _ _ h => h.elim), h.fr0 hf⟩
  · by_cases h2 : k = 2
    · subst h2
      by_cases hz : x = zob
      · have e1 : hdo S 2 x = (0, S) := by unfold hdo; rw [if_neg (by simp [hz])]; rfl
        rw [e1]
        exact (do_none p b S x hz w h true (fun w' => Fr (· = b) w w' ∧ HeapIs w' p b S) (fun W hW => (nothing_any _ x W).mono fun e w' ⟨he, hf⟩ =>
          ⟨he, (hW.trans0 hf).mono (fun _ _ h => h.elim), h.fr0 (hW.trans0 hf)⟩)).mono fun e w' h => h
      · have e1 : hdo S 2 x = (2, S) := by unfold hdo; rw [if_pos (by simp [hz])]
        rw [e1]
        exact (do_arg2 p b S x w h hz).mono fun e w' ⟨he, hf⟩ => ⟨he, hf.mono (fun _ _ h => h.elim), h.fr0 hf⟩
    · have hk : ¬ (k < 1 ∨ 4 < k ∨ (k = 2 ∧ x ≠ zob)) := by omega
      have e0 : hdo S k x = if k = 1 then (if x ∈ S then 270 else 0, ins S x) else if k = 2 then (0, S) else if k = 3 then (if x ∈ S then 0 else 270, S.erase x) else (if x ∈ S then 270 else 0, S) := by
        unfold hdo; rw [if_neg hk]
      have hfr : ∀ {W w'}, Fr0 w W → Fr (· = b) W w' → Fr (· = b) w w' := fun hW hf => (hW.mono (fun _ _ h => h.elim)).trans hf (fun _ _ h => h)
      rcases (by omega : k = 1 ∨ k = 3 ∨ k = 4) with rfl | rfl | rfl
      · have e1 : hdo S 1 x = (if (!decide (x ∈ S)) = true then 0 else 270, ins S x) := by rw [e0]; by_cases hm : x ∈ S <;> simp [hm]
        rw [e1]
        exact do_give p b S x w h (!decide (x ∈ S)) (fun w' => Fr (· = b) w w' ∧ HeapIs w' p b (ins S x)) (fun W hW => (give_any p b S x hx W (h.fr0 hW)).mono fun e w' ⟨he, hf, hh⟩ => ⟨he, hfr hW hf, hh⟩)
      · have e1 : hdo S 3 x = (if (decide (x ∈ S)) = true then 0 else 270, S.erase x) := by rw [e0]; by_cases hm : x ∈ S <;> simp [hm]
        rw [e1]
        exact do_take p b S x w h (decide (x ∈ S)) (fun w' => Fr (· = b) w w' ∧ HeapIs w' p b (S.erase x)) (fun W hW => (take_any p b S x hx W (h.fr0 hW)).mono fun e w' ⟨he, hf, hh⟩ => ⟨he, hfr hW hf, hh⟩)
      · have e1 : hdo S 4 x = (if (!decide (x ∈ S)) = true then 0 else 270, S) := by rw [e0]; by_cases hm : x ∈ S <;> simp [hm]
        rw [e1]
        exact do_bad p b S x w h (!decide (x ∈ S)) (fun w' => Fr (· = b) w w' ∧ HeapIs w' p b S) (fun W hW => (bad_any p b S x hx W (h.fr0 hW)).mono fun e w' ⟨he, hf⟩ =>
          ⟨he, (hW.trans0 hf).mono (fun _ _ h => h.elim), h.fr0 (hW.trans0 hf)⟩)

end Go.Proofs.Ytjaabbjobnfmmaa

namespace Go.Proofs.Ytjaabbjobnfmmaa
open Go.RowKit

/-- A deed: its kind, its object. -/
structure Dd where
  k : Int
  x : Ob
deriving DecidableEq

def Dd.wf (d : Dd) : Prop := (Lit.int .i64 d.k).wf = true ∧ d.x.wf

/-- A slice of deeds: where there is an element the address is ⟨b, off⟩; the cells hold the deeds l. -/
structure DeedsIn (w : World) (a : Option Addr) (b off : Nat) (l : List Dd) : Prop where
  addr : 0 < l.length → a = some ⟨b, off, none⟩
  cells : ∀ i (h : i < l.length), w.cell? ⟨b, off + i * 4, none⟩ = some (.int .i64 l[i].k) ∧ w.cell? ⟨b, off + i * 4 + 1, none⟩ = some (.int .i64 l[i].x.c) ∧
    w.cell? ⟨b, off + i * 4 + 2, none⟩ = some (.int .i64 l[i].x.s) ∧ w.cell? ⟨b, off + i * 4 + 3, none⟩ = some (.int .i64 l[i].x.o)
  lt : 0 < l.length → b < w.heap.size
  wf : ∀ d ∈ l, d.wf
  small : l.length ≤ 4398046511104

theorem DeedsIn.fr {X : Nat → Prop} {w w' : World} {a : Option Addr} {b off : Nat} {l : List Dd} (h : DeedsIn w a b off l) (hf : Fr X w w') (hb : ¬ X b) : DeedsIn w' a b off l :=
  ⟨h.addr, fun i hi => by
    have hl := h.lt (by omega)
    obtain ⟨h0, h1, h2, h3⟩ := h.cells i hi
    exact ⟨(hf.cell (p := ⟨b, _, none⟩) hl hb).trans h0, (hf.cell (p := ⟨b, _, none⟩) hl hb).trans h1, (hf.cell (p := ⟨b, _, none⟩) hl hb).trans h2, (hf.cell (p := ⟨b, _, none⟩) hl hb).trans h3⟩,
    fun hl => hf.lt (h.lt hl), h.wf, h.small⟩

theorem elem22 : Try.prog.elem 22 = 32 := by simp [Program.elem, Try.underlying22]
theorem DeedsIn.index {w : World} {a : Option Addr} {b off : Nat} {l : List Dd} (h : DeedsIn w a b off l) (cap : Nat) (k : Nat) (hk : k < l.length) (W : World) :
    (Instr.indexAt 22 (.slice a l.length cap) (.int .i64 k)).run Try.prog W = .ok (.pointer (some ⟨b, off + k * 4, none⟩)) W := by
  have hs : (sizeOf 32).run Try.prog W = .ok 4 W := by go_simp
  rw [h.addr (by omega), run_indexAt_slice W 22 ⟨b, off, none⟩ l.length cap .i64 k (by rw [elem22]; exact Try.underlying22), if_pos ⟨by omega, by omega⟩, elem22, hs]
  simp only [Result.andThen_ok, Int.toNat_natCast, Addr.add]
  by_cases h0 : k = 0
  · subst h0; simp
  · rw [if_neg (by omega)]

/-- What Play answers from deed i on, S being out. -/
def hplay (S : List Ob) : Nat → List Dd → Int × Int
  | _, [] => (0, 0)
  | i, d :: l => if (hdo S d.k d.x).1 ≠ 0 then (i, (hdo S d.k d.x).1) else hplay (hdo S d.k d.x).2 (i + 1) l

theorem hplay_stop (S : List Ob) (l : List Dd) (k : Nat) (hk : k < l.length) (h : (hdo S l[k].k l[k].x).1 ≠ 0) : hplay S k (l.drop k) = ((k : Int), (hdo S l[k].k l[k].x).1) := by
  rw [List.drop_eq_getElem_cons hk, hplay, if_pos h]
theorem hplay_go (S : List Ob) (l : List Dd) (k : Nat) (hk : k < l.length) (h : (hdo S l[k].k l[k].x).1 = 0) : hplay S k (l.drop k) = hplay (hdo S l[k].k l[k].x).2 (k + 1) (l.drop (k + 1)) := by
  rw [List.drop_eq_getElem_cons hk, hplay, if_neg (by simp [h])]

set_option maxHeartbeats 400000 in
theorem play_any (a : Option Addr) (b off cap : Nat) (l : List Dd) (w : World) (h : DeedsIn w a b off l) :
    Calls Try.prog 16 #[.slice a l.length cap] w fun e w' => e = .returned (.tuple #[.int .i64 (hplay [] 0 l).1, .int .i64 (hplay [] 0 l).2]) ∧ Fr0 w w' := by
  have hsm := h.small
  have HD := hid h
  clear h
  go_enter Try.func16, Try.ntmps16
  go_wp2_with (go_at_call 21; refine (new_any _).mono ?_; rintro e w1 ⟨rfl, hf1, hh1⟩)
  have HE := hid (show (hplay [] 0 l) = hplay [] 0 (l.drop 0) by simp)
  go_loopw [11] (fun i wr => ∃ (k : Nat) (S : List Ob), k ≤ l.length ∧ i = .int .i64 k ∧ HeapIs wr (w.heap.size + 1) w.heap.size S ∧ Fr0 w wr ∧ Hid (hplay [] 0 l = hplay S k (l.drop k)))
    (fun i _ => l.length - (intOf i).toNat)
  case atStart => exact ⟨0, [], Nat.zero_le _, rfl, hh1, hf1, HE⟩
  case round =>
    obtain ⟨k, S, hk, rfl, hH, hF, hE⟩ := hrel
    by_cases hlt : k < l.length
    · have hdi := HD.out.fr hF (fun h => h)
      have hix := hdi.index cap k hlt
      obtain ⟨c0, c1, c2, c3⟩ := hdi.cells k hlt
      have hDo := do_any (w.heap.size + 1) w.heap.size S l[k].x (hdi.wf _ (List.getElem_mem hlt)).2 l[k].k (wr.alloc (.cells #[.int .i64 l[k].k, .int .i64 l[k].x.c, .int .i64 l[k].x.s, .int .i64 l[k].x.o] 32)) (hH.fr0 (fr0_alloc _ _))
      have HG := hid hdi
      have HF := hid hF
      have HS := hid hH
      by_cases hc : (hdo S l[k].k l[k].x).1 = 0
      · rw [hc] at hDo
        have HC := hid hc
        clear hdi hF hH hc
        go_wp2_with (go_at_call 22; refine hDo.mono ?_; rintro e w2 ⟨rfl, hf2, hh2⟩)
        go_roundw
        case rel => exact ⟨k + 1, _, by omega, by go_num, hh2, (HF.out.alloc _).trans hf2 (by intro i hi e; omega), hid (hE.out.trans (hplay_go S l k hlt HC.out))⟩
        case measure => simp [intOf]; omega
      · have HC := hid (hplay_stop S l k hlt hc)
        have hc' : ((hdo S l[k].k l[k].x).1 != 0) = true := by simpa using hc
        generalize (hdo S l[k].k l[k].x).1 = code at hDo hc' HC
        clear hdi hF hH hc
        go_wp2_with (go_at_call 22; refine hDo.mono ?_; rintro e w2 ⟨rfl, hf2, hh2⟩)
        go_ret2
        refine ⟨by rw [hE.out, HC.out]; rfl, (HF.out.alloc _).trans hf2 (by intro i hi e; omega)⟩
    · have hk : k = l.length := by omega
      subst hk
      have HF := hid hF
      clear hF hH
      go_wp2
      go_ret2
      exact ⟨by rw [hE.out]; simp [hplay], HF.out⟩
end Go.Proofs.Ytjaabbjobnfmmaa

/-
  The program's heap: what its methods none, Has, give, nothing, take, bad do, told by the list of the objects that are out.
-/
import Derived.Test.YtjaabbjobnfmmaaMap
import Derived.Test.YtjaabbjobnfmmaaFrame
import Derived.Test.YtjaabbjobnfmmaaRows
import Derived.WalkKit
import Derived.WalkSpells
import Derived.WalkLawsBesides
import Derived.BigRegion
import Derived.DeepKeys4
namespace Go.Proofs.Ytjaabbjobnfmmaa
open Go.RowKit
open Go.Maps (Keyed)

/-- An object: its cache, its slab, its number. -/
structure Ob where
  c : Int
  s : Int
  o : Int
deriving DecidableEq

def Ob.val (x : Ob) : Value := .agg #[.int .i64 x.c, .int .i64 x.s, .int .i64 x.o]
def Ob.wf (x : Ob) : Prop := (Lit.int .i64 x.c).wf = true ∧ (Lit.int .i64 x.s).wf = true ∧ (Lit.int .i64 x.o).wf = true

theorem laidOut : laidOutB Try.prog = true := by kernel_rfl
theorem row30 : (30 : TypeId) < Try.prog.types.size := of_decide_eq_true (by kernel_rfl)
theorem deep30 : Try.prog.keyTypeAt 2 30 = true := by kernel_rfl
theorem law30 : Keyed Try.prog 30 := Keyed.of_law (deep_law_laid laidOut (m := 2) (by omega) row30 deep30 (by rw [Try.underlying30]))
theorem keyType30 : Try.prog.keyType 30 = true := by kernel_rfl
theorem cells30 : Try.prog.cellsOf 30 = 3 := by kernel_rfl
theorem cells3 : Try.prog.cellsOf 3 = 1 := by kernel_rfl
theorem keyOf30 (x : Ob) (h : x.wf) : ∃ l, keyOf Try.prog 30 x.val = some l :=
  keyOf_struct3 Try.underlying30 (by decide) (by decide) (by decide) Try.underlying3 keyType30 cells30 cells3 (Nat.lt_of_le_of_lt (Nat.zero_le _) row30) h.1 h.2.1 h.2.2

/-- The heap behind p: its map lies in block b and holds the objects S, in some order. -/
def SetIs (w : World) (b : Nat) (S : List Ob) : Prop := MapIs Try.prog 30 w b (S.map fun x => (x.val, .agg #[])) ∧ ∀ x ∈ S, x.wf
def HeapIs (w : World) (p b : Nat) (S : List Ob) : Prop := w.heap[p]? = some (.cells #[.map (some b)] 44 (0, 0)) ∧ SetIs w b S ∧ p ≠ b

theorem Ob.val_inj {x y : Ob} (h : x.val = y.val) : x = y := by
  cases x; cases y; simp [Ob.val] at h; simp [h]

theorem zero69 (w : World) : (zeroValue 69).run Try.prog w = .ok (.agg #[]) w := by kernel_rfl

theorem SetIs.look {w : World} {b : Nat} {S : List Ob} (h : SetIs w b S) {x : Ob} (hx : x.wf) :
    (Instr.lookup 42 (.map (some b)) x.val true).run Try.prog w = .ok (.tuple #[.agg #[], .bool (decide (x ∈ S))]) w := by
  obtain ⟨kl, hkey⟩ := keyOf30 x hx
  rcases h.1.look true law30 Try.underlying42 (zero69 w) hkey with ⟨h1, h2⟩ | ⟨v, hv, h1⟩
  · have : x ∉ S := fun hm => h2 (x.val, .agg #[]) (List.mem_map.2 ⟨x, hm, rfl⟩) rfl
    simpa [this] using h1
  · obtain ⟨y, hy, e⟩ := List.mem_map.1 hv
    have e1 := Ob.val_inj (congrArg Prod.fst e)
    have e2 := congrArg Prod.snd e
    subst e1
    simp only at e2
    subst e2
    simpa [hy] using h1

theorem SetIs.nodup {w : World} {b : Nat} {S : List Ob} (h : SetIs w b S) : S.Nodup := by
  have := h.1.apart
  rw [List.pairwise_map] at this
  exact this.imp (fun {x y} hne e => hne (by rw [e]))

/-- S with x. -/
def ins (S : List Ob) (x : Ob) : List Ob := if x ∈ S then S else S ++ [x]

theorem SetIs.store {w : World} {b : Nat} {S : List Ob} (h : SetIs w b S) {x : Ob} (hx : x.wf) :
    ∃ w', (Instr.mapUpdate 42 (.map (some b)) x.val (.agg #[])).run Try.prog w = .ok () w' ∧ SetIs w' b (ins S x) ∧ w.mapTurned w' b := by
  obtain ⟨kl, hkey⟩ := keyOf30 x hx
  unfold ins
  by_cases hm : x ∈ S
  · rw [if_pos hm]
    obtain ⟨i, hi⟩ := List.mem_iff_getElem?.1 hm
    have hi' : (S.map fun x => (x.val, Value.agg #[]))[i]? = some (x.val, .agg #[]) := by simp [hi]
    obtain ⟨w', h1, h2, h3⟩ := h.1.store_old law30 Try.underlying42 hkey hi' (.agg #[])
    refine ⟨w', h1, ⟨?_, h.2⟩, h3⟩
    obtain ⟨hl, he⟩ := List.getElem?_eq_some_iff.1 hi'
    have hs := List.set_getElem_self hl
    rw [he] at hs
    rwa [hs] at h2
  · rw [if_neg hm]
    obtain ⟨w', h1, h2, h3⟩ := h.1.store_new law30 Try.underlying42 hkey (fun p hp e => by
      obtain ⟨y, hy, rfl⟩ := List.mem_map.1 hp
      exact hm (Ob.val_inj e ▸ hy)) (.agg #[])
    refine ⟨w', h1, ⟨by simpa using h2, ?_⟩, h3⟩
    intro y hy
    rcases List.mem_append.1 hy with h' | h'
    · exact h.2 y h'
    · rw [List.mem_singleton.1 h']; exact hx

theorem SetIs.drop {w : World} {b : Nat} {S : List Ob} (h : SetIs w b S) {x : Ob} (hx : x.wf) (ty : TypeId) :
    ∃ w', (Builtin.delete_ #[42, 30] ty #[.map (some b), x.val]).run Try.prog w = .ok (.tuple #[]) w' ∧ SetIs w' b (S.erase x) ∧ w.mapTurned w' b := by
  obtain ⟨kl, hkey⟩ := keyOf30 x hx
  by_cases hm : x ∈ S
  · obtain ⟨i, hi⟩ := List.mem_iff_getElem?.1 hm
    have hi' : (S.map fun x => (x.val, Value.agg #[]))[i]? = some (x.val, .agg #[]) := by simp [hi]
    obtain ⟨w', h1, h2, h3⟩ := h.1.drop_some law30 Try.underlying42 hkey hi' ty
    have he : S.erase x = S.eraseIdx i := by
      obtain ⟨hil, hie⟩ := List.getElem?_eq_some_iff.1 hi
      exact List.erase_eq_eraseIdx_of_idxOf (by rw [← hie]; exact h.nodup.idxOf_getElem i hil)
    refine ⟨w', h1, ⟨?_, fun y hy => h.2 y (List.mem_of_mem_erase hy)⟩, h3⟩
    rw [he]
    rwa [← ChangeMaps.map_eraseIdx] at h2
  · rw [List.erase_of_not_mem hm]
    obtain ⟨w', h1, h2, h3⟩ := h.1.drop_none law30 Try.underlying42 hkey (fun p hp e => by
      obtain ⟨y, hy, rfl⟩ := List.mem_map.1 hp
      exact hm (Ob.val_inj e ▸ hy)) ty
    exact ⟨w', h1, ⟨h2, h.2⟩, h3⟩

theorem SetIs.fr {X : Nat → Prop} {w w' : World} {b : Nat} {S : List Ob} (h : SetIs w b S) (hf : Fr X w w') (hb : ¬ X b) : SetIs w' b S :=
  ⟨h.1.block (hf.block b h.1.lt hb), h.2⟩
theorem HeapIs.fr {X : Nat → Prop} {w w' : World} {p b : Nat} {S : List Ob} (h : HeapIs w p b S) (hf : Fr X w w') (hp : ¬ X p) (hb : ¬ X b) : HeapIs w' p b S :=
  ⟨hf.at h.1 hp, h.2.1.fr hf hb, h.2.2⟩
theorem HeapIs.fr0 {w w' : World} {p b : Nat} {S : List Ob} (h : HeapIs w p b S) (hf : Fr0 w w') : HeapIs w' p b S := h.fr hf (fun h => h) (fun h => h)

theorem HeapIs.cell {w : World} {p b : Nat} {S : List Ob} (h : HeapIs w p b S) : w.cell? ⟨p, 0, none⟩ = some (.map (some b)) := by
  simp [World.cell?, h.1]

theorem fr0_alloc (w : World) (o : Obj) : Fr0 w (w.alloc o) := (Fr.refl _ w).alloc o
/-- A box of three cells, made ahead of a call that has left all elder blocks as they were. -/
theorem box3 {w w1 : World} {a b c : Value} {t : TypeId} (h : Fr0 (w.alloc (.cells #[a, b, c] t)) w1) :
    w1.cell? ⟨w.heap.size, 0, none⟩ = some a ∧ w1.cell? ⟨w.heap.size, 1, none⟩ = some b ∧ w1.cell? ⟨w.heap.size, 2, none⟩ = some c := by
  have hb := h.at (alloc_block w _) (fun h => h)
  exact ⟨cell_of_block hb 0, cell_of_block hb 1, cell_of_block hb 2⟩
theorem fr0_alloc2 (w : World) (o o2 : Obj) : Fr0 w ((w.alloc o).alloc o2) := ((Fr.refl _ w).alloc o).alloc o2

set_option maxHeartbeats 400000 in
theorem none_any (p b : Nat) (S : List Ob) (w : World) (h : HeapIs w p b S) :
    Calls Try.prog 44 #[.pointer (some ⟨p, 0, none⟩)] w fun e w' => e = .returned (.bool false) ∧ w = w' := by
  have hc := h.cell
  clear h
  have he := fun (w : World) (r : Option Nat) => run_eql_map_nil (P := Try.prog) w 42 30 69 r Try.underlying42
  go_enter Try.func44, Try.ntmps44
  go_wp2
  go_ret
  exact ⟨rfl, rfl⟩

set_option maxHeartbeats 400000 in
theorem has_any (p b : Nat) (S : List Ob) (x : Ob) (hx : x.wf) (w : World) (h : HeapIs w p b S) :
    Calls Try.prog 24 #[.pointer (some ⟨p, 0, none⟩), .agg #[.int .i64 x.c, .int .i64 x.s, .int .i64 x.o]] w fun e w' => e = .returned (.bool (decide (x ∈ S))) ∧ Fr0 w w' := by
  have hl1 : ∀ o, (Instr.lookup 42 (.map (some b)) (.agg #[.int .i64 x.c, .int .i64 x.s, .int .i64 x.o]) true).run Try.prog (w.alloc o).drew = .ok (.tuple #[.agg #[], .bool (decide (x ∈ S))]) (w.alloc o).drew := fun o => SetIs.look (w := (w.alloc o).drew) (h.fr0 (fr0_alloc w o)).2.1 hx
  have hl2 : ∀ o o2, (Instr.lookup 42 (.map (some b)) (.agg #[.int .i64 x.c, .int .i64 x.s, .int .i64 x.o]) true).run Try.prog ((w.alloc o).alloc o2).drew = .ok (.tuple #[.agg #[], .bool (decide (x ∈ S))]) ((w.alloc o).alloc o2).drew := fun o o2 => SetIs.look (w := ((w.alloc o).alloc o2).drew) (h.fr0 (fr0_alloc2 w o o2)).2.1 hx
  have hcl : ∀ o, (w.alloc o).cell? ⟨p, 0, none⟩ = some (.map (some b)) := fun o => (h.fr0 (fr0_alloc w o)).cell
  have hcl2 : ∀ o o2, ((w.alloc o).alloc o2).cell? ⟨p, 0, none⟩ = some (.map (some b)) := fun o o2 => (h.fr0 (fr0_alloc2 w o o2)).cell
  have HN := fun o => none_any p b S (w.alloc o) (h.fr0 (fr0_alloc w o))
  clear h
  generalize decide (x ∈ S) = r at hl1 hl2
  go_enter Try.func24, Try.ntmps24
  go_wp2_with (go_at_call 44; refine (HN _).mono ?_; rintro e w' ⟨rfl, rfl⟩)
  go_region
  go_wp2
  go_ret
  exact ⟨rfl, (fr0_alloc2 _ _ _).drew⟩

set_option maxHeartbeats 400000 in
theorem bad_any (p b : Nat) (S : List Ob) (x : Ob) (hx : x.wf) (w : World) (h : HeapIs w p b S) :
    Calls Try.prog 48 #[.pointer (some ⟨p, 0, none⟩), .agg #[.int .i64 x.c, .int .i64 x.s, .int .i64 x.o]] w fun e w' => e = .returned (.bool (!decide (x ∈ S))) ∧ Fr0 w w' := by
  have HN := fun o => has_any p b S x hx (w.alloc o) (h.fr0 (fr0_alloc w o))
  clear h
  generalize decide (x ∈ S) = r at HN
  go_enter Try.func48, Try.ntmps48
  go_wp2_with (go_at_call 24; refine (HN _).mono ?_; rintro e w' ⟨rfl, hw'⟩)
  go_ret
  exact ⟨rfl, (fr0_alloc _ _).trans0 hw'⟩

set_option maxHeartbeats 400000 in
theorem nothing_any (q : Value) (x : Ob) (w : World) :
    Calls Try.prog 46 #[q, .agg #[.int .i64 x.c, .int .i64 x.s, .int .i64 x.o]] w fun e w' => e = .returned (.bool true) ∧ Fr0 w w' := by
  go_enter Try.func46, Try.ntmps46
  go_wp2
  go_ret
  exact ⟨rfl, fr0_alloc _ _⟩

set_option maxHeartbeats 400000 in
theorem give_any (p b : Nat) (S : List Ob) (x : Ob) (hx : x.wf) (w : World) (h : HeapIs w p b S) :
    Calls Try.prog 45 #[.pointer (some ⟨p, 0, none⟩), .agg #[.int .i64 x.c, .int .i64 x.s, .int .i64 x.o]] w fun e w' => e = .returned (.bool (!decide (x ∈ S))) ∧ Fr (· = b) w w' ∧ HeapIs w' p b (ins S x) := by
  have HN := fun o => has_any p b S x hx (w.alloc o) (h.fr0 (fr0_alloc w o))
  have HH := hid h
  clear h
  go_enter Try.func45, Try.ntmps45
  go_wp2_with (go_at_call 24; refine (HN _).mono ?_; rintro e w1 ⟨rfl, hw1⟩)
  have hH := HH.out.fr0 ((fr0_alloc w _).trans0 hw1)
  obtain ⟨b0, b1, b2⟩ := box3 hw1
  obtain ⟨w2, hrun, hset, hturn⟩ := SetIs.store (w := w1.drew) hH.2.1 hx
  have hcell := hH.cell
  have HX : Hid (Fr (· = b) w w2 ∧ HeapIs w2 p b (ins S x)) := hid ⟨((fr0_alloc w _).trans0 hw1).drew.mono (fun _ _ h => h.elim) |>.turned hturn (fun _ => rfl), (Fr.refl (· = b) w1).drew.turned hturn (fun _ => rfl) |>.at hH.1 hH.2.2, hset, hH.2.2⟩
  clear hset hturn HH hw1 hH HN
  simp only [Ob.val] at hrun
  go_region
  go_wp2
  go_ret
  exact ⟨rfl, HX.out⟩

set_option maxHeartbeats 400000 in
theorem take_any (p b : Nat) (S : List Ob) (x : Ob) (hx : x.wf) (w : World) (h : HeapIs w p b S) :
    Calls Try.prog 47 #[.pointer (some ⟨p, 0, none⟩), .agg #[.int .i64 x.c, .int .i64 x.s, .int .i64 x.o]] w fun e w' => e = .returned (.bool (decide (x ∈ S))) ∧ Fr (· = b) w w' ∧ HeapIs w' p b (S.erase x) := by
  have HN := fun o => has_any p b S x hx (w.alloc o) (h.fr0 (fr0_alloc w o))
  have HH := hid h
  clear h
  go_enter Try.func47, Try.ntmps47
  go_wp2_with (go_at_call 24; refine (HN _).mono ?_; rintro e w1 ⟨rfl, hw1⟩)
  have hH := HH.out.fr0 ((fr0_alloc w _).trans0 hw1)
  obtain ⟨b0, b1, b2⟩ := box3 hw1
  obtain ⟨w2, hrun, hset, hturn⟩ := SetIs.drop (w := w1.drew) hH.2.1 hx 0
  have hcell := hH.cell
  have HX : Hid (Fr (· = b) w w2 ∧ HeapIs w2 p b (S.erase x)) := hid ⟨((fr0_alloc w _).trans0 hw1).drew.mono (fun _ _ h => h.elim) |>.turned hturn (fun _ => rfl), (Fr.refl (· = b) w1).drew.turned hturn (fun _ => rfl) |>.at hH.1 hH.2.2, hset, hH.2.2⟩
  clear hset hturn HH hw1 hH HN
  simp only [Ob.val] at hrun
  go_region
  go_wp2
  go_ret
  exact ⟨rfl, HX.out⟩

end Go.Proofs.Ytjaabbjobnfmmaa

/-
  A range over the program's map of objects: the iterator's steps, told by the list of the objects that have come. Plain laws on a run.
-/
import Derived.Test.YtjaabbjobnfmmaaGHeap
import Derived.Maps.RangeWalk
namespace Go.Proofs.Ytjaabbjobnfmmaa
open Go.RowKit
open Go.ChangeMaps Go.MapKept

/-- The object that a value spells. -/
def unval : Value → Ob
  | .agg #[.int _ a, .int _ b, .int _ c] => ⟨a, b, c⟩
  | _ => ⟨0, 0, 0⟩
theorem unval_val (x : Ob) : unval x.val = x := rfl

/-- A range over the map in block b under way, its iterator in block r: 'done' have come; S are all. -/
def Walks (w : World) (b r : Nat) (S done : List Ob) : Prop :=
  ∃ es clock since seen c0, w.heap[b]? = some (.map es clock) ∧ Stamped es clock ∧ (∀ x ∈ es.toList, x.born < since) ∧ since ≤ c0 ∧ since ≤ clock ∧
    w.heap[r]? = some (.mapIter (some b) since seen c0) ∧ (∀ e ∈ es.toList, ∃ x : Ob, x.wf ∧ e.key = x.val ∧ e.val = .agg #[]) ∧
    (done ++ (leftOf es seen).toList.map (fun e => unval e.key)).Perm S

theorem Walks.start {w : World} {b : Nat} {S : List Ob} (h : SetIs w b S) :
    ∃ w', (∀ ty, (Instr.range 42 (.map (some b))).run Try.prog w = .ok (.pointer (some ⟨w.heap.size, 0, none⟩)) w' ∧ ty = ty + 0) ∧ Walks w' b w.heap.size S [] ∧ Fr0 w w' ∧ w'.heap.size = w.heap.size + 1 := by
  obtain ⟨⟨es, clock, hb, hkv, hst, _⟩, hwf⟩ := h
  have hbl : b < w.heap.size := lt_of_block hb
  refine ⟨_, fun _ => ⟨run_range_map w 42 30 69 b es clock Try.underlying42 hb, rfl⟩, ⟨es, clock, clock, #[], clock, ((MapKept.heap_alloc w _).2 b hbl).trans hb, hst, ((stamped_iff es clock).1 hst).1, Nat.le_refl _, Nat.le_refl _, alloc_block w _, fun e he => ?_, ?_⟩, fr0_alloc _ _, by simp⟩
  · have hm : (e.key, e.val) ∈ S.map fun x => (x.val, Value.agg #[]) := by rw [← hkv]; exact List.mem_map.2 ⟨e, he, rfl⟩
    obtain ⟨x, hx, hxe⟩ := List.mem_map.1 hm
    exact ⟨x, hwf x hx, (congrArg Prod.fst hxe).symm, (congrArg Prod.snd hxe).symm⟩
  · have e1 : (leftOf es #[]).toList = es.toList := by simp [leftOf]
    have e2 : es.toList.map (fun e => unval e.key) = S := by
      have := congrArg (List.map (fun p : Value × Value => unval p.1)) hkv
      simpa [unval_val, Function.comp_def] using this
    rw [e1, e2]
    exact List.Perm.refl _

theorem perm_filter_ne {α : Type} {f : α → Nat} {e : α} : ∀ {L : List α}, (L.map f).Nodup → e ∈ L → L.Perm (e :: L.filter (fun x => f x != f e))
  | [], _, he => by simp at he
  | a :: L, hn, he => by
    rw [List.map_cons, List.nodup_cons] at hn
    rcases List.mem_cons.1 he with rfl | he
    · have : L.filter (fun x => f x != f e) = L := by
        rw [List.filter_eq_self]
        intro x hx
        have : f x ≠ f e := fun h => hn.1 (h ▸ List.mem_map.2 ⟨x, hx, rfl⟩)
        simpa using this
      rw [List.filter_cons]
      simp [this]
    · have hne : f a ≠ f e := fun h => hn.1 (h ▸ List.mem_map.2 ⟨e, he, rfl⟩)
      rw [List.filter_cons, if_pos (by simpa using hne)]
      exact ((perm_filter_ne hn.2 he).cons a).trans (List.Perm.swap _ _ _)

theorem Walks.next {w : World} {b r : Nat} {S done : List Ob} (h : Walks w b r S done) (ty : TypeId) :
    (done.Perm S ∧ (Instr.next (.pointer (some ⟨r, 0, none⟩)) false ty).run Try.prog w = .ok (.tuple #[.bool false]) w) ∨
    ∃ x w', x.wf ∧ (Instr.next (.pointer (some ⟨r, 0, none⟩)) false ty).run Try.prog w = .ok (.tuple #[.bool true, x.val, .agg #[]]) w' ∧
      (Instr.entry (.pointer (some ⟨r, 0, none⟩))).run Try.prog w' = .ok (.tuple #[x.val, .agg #[]]) w' ∧ Walks w' b r S (done ++ [x]) ∧ Fr (· = r) w w' ∧ w'.rangeLeft b r < w.rangeLeft b r := by
  obtain ⟨es, clock, since, seen, c0, hb, hst, hold, hsc, hsk, hr, hkv, hp⟩ := h
  have hne : r ≠ b := fun e => by rw [e, hb] at hr; cases hr
  rcases run_next_at (P := Try.prog) w ty r b since c0 seen es clock hr hb hold hsc with ⟨h0, hrun⟩ | ⟨e, he, w1, hal, hrun⟩
  · left
    refine ⟨?_, hrun⟩
    have : (leftOf es seen).toList = [] := by
      apply List.eq_nil_of_length_eq_zero
      simpa using h0
    simpa [this] using hp
  · right
    obtain ⟨hem, hes⟩ := mem_left he
    obtain ⟨x, hxw, hxk, hxv⟩ := hkv e hem
    have hr1 : w1.heap[r]? = some (.mapIter (some b) since seen c0) := by rcases hal with rfl | rfl <;> exact hr
    have hb1 : w1.heap[b]? = some (.map es clock) := by rcases hal with rfl | rfl <;> exact hb
    have hset := heap_set (o' := .mapIter (some b) since (seen.push e.born) clock) hr1
    have hb' : (setBlock w1 r (.mapIter (some b) since (seen.push e.born) clock)).heap[b]? = some (.map es clock) := (hset.2 b (fun e1 => hne e1.symm)).trans hb1
    have hnd := ((stamped_iff es clock).1 hst).2.1
    refine ⟨x, _, hxw, by rw [← hxk, ← hxv]; exact hrun, by rw [← hxk, ← hxv]; exact run_entry_at _ r b since seen es clock e hset.1 hb' hem hnd,
      ⟨es, clock, since, seen.push e.born, clock, hb', hst, hold, hsk, hsk, hset.1, hkv, ?_⟩, ?_, ?_⟩
    · refine List.Perm.trans ?_ hp
      have hL : (leftOf es (seen.push e.born)).toList = (leftOf es seen).toList.filter (fun y => y.born != e.born) := by
        unfold leftOf
        simp only [Array.toList_filter, List.filter_filter]
        apply List.filter_congr
        intro y _
        rw [contains_push]
        cases seen.contains y.born <;> cases h : (y.born == e.born) <;> simp_all [bne]
      have hnl : ((leftOf es seen).toList.map (·.born)).Nodup := by
        unfold leftOf
        rw [Array.toList_filter]
        exact hnd.sublist (List.Sublist.map _ List.filter_sublist)
      have hp2 := (perm_filter_ne (f := fun y : MapEntry => y.born) hnl he).map (fun y => unval y.key)
      rw [List.map_cons, hxk, unval_val, ← hL] at hp2
      rw [List.append_assoc]
      exact (hp2.symm.append_left done)
    · rcases hal with rfl | rfl
      · exact ⟨rfl, rfl, rfl, by simp [setBlock], fun i _ hi => hset.2 i hi⟩
      · exact ⟨rfl, rfl, rfl, by simp [setBlock], fun i _ hi => hset.2 i hi⟩
    · have e1 : w.rangeLeft b r = (leftOf es seen).size := by simp only [World.rangeLeft, hb, hr]
      have e2 : (setBlock w1 r (.mapIter (some b) since (seen.push e.born) clock)).rangeLeft b r = (leftOf es (seen.push e.born)).size := by
        have hr' : (setBlock w1 r (.mapIter (some b) since (seen.push e.born) clock)).heap[r]? = some (.mapIter (some b) since (seen.push e.born) clock) := hset.1
        simp only [World.rangeLeft, hb', hr']
      rw [e1, e2]
      exact left_shrinks es seen e he

theorem Walks.fr {X : Nat → Prop} {w w' : World} {b r : Nat} {S done : List Ob} (h : Walks w b r S done) (hf : Fr X w w') (hb : ¬ X b) (hr : ¬ X r) : Walks w' b r S done := by
  obtain ⟨es, clock, since, seen, c0, h1, h2, h3, h4, h5, h6, h7⟩ := h
  exact ⟨es, clock, since, seen, c0, hf.at h1 hb, h2, h3, h4, h5, hf.at h6 hr, h7⟩
theorem Walks.fr0 {w w' : World} {b r : Nat} {S done : List Ob} (h : Walks w b r S done) (hf : Fr0 w w') : Walks w' b r S done := h.fr hf (fun h => h) (fun h => h)
theorem Walks.left_fr {w w' : World} {b r : Nat} {S done : List Ob} (h : Walks w b r S done) (hf : Fr0 w w') : w'.rangeLeft b r = w.rangeLeft b r := by
  obtain ⟨es, clock, since, seen, c0, h1, _, _, _, _, h6, _⟩ := h
  simp only [World.rangeLeft, hf.at h1 (fun h => h), hf.at h6 (fun h => h), h1, h6]

/-- How many of a cache. -/
def manyL (S : List Ob) (c : Int) : Nat := (S.filter fun x => x.c == c).length
theorem manyL_perm {S T : List Ob} (h : S.Perm T) (c : Int) : manyL S c = manyL T c := (h.filter _).length_eq
theorem manyL_snoc (S : List Ob) (x : Ob) (c : Int) : manyL (S ++ [x]) c = manyL S c + if x.c == c then 1 else 0 := by
  unfold manyL
  rw [List.filter_append]
  cases h : (x.c == c) <;> simp [h]
theorem Walks.length {w : World} {b r : Nat} {S done : List Ob} (h : Walks w b r S done) : done.length ≤ S.length := by
  obtain ⟨es, clock, since, seen, c0, _, _, _, _, _, _, _, hp⟩ := h
  have := hp.length_eq
  simp at this
  omega
theorem manyL_le (S : List Ob) (c : Int) : manyL S c ≤ S.length := List.length_filter_le _ _

set_option maxRecDepth 100000 in
set_option maxHeartbeats 800000 in
theorem many_any (p b : Nat) (S : List Ob) (hS : S.length < 4398046511104) (c : Int) (w : World) (h : HeapIs w p b S) :
    Calls Try.prog 25 #[.pointer (some ⟨p, 0, none⟩), .int .i64 c] w fun e w' => e = .returned (.int .i64 (manyL S c)) ∧ Fr0 w w' := by
  have HN := none_any p b S w h
  have hc := h.cell
  obtain ⟨w1, hrg, hW1, hf1, hsz1⟩ := Walks.start (w := w) h.2.1
  have hrun := (hrg 0).1
  have H1 := hid (And.intro hW1 hf1)
  clear h hrg hW1 hf1 hsz1
  go_enter Try.func25, Try.ntmps25
  go_wp2_with (go_at_call 44; refine HN.mono ?_; rintro e w' ⟨rfl, rfl⟩)
  go_loopw [4] (fun n wr => ∃ done, n = .int .i64 (manyL done c) ∧ Hid (Walks wr b w.heap.size S done ∧ Fr0 w wr)) (fun _ wr => wr.rangeLeft b w.heap.size)
  case atStart => exact ⟨[], rfl, hid H1.out⟩
  case round =>
    obtain ⟨done, rfl, hR⟩ := hrel
    have hlen := manyL_le done c
    have hlen2 := hR.out.1.length
    rcases hR.out.1.next 0 with ⟨hp, hn⟩ | ⟨x, w', hx, hn, hen, hW, hf, hlt⟩
    · have HP := hid (manyL_perm hp c)
      clear hp
      go_wp2
      go_ret
      exact ⟨by rw [HP.out]; rfl, hR.out.2⟩
    · have hs := manyL_snoc done x c
      have hs1 := manyL_le (done ++ [x]) c
      have hl3 := hW.length
      have HB := hid (show Walks w' b w.heap.size S (done ++ [x]) ∧ Fr0 w w' from ⟨hW, hR.out.2.trans hf (fun i hi e => by omega)⟩)
      have HL := hid hlt
      have hb1 := (Fr.refl (fun _ => False) w').alloc (.cells #[.int .i64 x.c, .int .i64 x.s, .int .i64 x.o] 30)
      have HL2 := hid (hW.left_fr hb1)
      have HW := hid (hW.fr0 hb1)
      simp only [Ob.val] at hn hen
      clear hR hW hf hlt hb1
      by_cases hx2 : (x.c == c) = true
      · rw [if_pos hx2] at hs
        have HS := hid hs
        clear hs
        go_wp2
        go_roundw
        case rel => exact ⟨_, by rw [HS.out]; go_num, hid ⟨HW.out, HB.out.2.trans0 (fr0_alloc _ _)⟩⟩
        case measure => rw [HL2.out]; exact HL.out
      · have hx3 : (x.c == c) = false := by simpa using hx2
        rw [if_neg hx2] at hs
        have HS := hid hs
        clear hs hx2
        go_wp2
        go_roundw
        case rel => exact ⟨_, by rw [HS.out]; rfl, hid ⟨HW.out, HB.out.2.trans0 (fr0_alloc _ _)⟩⟩
        case measure => rw [HL2.out]; exact HL.out
end Go.Proofs.Ytjaabbjobnfmmaa

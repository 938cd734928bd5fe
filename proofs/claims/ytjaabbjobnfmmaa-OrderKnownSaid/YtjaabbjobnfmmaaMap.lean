/-
  A map's block told by its list of entries (key, value): look-up, store, delete, for a key type that has its bundle 'Keyed'. Plain laws on a run; no program of this seat.
-/
import Derived.Maps.OwnSet
namespace Go.Proofs.Ytjaabbjobnfmmaa
open Go.ChangeMaps Go.MapKept
open Go.Maps (Keyed)

/-- Block b of w is a map whose entries are kv, in the order in which they lie. -/
def MapIs (P : Program) (k : TypeId) (w : World) (b : Nat) (kv : List (Value × Value)) : Prop :=
  ∃ es clock, w.heap[b]? = some (.map es clock) ∧ es.toList.map (fun e => (e.key, e.val)) = kv ∧ Stamped es clock ∧ ∀ p ∈ kv, ∃ l, keyOf P k p.1 = some l

section
variable {P : Program} {k e t : TypeId} {w w' : World} {b : Nat} {kv : List (Value × Value)}

theorem MapIs.made (w : World) (P : Program) (k : TypeId) : MapIs P k (w.alloc (.map #[] 0)) w.heap.size [] :=
  ⟨#[], 0, (MapKept.heap_alloc w _).1, rfl, stamped_empty 0, by simp⟩

theorem MapIs.lt (h : MapIs P k w b kv) : b < w.heap.size := by
  obtain ⟨es, clock, hb, _⟩ := h
  exact (Array.getElem?_eq_some_iff.1 hb).1

theorem MapIs.block (h : MapIs P k w b kv) (hb : w'.heap[b]? = w.heap[b]?) : MapIs P k w' b kv := by
  obtain ⟨es, clock, hb', r⟩ := h
  exact ⟨es, clock, hb.trans hb', r⟩

theorem MapIs.kept {row : Option Nat} (h : MapIs P k w b kv) (hg : w.grownBy w' row) (hne : some b ≠ row) : MapIs P k w' b kv :=
  h.block (hg.block b h.lt hne)

theorem MapIs.alloc (h : MapIs P k w b kv) (o : Obj) : MapIs P k (w.alloc o) b kv := h.kept (World.grownBy_alloc w o none) (by simp)
theorem MapIs.drew (h : MapIs P k w b kv) : MapIs P k w.drew b kv := h

theorem MapIs.apart (h : MapIs P k w b kv) : kv.Pairwise (fun p q => p.1 ≠ q.1) := by
  obtain ⟨es, clock, _, rfl, hs, _⟩ := h
  rw [List.pairwise_map]
  exact ((stamped_iff es clock).1 hs).2.2

theorem MapIs.look (c : Bool) (K : Keyed P k) (ht : P.underlying t = some (.map k e)) {z : Value} (hz : (zeroValue e).run P w = .ok z w) (h : MapIs P k w b kv) {key : Value} {kl : Lit} (hkey : keyOf P k key = some kl) :
    ((Instr.lookup t (.map (some b)) key c).run P w = .ok (if c then .tuple #[z, .bool false] else z) w ∧ ∀ p ∈ kv, p.1 ≠ key) ∨
    ∃ v, (key, v) ∈ kv ∧ (Instr.lookup t (.map (some b)) key c).run P w = .ok (if c then .tuple #[v, .bool true] else v) w := by
  obtain ⟨es, clock, hb, rfl, hs, hk⟩ := h
  have hk' : ∀ x ∈ es.toList, ∃ l, keyOf P k x.key = some l := fun x hx => hk (x.key, x.val) (List.mem_map.2 ⟨x, hx, rfl⟩)
  rcases K.find w hkey es.toList hk' with ⟨h1, h2⟩ | ⟨j, e0, h1, h2, h3⟩
  · refine .inl ⟨by simp [Instr.lookup, run_underlying ht, MapKept.run_getObj_map hb, K.check w _ hkey, h1, hz, Result.andThen], ?_⟩
    intro p hp
    obtain ⟨x, hx, rfl⟩ := List.mem_map.1 hp
    exact h2 x hx
  · refine .inr ⟨e0.val, List.mem_map.2 ⟨e0, List.mem_of_getElem? h2, by rw [h3]⟩, ?_⟩
    simp [Instr.lookup, run_underlying ht, MapKept.run_getObj_map hb, K.check w _ hkey, h1, Result.andThen]

/-- A store at a key that is not there: behind all others. -/
theorem MapIs.store_new (K : Keyed P k) (ht : P.underlying t = some (.map k e)) (h : MapIs P k w b kv) {key : Value} {kl : Lit} (hkey : keyOf P k key = some kl) (hno : ∀ p ∈ kv, p.1 ≠ key) (val : Value) :
    ∃ w', (Instr.mapUpdate t (.map (some b)) key val).run P w = .ok () w' ∧ MapIs P k w' b (kv ++ [(key, val)]) ∧ w.mapTurned w' b := by
  obtain ⟨es, clock, hb, rfl, hs, hk⟩ := h
  have hk' : ∀ x ∈ es.toList, ∃ l, keyOf P k x.key = some l := fun x hx => hk (x.key, x.val) (List.mem_map.2 ⟨x, hx, rfl⟩)
  rcases K.find w hkey es.toList hk' with ⟨h1, h2⟩ | ⟨j, e0, h1, h2, h3⟩
  · refine ⟨setBlock w b (.map (es.push ⟨key, val, clock⟩) (clock + 1)), ?_, ⟨_, _, heap_setBlock_same hb _, by simp, stamped_push hs h2, ?_⟩, es, clock, _, _, hb, rfl⟩
    · simp [Instr.mapUpdate, run_underlying ht, MapKept.run_getObj_map hb, K.check w false hkey, h1, MapKept.run_setObj_map _ hb, Result.andThen, setBlock]
    · intro p hp
      rcases List.mem_append.1 hp with h | h
      · exact hk p h
      · obtain rfl := List.mem_singleton.1 h
        exact ⟨kl, hkey⟩
  · exact absurd h3 (hno (e0.key, e0.val) (List.mem_map.2 ⟨e0, List.mem_of_getElem? h2, rfl⟩))

/-- A store at a key that is there: in its place. -/
theorem MapIs.store_old (K : Keyed P k) (ht : P.underlying t = some (.map k e)) (h : MapIs P k w b kv) {key : Value} {kl : Lit} (hkey : keyOf P k key = some kl) {i : Nat} {v0 : Value} (hi : kv[i]? = some (key, v0)) (val : Value) :
    ∃ w', (Instr.mapUpdate t (.map (some b)) key val).run P w = .ok () w' ∧ MapIs P k w' b (kv.set i (key, val)) ∧ w.mapTurned w' b := by
  have hap := h.apart
  obtain ⟨es, clock, hb, rfl, hs, hk⟩ := h
  have hk' : ∀ x ∈ es.toList, ∃ l, keyOf P k x.key = some l := fun x hx => hk (x.key, x.val) (List.mem_map.2 ⟨x, hx, rfl⟩)
  have hmem : (key, v0) ∈ es.toList.map (fun e => (e.key, e.val)) := List.mem_of_getElem? hi
  obtain ⟨x0, hx0, he0⟩ := List.mem_map.1 hmem
  rcases K.find w hkey es.toList hk' with ⟨h1, h2⟩ | ⟨j, e0, h1, h2, h3⟩
  · exact absurd (congrArg Prod.fst he0) (h2 x0 hx0)
  · have hj : es[j]? = some e0 := by simpa using h2
    have hij : i = j := by
      have hj2 : (es.toList.map (fun e => (e.key, e.val)))[j]? = some (e0.key, e0.val) := by simp [h2]
      obtain ⟨hil, hie⟩ := List.getElem?_eq_some_iff.1 hi
      obtain ⟨hjl, hje⟩ := List.getElem?_eq_some_iff.1 hj2
      rw [List.pairwise_iff_getElem] at hap
      rcases Nat.lt_trichotomy i j with hlt | heq | hgt
      · exact absurd (by rw [hie, hje]; exact h3.symm) (hap i j hil hjl hlt)
      · exact heq
      · exact absurd (by rw [hie, hje]; exact h3) (hap j i hjl hil hgt)
    subst hij
    have hkeyf : ∀ e', es[i]? = some e' → ({ e' with key := key, val := val } : MapEntry).key = e'.key := fun e' he' => by rw [hj] at he'; cases he'; exact h3.symm
    have hlist : (es.modify i (fun e' => { e' with key := key, val := val })).toList = es.toList.set i { e0 with key := key, val := val } := by rw [Array.toList_modify, modify_eq_set _ _ _ _ h2]
    refine ⟨setBlock w b (.map (es.modify i (fun e' => { e' with key := key, val := val })) clock), ?_, ⟨_, _, heap_setBlock_same hb _, ?_, stamped_modify hs _ _ (fun _ _ => rfl) (fun e' _ he' => hkeyf e' he'), ?_⟩, es, clock, _, _, hb, rfl⟩
    · simp [Instr.mapUpdate, run_underlying ht, MapKept.run_getObj_map hb, K.check w false hkey, h1, hj, h3, K.stays w hkey, MapKept.run_setObj_map _ hb, Result.andThen, setBlock]
    · rw [hlist, List.map_set]
    · intro p hp
      rcases List.mem_or_eq_of_mem_set hp with h | rfl
      · exact hk p h
      · exact ⟨kl, hkey⟩

/-- A delete at a key that is not there. -/
theorem MapIs.drop_none (K : Keyed P k) (ht : P.underlying t = some (.map k e)) (h : MapIs P k w b kv) {key : Value} {kl : Lit} (hkey : keyOf P k key = some kl) (hno : ∀ p ∈ kv, p.1 ≠ key) (ty : TypeId) :
    ∃ w', (Builtin.delete_ #[t, k] ty #[.map (some b), key]).run P w = .ok (.tuple #[]) w' ∧ MapIs P k w' b kv ∧ w.mapTurned w' b := by
  obtain ⟨es, clock, hb, rfl, hs, hk⟩ := h
  have hk' : ∀ x ∈ es.toList, ∃ l, keyOf P k x.key = some l := fun x hx => hk (x.key, x.val) (List.mem_map.2 ⟨x, hx, rfl⟩)
  rcases K.find w hkey es.toList hk' with ⟨h1, h2⟩ | ⟨j, e0, h1, h2, h3⟩
  · refine ⟨setBlock w b (.map es clock), ?_, ⟨_, _, heap_setBlock_same hb _, rfl, hs, hk⟩, es, clock, _, _, hb, rfl⟩
    simp [Builtin.delete_, run_underlying ht, MapKept.run_getObj_map hb, K.check w _ hkey, h1, MapKept.run_setObj_map _ hb, Result.andThen, setBlock]
  · exact absurd h3 (hno (e0.key, e0.val) (List.mem_map.2 ⟨e0, List.mem_of_getElem? h2, rfl⟩))

/-- A delete at a key that is there. -/
theorem MapIs.drop_some (K : Keyed P k) (ht : P.underlying t = some (.map k e)) (h : MapIs P k w b kv) {key : Value} {kl : Lit} (hkey : keyOf P k key = some kl) {i : Nat} {v0 : Value} (hi : kv[i]? = some (key, v0)) (ty : TypeId) :
    ∃ w', (Builtin.delete_ #[t, k] ty #[.map (some b), key]).run P w = .ok (.tuple #[]) w' ∧ MapIs P k w' b (kv.eraseIdx i) ∧ w.mapTurned w' b := by
  have hap := h.apart
  obtain ⟨es, clock, hb, rfl, hs, hk⟩ := h
  have hk' : ∀ x ∈ es.toList, ∃ l, keyOf P k x.key = some l := fun x hx => hk (x.key, x.val) (List.mem_map.2 ⟨x, hx, rfl⟩)
  have hmem : (key, v0) ∈ es.toList.map (fun e => (e.key, e.val)) := List.mem_of_getElem? hi
  obtain ⟨x0, hx0, he0⟩ := List.mem_map.1 hmem
  rcases K.find w hkey es.toList hk' with ⟨h1, h2⟩ | ⟨j, e0, h1, h2, h3⟩
  · exact absurd (congrArg Prod.fst he0) (h2 x0 hx0)
  · have hij : i = j := by
      have hj2 : (es.toList.map (fun e => (e.key, e.val)))[j]? = some (e0.key, e0.val) := by simp [h2]
      obtain ⟨hil, hie⟩ := List.getElem?_eq_some_iff.1 hi
      obtain ⟨hjl, hje⟩ := List.getElem?_eq_some_iff.1 hj2
      rw [List.pairwise_iff_getElem] at hap
      rcases Nat.lt_trichotomy i j with hlt | heq | hgt
      · exact absurd (by rw [hie, hje]; exact h3.symm) (hap i j hil hjl hlt)
      · exact heq
      · exact absurd (by rw [hie, hje]; exact h3) (hap j i hjl hil hgt)
    subst hij
    have hjl : i < es.toList.length := (List.getElem?_eq_some_iff.1 h2).1
    have hjs : i < es.size := by simpa using hjl
    have hsub : (es.eraseIdxIfInBounds i).toList = es.toList.eraseIdx i := by
      unfold Array.eraseIdxIfInBounds
      rw [dif_pos hjs]
      simp
    refine ⟨setBlock w b (.map (es.eraseIdxIfInBounds i) clock), ?_, ⟨_, _, heap_setBlock_same hb _, ?_, stamped_erase hs _, ?_⟩, es, clock, _, _, hb, rfl⟩
    · simp [Builtin.delete_, run_underlying ht, MapKept.run_getObj_map hb, K.check w _ hkey, h1, MapKept.run_setObj_map _ hb, Result.andThen, setBlock]
    · rw [hsub, map_eraseIdx]
    · intro p hp
      exact hk p ((List.eraseIdx_sublist _ _).subset hp)

end

/-- What a key that is a struct of three integers reads as: something. -/
theorem keyOf_struct3 {P : Program} {k e : TypeId} {q : IntKind} {n0 n1 n2 : String} {b0 b1 b2 : Bool} {t0 t1 t2 p0 p1 p2 : String} {o0 o1 o2 : Nat}
    (hk : P.underlying k = some (.struct #[⟨n0, e, 0, b0, t0, p0, o0⟩, ⟨n1, e, 1, b1, t1, p1, o1⟩, ⟨n2, e, 2, b2, t2, p2, o2⟩]))
    (h0 : (n0 != "_") = true) (h1 : (n1 != "_") = true) (h2 : (n2 != "_") = true) (he : P.underlying e = some (.int q)) (hkt : P.keyType k = true) (hc : P.cellsOf k = 3) (hce : P.cellsOf e = 1) (hsz : 0 < P.types.size)
    {a b c : Int} (wa : (Lit.int q a).wf = true) (wb : (Lit.int q b).wf = true) (wc : (Lit.int q c).wf = true) :
    ∃ l, keyOf P k (.agg #[.int q a, .int q b, .int q c]) = some l := by
  obtain ⟨m, hm⟩ : ∃ m, P.types.size = m + 1 := ⟨P.types.size - 1, by omega⟩
  refine ⟨.string (keyBytes [.int q a, .int q b, .int q c]), ?_⟩
  unfold keyOf
  rw [hk]
  have e0 : n0 ≠ "_" := by simpa using h0
  have e1 : n1 ≠ "_" := by simpa using h1
  have e2 : n2 ≠ "_" := by simpa using h2
  simp [hkt, Value.formed, hk, hc, hm, Program.keyLits, he, hce, wa, wb, wc, e0, e1, e2, Value.cells]
end Go.Proofs.Ytjaabbjobnfmmaa

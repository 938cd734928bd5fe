/-
  An entry of a map read and written in one statement: m[k] = append(m[k], ..). Plain laws on a run.
-/
import Derived.Test.YtjaabbjobnfmmaaMap
import Derived.Test.YtjaabbjobnfmmaaGHeap
namespace Go.Proofs.Ytjaabbjobnfmmaa
open Go.ChangeMaps Go.MapKept
open Go.Maps (Keyed)

/-- Block b is a map with the entries kv; the entry at place i bears the stamp st. -/
def MapSt (P : Program) (k : TypeId) (w : World) (b : Nat) (kv : List (Value × Value)) (i : Nat) (st : Int) : Prop :=
  ∃ es clock, w.heap[b]? = some (.map es clock) ∧ es.toList.map (fun e => (e.key, e.val)) = kv ∧ Stamped es clock ∧ (∀ p ∈ kv, ∃ l, keyOf P k p.1 = some l) ∧ ∃ e0, es.toList[i]? = some e0 ∧ st = (e0.born : Int)

section
variable {P : Program} {k e t : TypeId} {w w' : World} {b : Nat} {kv : List (Value × Value)}

theorem MapSt.block {i : Nat} {st : Int} (h : MapSt P k w b kv i st) (hb : w'.heap[b]? = w.heap[b]?) : MapSt P k w' b kv i st := by
  obtain ⟨es, clock, hb', r⟩ := h
  exact ⟨es, clock, hb.trans hb', r⟩
theorem MapSt.lt {i : Nat} {st : Int} (h : MapSt P k w b kv i st) : b < w.heap.size := by
  obtain ⟨es, clock, hb, _⟩ := h
  exact (Array.getElem?_eq_some_iff.1 hb).1

/-- m[k] read for writing, the key not there. -/
theorem MapIs.entry_new (K : Keyed P k) (ht : P.underlying t = some (.map k e)) {z : Value} (hz : (zeroValue e).run P w = .ok z w) (h : MapIs P k w b kv) {key : Value} {kl : Lit} (hkey : keyOf P k key = some kl) (hno : ∀ p ∈ kv, p.1 ≠ key) :
    ∃ w' st, (Instr.mapEntry t (.map (some b)) key).run P w = .ok (.tuple #[z, .int .i64 st]) w' ∧ MapSt P k w' b (kv ++ [(key, z)]) kv.length st ∧ w.mapTurned w' b := by
  obtain ⟨es, clock, hb, rfl, hs, hk⟩ := h
  have hk' : ∀ x ∈ es.toList, ∃ l, keyOf P k x.key = some l := fun x hx => hk (x.key, x.val) (List.mem_map.2 ⟨x, hx, rfl⟩)
  rcases K.find w hkey es.toList hk' with ⟨h1, h2⟩ | ⟨j, e0, h1, h2, h3⟩
  · refine ⟨setBlock w b (.map (es.push ⟨key, z, clock⟩) (clock + 1)), clock, ?_, ⟨_, _, heap_setBlock_same hb _, by simp, stamped_push hs h2, ?_, ⟨key, z, clock⟩, by simp, rfl⟩, es, clock, _, _, hb, rfl⟩
    · simp [Instr.mapEntry, run_underlying ht, MapKept.run_getObj_map hb, K.check w false hkey, h1, hz, MapKept.run_setObj_map _ hb, Result.andThen, setBlock, goInt]
    · intro p hp
      rcases List.mem_append.1 hp with h | h
      · exact hk p h
      · obtain rfl := List.mem_singleton.1 h
        exact ⟨kl, hkey⟩
  · exact absurd h3 (hno (e0.key, e0.val) (List.mem_map.2 ⟨e0, List.mem_of_getElem? h2, rfl⟩))

/-- m[k] read for writing, the key there. -/
theorem MapIs.entry_old (K : Keyed P k) (ht : P.underlying t = some (.map k e)) (h : MapIs P k w b kv) {key : Value} {kl : Lit} (hkey : keyOf P k key = some kl) {i : Nat} {v0 : Value} (hi : kv[i]? = some (key, v0)) :
    ∃ w' st, (Instr.mapEntry t (.map (some b)) key).run P w = .ok (.tuple #[v0, .int .i64 st]) w' ∧ MapSt P k w' b kv i st ∧ w.mapTurned w' b := by
  have hap := h.apart
  obtain ⟨es, clock, hb, rfl, hs, hk⟩ := h
  have hk' : ∀ x ∈ es.toList, ∃ l, keyOf P k x.key = some l := fun x hx => hk (x.key, x.val) (List.mem_map.2 ⟨x, hx, rfl⟩)
  have hmem : (key, v0) ∈ es.toList.map (fun e => (e.key, e.val)) := List.mem_of_getElem? hi
  obtain ⟨x0, hx0, he0⟩ := List.mem_map.1 hmem
  rcases K.find w hkey es.toList hk' with ⟨h1, h2⟩ | ⟨j, e0, h1, h2, h3⟩
  · exact absurd (congrArg Prod.fst he0) (h2 x0 hx0)
  · have hj2 : (es.toList.map (fun e => (e.key, e.val)))[j]? = some (e0.key, e0.val) := by simp [h2]
    have hij : i = j := by
      obtain ⟨hil, hie⟩ := List.getElem?_eq_some_iff.1 hi
      obtain ⟨hjl, hje⟩ := List.getElem?_eq_some_iff.1 hj2
      rw [List.pairwise_iff_getElem] at hap
      rcases Nat.lt_trichotomy i j with hlt | heq | hgt
      · exact absurd (by rw [hie, hje]; exact h3.symm) (hap i j hil hjl hlt)
      · exact heq
      · exact absurd (by rw [hie, hje]; exact h3) (hap j i hjl hil hgt)
    subst hij
    have hv0 : e0.val = v0 := by rw [hi] at hj2; exact (congrArg Prod.snd (Option.some.inj hj2)).symm
    have hj : es[i]? = some e0 := by simpa using h2
    have hlist : (es.modify i (fun e' => { e' with key := key })).toList = es.toList.set i { e0 with key := key } := by rw [Array.toList_modify, modify_eq_set _ _ _ _ h2]
    have hself : ({ e0 with key := key } : MapEntry) = e0 := by cases e0; simp_all
    have hmod : es.modify i (fun e' => { e' with key := key }) = es := by
      apply Array.ext'
      rw [hlist, hself]
      obtain ⟨hl, hg⟩ := List.getElem?_eq_some_iff.1 h2
      rw [← hg]; exact List.set_getElem_self hl
    refine ⟨setBlock w b (.map es clock), e0.born, ?_, ⟨es, clock, heap_setBlock_same hb _, rfl, hs, hk, e0, h2, rfl⟩, es, clock, _, _, hb, rfl⟩
    simp [Instr.mapEntry, run_underlying ht, MapKept.run_getObj_map hb, K.check w false hkey, h1, hj, h3, K.stays w hkey, hmod, hv0, MapKept.run_setObj_map _ hb, Result.andThen, setBlock, goInt]

/-- .. and written. -/
theorem MapSt.store {i : Nat} {st : Int} (h : MapSt P k w b kv i st) {key v0 : Value} (hi : kv[i]? = some (key, v0)) (val : Value) :
    ∃ w', (Instr.entryStore t (.map (some b)) (.int .i64 st) val).run P w = .ok () w' ∧ MapIs P k w' b (kv.set i (key, val)) ∧ w.mapTurned w' b := by
  obtain ⟨es, clock, hb, rfl, hs, hk, e0, he0, rfl⟩ := h
  have hnd := ((stamped_iff es clock).1 hs).2.1
  have hk0 : e0.key = key := by
    rw [List.getElem?_map, he0] at hi
    simpa using congrArg Prod.fst (Option.some.inj hi)
  obtain ⟨hl, hg⟩ := List.getElem?_eq_some_iff.1 he0
  have hfind : es.findIdx? (fun e => (e.born : Int) == (e0.born : Int)) = some i := by
    rw [show es = es.toList.toArray from rfl, List.findIdx?_toArray, List.findIdx?_eq_some_iff_getElem]
    refine ⟨hl, by rw [hg]; simp, fun j hji => ?_⟩
    have hjl : j < es.toList.length := by omega
    intro hh
    have hb : es.toList[j].born = e0.born := by
      have : (es.toList[j].born : Int) = (e0.born : Int) := by simpa using hh
      omega
    have := List.pairwise_iff_getElem.1 hnd j i (by simpa using hjl) (by simpa using hl) hji
    simp only [List.getElem_map] at this
    rw [hg] at this
    exact this hb
  have hlist : (es.modify i (fun e' => { e' with val := val })).toList = es.toList.set i { e0 with val := val } := by rw [Array.toList_modify, modify_eq_set _ _ _ _ he0]
  refine ⟨setBlock w b (.map (es.modify i (fun e' => { e' with val := val })) clock), ?_, ⟨_, _, heap_setBlock_same hb _, ?_, stamped_modify hs _ _ (fun _ _ => rfl) (fun _ _ _ => rfl), ?_⟩, es, clock, _, _, hb, rfl⟩
  · simp [Instr.entryStore, MapKept.run_getObj_map hb, asInt, asIntOf, hfind, MapKept.run_setObj_map _ hb, Result.andThen, setBlock]
  · rw [hlist, List.map_set, hk0]
  · intro p hp
    rcases List.mem_or_eq_of_mem_set hp with h | rfl
    · exact hk p h
    · exact hk (key, v0) (List.mem_of_getElem? hi)

/-- What a key that is a number and a struct of three numbers reads as: something. -/
theorem keyOf_struct13 {P : Program} {k t e : TypeId} {q : IntKind} {m0 m1 n0 n1 n2 : String} {c0 c1 b0 b1 b2 : Bool} {u0 u1 v0 v1 t0 t1 t2 p0 p1 p2 : String} {r0 r1 o0 o1 o2 : Nat}
    (hk : P.underlying k = some (.struct #[⟨m0, e, 0, c0, u0, v0, r0⟩, ⟨m1, t, 1, c1, u1, v1, r1⟩])) (ht : P.underlying t = some (.struct #[⟨n0, e, 0, b0, t0, p0, o0⟩, ⟨n1, e, 1, b1, t1, p1, o1⟩, ⟨n2, e, 2, b2, t2, p2, o2⟩]))
    (g0 : (m0 != "_") = true) (g1 : (m1 != "_") = true) (h0 : (n0 != "_") = true) (h1 : (n1 != "_") = true) (h2 : (n2 != "_") = true) (he : P.underlying e = some (.int q)) (hkt : P.keyType k = true) (hck : P.cellsOf k = 4) (hc : P.cellsOf t = 3) (hce : P.cellsOf e = 1) (hsz : 1 < P.types.size)
    {d a b c : Int} (wd : (Lit.int q d).wf = true) (wa : (Lit.int q a).wf = true) (wb : (Lit.int q b).wf = true) (wc : (Lit.int q c).wf = true) :
    ∃ l, keyOf P k (.agg #[.int q d, .int q a, .int q b, .int q c]) = some l := by
  obtain ⟨m, hm⟩ : ∃ m, P.types.size = m + 2 := ⟨P.types.size - 2, by omega⟩
  refine ⟨.string (keyBytes [.int q d, .int q a, .int q b, .int q c]), ?_⟩
  unfold keyOf
  rw [hk]
  have e0 : n0 ≠ "_" := by simpa using h0
  have e1 : n1 ≠ "_" := by simpa using h1
  have e2 : n2 ≠ "_" := by simpa using h2
  have f0 : m0 ≠ "_" := by simpa using g0
  have f1 : m1 ≠ "_" := by simpa using g1
  simp [hkt, Value.formed, hk, hck, hm, Program.keyLits, ht, hc, he, hce, wd, wa, wb, wc, f0, f1, Value.cells]
  rw [if_pos]
  · rfl
  · intro i hi
    rcases i with _ | _ | _ | i
    · exact e0
    · exact e1
    · exact e2
    · omega
end

def Dd.val (d : Dd) : Value := .agg #[.int .i64 d.k, .int .i64 d.x.c, .int .i64 d.x.s, .int .i64 d.x.o]
theorem Dd.val_inj {d e : Dd} (h : d.val = e.val) : d = e := by
  cases d with | mk k x => cases e with | mk k' x' => cases x; cases x'; simp [Dd.val] at h; simp [h]
theorem row84 : (84 : TypeId) < Try.prog.types.size := of_decide_eq_true (by kernel_rfl)
theorem deep84 : Try.prog.keyTypeAt 3 84 = true := by kernel_rfl
theorem law84 : Keyed Try.prog 84 := Keyed.of_law (deep_law_laid laidOut (m := 3) (by omega) row84 deep84 (by rw [Try.underlying84]))
theorem keyType84 : Try.prog.keyType 84 = true := by kernel_rfl
theorem cells84 : Try.prog.cellsOf 84 = 4 := by kernel_rfl
theorem keyOf84 (d : Dd) (h : d.wf) : ∃ l, keyOf Try.prog 84 d.val = some l :=
  keyOf_struct13 Try.underlying84 Try.underlying30 (by decide) (by decide) (by decide) (by decide) (by decide) Try.underlying3 keyType84 cells84 cells30 cells3 (Nat.lt_of_le_of_lt (by decide) row84) h.1 h.2.1 h.2.2.1 h.2.2.2
theorem zero75 (w : World) : (zeroValue 75).run Try.prog w = .ok (.slice none 0 0) w := by kernel_rfl
end Go.Proofs.Ytjaabbjobnfmmaa

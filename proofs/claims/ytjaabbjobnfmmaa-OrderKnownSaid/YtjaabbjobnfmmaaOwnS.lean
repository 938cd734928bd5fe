/-
  A row of calls of a call's own; a call compared with itself.
-/
import Derived.Test.YtjaabbjobnfmmaaGLaw
namespace Go.Proofs.Ytjaabbjobnfmmaa
open Go.RowKit

theorem enc6_one' : ∀ x : Sp, ∀ u ∈ x.enc, u.oneCell' = true := enc6_one
def zero50 : Value := .agg #[.int .i64 0, .int .i64 0, .int .i64 0, .int .i64 0, .int .i64 0, .int .i64 0]
theorem info50 : (Try.prog.info? 50).map (fun i => (i.zero, i.size, i.bytes)) = some (some zero50, 6, 48) := by kernel_rfl

/-- A row of calls of a call's own. -/
def OwnS (w : World) (B : Nat) (v : Value) (l : List Sp) : Prop := w.ownsRow B 50 6 v l.length (flat Sp.enc l)
theorem ownS_snoc {w : World} {B : Nat} {v : Value} {l : List Sp} {x : Sp} (h : w.ownsRow B 50 6 v (l.length + 1) (flat Sp.enc l ++ x.enc)) : OwnS w B v (l ++ [x]) := by
  unfold OwnS
  rw [flat_snoc, List.length_append]
  exact h
theorem spansIn_own {w : World} {B : Nat} {v : Value} {l : List Sp} (h : OwnS w B v l) (hw : ∀ d ∈ l, d.wf) (hs : l.length ≤ 100000) : ∃ a b cap, v = .slice a l.length cap ∧ SpansIn w a b 0 l := by
  obtain ⟨a, g, cap, rfl, ha, h1, h2, h3, h4, h5, _⟩ := own_form h
  exact ⟨a, g, cap, rfl, ha, fun j hj => by rw [Nat.zero_add]; exact h5 j hj, fun h => (h4 h).2.2, hw, by omega⟩
theorem cells_new6 (w : World) (a b c d e f : Value) (t : TypeId) : ∀ j u, [a, b, c, d, e, f][j]? = some u → (w.alloc (.cells #[a, b, c, d, e, f] t)).cell? ((⟨w.heap.size, 0, none⟩ : Addr).add j) = some u := by
  intro j u hu
  rw [Addr.add_lit]
  simp only [Nat.zero_add, World.cell?_alloc_new]
  simpa using hu

theorem struct50 : Try.prog.underlying 50 = some (.struct (Try.prog.fieldsOf 50)) := by rw [Program.fieldsOf, Try.underlying50]
theorem stood50 : Try.prog.stoodInHeld 50 = false := by kernel_rfl
theorem guard50 : Try.prog.eqGuardType Try.prog.depth 50 = false := by kernel_rfl
theorem struct32 : Try.prog.underlying 32 = some (.struct (Try.prog.fieldsOf 32)) := by rw [Program.fieldsOf, Try.underlying32]
theorem stood32 : Try.prog.stoodInHeld 32 = false := by kernel_rfl

theorem eqR30 (n : Nat) (c s o : Int) (w : World) : (Op.equalIn (n + 2) 30 (.agg #[.int .i64 c, .int .i64 s, .int .i64 o]) (.agg #[.int .i64 c, .int .i64 s, .int .i64 o])).run Try.prog w = .ok true w := by
  have u3 := Try.underlying3
  have a3 := Try.isAgg3
  rw [show n + 2 = (n + 1) + 1 from rfl, run_equalIn_agg w (n + 1) 30 _ _ struct30 stood30]
  simp only [Program.fieldsOf, Try.underlying30]
  go_simp
theorem eqR32 (n : Nat) (k c s o : Int) (w : World) : (Op.equalIn (n + 3) 32 (.agg #[.int .i64 k, .int .i64 c, .int .i64 s, .int .i64 o]) (.agg #[.int .i64 k, .int .i64 c, .int .i64 s, .int .i64 o])).run Try.prog w = .ok true w := by
  have u3 := Try.underlying3
  have a3 := Try.isAgg3
  have e30 := eqR30 n c s o
  have u30 := Try.underlying30
  rw [show n + 3 = (n + 2) + 1 from rfl, run_equalIn_agg w (n + 2) 32 _ _ struct32 stood32]
  simp only [Program.fieldsOf, Try.underlying32]
  go_simp
theorem eqR50 (x : Sp) (w : World) : (Op.equalIn 10000 50 (.agg #[.int .i64 x.d.k, .int .i64 x.d.x.c, .int .i64 x.d.x.s, .int .i64 x.d.x.o, .int .i64 x.f, .int .i64 x.t]) (.agg #[.int .i64 x.d.k, .int .i64 x.d.x.c, .int .i64 x.d.x.s, .int .i64 x.d.x.o, .int .i64 x.f, .int .i64 x.t])).run Try.prog w = .ok true w := by
  have u3 := Try.underlying3
  have a3 := Try.isAgg3
  have e32 := eqR32 9996 x.d.k x.d.x.c x.d.x.s x.d.x.o
  rw [show (10000 : Nat) = 9999 + 1 from rfl, run_equalIn_agg w 9999 50 _ _ struct50 stood50]
  simp only [Program.fieldsOf, Try.underlying50]
  go_simp
theorem neqR50 (x : Sp) (w : World) : (binOp .neq 50 (.agg #[.int .i64 x.d.k, .int .i64 x.d.x.c, .int .i64 x.d.x.s, .int .i64 x.d.x.o, .int .i64 x.f, .int .i64 x.t]) (.agg #[.int .i64 x.d.k, .int .i64 x.d.x.c, .int .i64 x.d.x.s, .int .i64 x.d.x.o, .int .i64 x.f, .int .i64 x.t])).run Try.prog w = .ok (.bool false) w := by
  rw [run_neq_struct]
  have := eqR50 x w
  rw [this]; rfl
end Go.Proofs.Ytjaabbjobnfmmaa

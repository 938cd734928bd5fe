/-
  The law's own helper 'works' of layer 27 returns true; both Plays answer alike.
-/
import Derived.Test.YtjaabbjobnfmmaaGRef
namespace Go.Proofs.Ytjaabbjobnfmmaa
open Go.RowKit

/-! ### the plain law: both answer alike -/
structure Same (S L : List Ob) : Prop where
  nodup : S.Nodup
  mem : ∀ x, x ∈ S ↔ x ∈ L

theorem mem_putL (L : List Ob) (x y : Ob) : y ∈ putL L x ↔ y = x ∨ y ∈ L := by
  have : y ∈ L ↔ y ∈ L.takeWhile (·.lt x) ++ L.dropWhile (·.lt x) := by rw [List.takeWhile_append_dropWhile]
  rw [this]
  simp only [putL, List.mem_append, List.mem_cons]
  constructor
  · rintro (h | h | h)
    · exact .inr (.inl h)
    · exact .inl h
    · exact .inr (.inr h)
  · rintro (h | h | h)
    · exact .inr (.inl h)
    · exact .inl h
    · exact .inr (.inr h)
theorem mem_dropL (L : List Ob) (x y : Ob) : y ∈ dropL L x ↔ y ≠ x ∧ y ∈ L := by
  simp [dropL, and_comm]
theorem mem_ins (S : List Ob) (x y : Ob) : y ∈ ins S x ↔ y = x ∨ y ∈ S := by
  unfold ins
  split
  · rename_i h
    constructor
    · exact .inr
    · rintro (rfl | h')
      · exact h
      · exact h'
  · simp [or_comm]
theorem nodup_ins {S : List Ob} (h : S.Nodup) (x : Ob) : (ins S x).Nodup := by
  unfold ins
  split
  · exact h
  · rename_i hn
    rw [List.nodup_append]
    refine ⟨h, by simp, ?_⟩
    intro a ha b hb
    rw [List.mem_singleton.1 hb]
    exact fun e => hn (e ▸ ha)

theorem same_do {S L : List Ob} (h : Same S L) (k : Int) (x : Ob) : (hdo S k x).1 = (rdo L k x).1 ∧ ((hdo S k x).1 = 0 → Same (hdo S k x).2 (rdo L k x).2) ∧ ((hdo S k x).1 ≠ 0 → Same (hdo S k x).2 L ∧ (rdo L k x).2 = L) := by
  have hm := h.mem x
  unfold hdo rdo
  by_cases h1 : k < 1 ∨ 4 < k ∨ (k = 2 ∧ x ≠ zob)
  · rw [if_pos h1, if_pos h1]
    exact ⟨rfl, fun e => absurd e (by show ¬ ((2 : Int) = 0); decide), fun _ => ⟨h, rfl⟩⟩
  · rw [if_neg h1, if_neg h1]
    by_cases h2 : k = 2
    · subst h2
      rw [if_neg (by decide), if_pos rfl, if_pos rfl]
      exact ⟨rfl, fun _ => h, fun e => absurd rfl e⟩
    · rw [if_neg h2]
      rcases (by omega : k = 1 ∨ k = 3 ∨ k = 4) with rfl | rfl | rfl
      · by_cases hx : x ∈ S
        · have hx' := hm.1 hx
          simp only [hx, hx', if_true]
          simp
          exact ⟨nodup_ins h.nodup x, fun y => by
            rw [mem_ins, h.mem y]
            exact ⟨fun e => e.elim (fun e => e ▸ hx') id, .inr⟩⟩
        · have hx' : x ∉ L := fun h => hx (hm.2 h)
          simp [hx, hx']
          exact ⟨nodup_ins h.nodup x, fun y => by rw [mem_ins, mem_putL, h.mem y]⟩
      · by_cases hx : x ∈ S
        · have hx' := hm.1 hx
          simp [hx, hx']
          exact ⟨h.nodup.erase x, fun y => by rw [h.nodup.mem_erase_iff, mem_dropL, h.mem y]⟩
        · have hx' : x ∉ L := fun h => hx (hm.2 h)
          simp [hx, hx']
          exact ⟨h.nodup.sublist List.erase_sublist, fun y => by
            rw [List.erase_of_not_mem hx]; exact h.mem y⟩
      · by_cases hx : x ∈ S
        · have hx' := hm.1 hx
          simp [hx, hx']
          exact h
        · have hx' : x ∉ L := fun h => hx (hm.2 h)
          simp [hx, hx']
          exact h

theorem play_same : ∀ (l : List Dd) (i : Nat) (S L : List Ob), Same S L → hplay S i l = rplay L i l
  | [], _, _, _, _ => rfl
  | d :: l, i, S, L, h => by
    obtain ⟨h1, h2, _⟩ := same_do h d.k d.x
    rw [hplay, rplay, h1]
    by_cases hc : (rdo L d.k d.x).1 = 0
    · rw [if_neg (by simp [hc]), if_neg (by simp [hc])]
      exact play_same l (i + 1) _ _ (h2 (h1.trans hc))
    · rw [if_pos hc, if_pos hc]

theorem same_nil : Same [] [] := ⟨List.nodup_nil, fun _ => Iff.rfl⟩
/-! ### slices of deeds that a call has built -/
def Dd.enc (d : Dd) : List Value := [.int .i64 d.k, .int .i64 d.x.c, .int .i64 d.x.s, .int .i64 d.x.o]
theorem enc4 : ∀ d : Dd, d.enc.length = 4 := fun _ => rfl
theorem enc4_one : ∀ d : Dd, ∀ u ∈ d.enc, u.oneCell' = true := by
  intro x u hu
  simp [Dd.enc] at hu
  rcases hu with rfl | rfl | rfl | rfl <;> rfl

theorem deedsIn_of {w : World} {a : Option Addr} {b off : Nat} {l : List Dd} (ha : 0 < l.length → a = some ⟨b, off, none⟩) (hc : ∀ j, j < l.length * 4 → w.cell? ⟨b, off + j, none⟩ = (flat Dd.enc l)[j]?)
    (hb : 0 < l.length → b < w.heap.size) (hw : ∀ d ∈ l, d.wf) (hs : l.length ≤ 4398046511104) : DeedsIn w a b off l :=
  ⟨ha, fun i hi => by
    have e := flat_get enc4 l i hi
    exact ⟨(hc _ (by omega)).trans (e 0 (by omega)), (hc _ (by omega)).trans (e 1 (by omega)), (hc _ (by omega)).trans (e 2 (by omega)), (hc _ (by omega)).trans (e 3 (by omega))⟩, hb, hw, hs⟩

theorem deedsIn_block {w : World} {b : Nat} {l : List Dd} {t : TypeId} (h : w.heap[b]? = some (.cells (flat Dd.enc l).toArray t (0, 0))) (hw : ∀ d ∈ l, d.wf) (hs : l.length ≤ 4398046511104) : DeedsIn w (some ⟨b, 0, none⟩) b 0 l :=
  deedsIn_of (fun _ => rfl) (fun j _ => by rw [Nat.zero_add, cell_of_block h]; simp) (fun _ => lt_of_block h) hw hs

theorem deedsIn_own {w : World} {B : Nat} {v : Value} {l : List Dd} (h : w.ownsRow B 32 4 v l.length (flat Dd.enc l)) (hw : ∀ d ∈ l, d.wf) (hs : l.length ≤ 4398046511104) :
    ∃ a b cap, v = .slice a l.length cap ∧ DeedsIn w a b 0 l := by
  obtain ⟨a, g, cap, rfl, ha, h1, h2, h3, h4, h5, _⟩ := own_form h
  exact ⟨a, g, cap, rfl, deedsIn_of ha (fun j hj => by rw [Nat.zero_add]; exact h5 j hj) (fun h => (h4 h).2.2) hw hs⟩

set_option maxHeartbeats 400000 in
theorem plays_any (at_ er : Int) (a : Option Addr) (b off cap : Nat) (l : List Dd) (w : World) (h : DeedsIn w a b off l) :
    Calls Try.prog 43 #[.int .i64 at_, .int .i64 er, .slice a l.length cap] w fun e w' => e = .returned (.bool (decide (hplay [] 0 l = (at_, er)))) ∧ Fr0 w w' := by
  have hp := play_any a b off cap l w h
  have e : decide (hplay [] 0 l = (at_, er)) = ((hplay [] 0 l).1 == at_ && (hplay [] 0 l).2 == er) := by
    rw [Bool.eq_iff_iff]
    simp [Prod.ext_iff]
  rw [e]
  generalize (hplay [] 0 l).1 = x at hp
  generalize (hplay [] 0 l).2 = y at hp
  clear h e
  by_cases h1 : x = at_
  · subst h1
    go_enter Try.func43, Try.ntmps43
    go_wp2_with (go_at_call 16; refine hp.mono ?_; rintro e w' ⟨rfl, hf⟩)
    go_ret
    exact ⟨by simp, hf⟩
  · have h2 : (x == at_) = false := by simpa using h1
    clear h1
    go_enter Try.func43, Try.ntmps43
    go_wp2_with (go_at_call 16; refine hp.mono ?_; rintro e w' ⟨rfl, hf⟩)
    go_ret
    exact ⟨by rw [h2]; rfl, hf⟩
def oA : Ob := ⟨1, 2, 3⟩
def dG : Dd := ⟨1, oA⟩
def dT : Dd := ⟨3, oA⟩
def dB : Dd := ⟨4, oA⟩
def dN : Dd := ⟨2, zob⟩

/-- One call of plays at a list that is built ahead of it. -/
theorem plays_block (at_ er : Int) (b : Nat) (l : List Dd) (t : TypeId) (w : World) (h : w.heap[b]? = some (.cells (flat Dd.enc l).toArray t (0, 0))) (hw : ∀ d ∈ l, d.wf) (hs : l.length ≤ 4398046511104) (hr : hplay [] 0 l = (at_, er)) (n : Nat) (hn : n = l.length) :
    Calls Try.prog 43 #[.int .i64 at_, .int .i64 er, .slice (some ⟨b, 0, none⟩) n n] w fun e w' => e = .returned (.bool true) ∧ Fr0 w w' := by
  subst hn
  have := plays_any at_ er (some ⟨b, 0, none⟩) b 0 l.length l w (deedsIn_block h hw hs)
  rwa [decide_eq_true hr] at this

end Go.Proofs.Ytjaabbjobnfmmaa

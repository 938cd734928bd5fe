/-
  great, and the plain laws of folding.
-/
import Derived.Test.YthbcbnihghmniaaWorks
import Derived.Deep.RegionHeld3
import Derived.Deep.DeepCutAuto
namespace Go.Proofs.Ythbcbnihghmniaa
open Go.RowKit

/-- A rune whose small letter is great. -/
def gr (r : Int) : Int := if (97 ≤ r ∧ r ≤ 122) ∨ (224 ≤ r ∧ r ≤ 246) ∨ (945 ≤ r ∧ r ≤ 961) then r - 32 else r
def greatS (s : ByteArray) : ByteArray := ⟨(enc ((rn s).map gr)).toArray⟩

theorem gr_vld {r : Int} (h : Vld r) : Vld (gr r) := by
  unfold Vld at *
  unfold gr
  split <;> omega
theorem fo_fo (r : Int) : fo (fo r) = fo r := by
  unfold fo
  by_cases h : isSmall (r + 32)
  · rw [if_pos h, if_neg]
    unfold isSmall at *
    omega
  · rw [if_neg h, if_neg h]
theorem fo_gr (r : Int) : fo (gr r) = fo r := by
  unfold gr
  split
  · rename_i h
    unfold fo
    rw [if_pos (by unfold isSmall; omega), if_neg (by unfold isSmall; omega)]
    omega
  · rfl
theorem small_fo {r : Int} (h : fo r ≠ r) : isSmall (fo r) := by
  unfold fo at *
  split at h
  · rename_i hs
    rw [if_pos hs]
    exact hs
  · exact absurd rfl h
theorem small_gr {r : Int} (h : gr r ≠ r) : isSmall (fo r) := by
  unfold gr at h
  split at h
  · rename_i hs
    unfold fo
    rw [if_neg (by unfold isSmall; omega)]
    unfold isSmall
    omega
  · exact absurd rfl h

theorem good_fo (i : Nat) (r : Int) : good i (fo r) ↔ good i r := by
  unfold good
  rw [fo_fo]
  by_cases h : fo r = r
  · rw [h]
  · have := small_fo h
    exact ⟨fun _ => Or.inl this, fun _ => Or.inl this⟩
theorem good_gr (i : Nat) (r : Int) : good i (gr r) ↔ good i r := by
  unfold good
  rw [fo_gr]
  by_cases h : gr r = r
  · rw [h]
  · have := small_gr h
    exact ⟨fun _ => Or.inl this, fun _ => Or.inl this⟩

theorem chk_map (f : Int → Int) (hf : ∀ i r, good i (f r) ↔ good i r) (L : List Int) : chk (L.map f) = chk L := by
  unfold chk
  have e : (∀ i (h : i < (L.map f).length), good i (L.map f)[i]) ↔ (∀ i (h : i < L.length), good i L[i]) := by
    constructor
    · intro h i hi
      have := h i (by simpa using hi)
      rw [List.getElem_map, hf] at this
      exact this
    · intro h i hi
      rw [List.getElem_map, hf]
      exact h i (by simpa using hi)
  have e2 : ((∀ i (h : i < (L.map f).length), good i (L.map f)[i]) ∧ 1 ≤ (L.map f).length ∧ (L.map f).length ≤ 16) ↔ ((∀ i (h : i < L.length), good i L[i]) ∧ 1 ≤ L.length ∧ L.length ≤ 16) := by
    rw [e, List.length_map]
  by_cases h : (∀ i (h : i < L.length), good i L[i]) ∧ 1 ≤ L.length ∧ L.length ≤ 16
  · rw [if_pos h, if_pos (e2.2 h)]
  · rw [if_neg h, if_neg (fun h' => h (e2.1 h'))]

theorem rn_fold (s : ByteArray) : rn (foldS s) = (rn s).map fo := rn_enc _ (map_vld (rn_vld s))
theorem rn_great (s : ByteArray) : rn (greatS s) = (rn s).map gr := rn_enc _ (fun r hr => by
  obtain ⟨x, hx, rfl⟩ := List.mem_map.1 hr
  exact gr_vld (rn_vld s x hx))
theorem fold_fold (s : ByteArray) : foldS (foldS s) = foldS s := by
  rw [foldS, rn_fold, List.map_map, foldS]
  have : fo ∘ fo = fo := funext fo_fo
  rw [this]
theorem fold_great (s : ByteArray) : foldS (greatS s) = foldS s := by
  rw [foldS, rn_great, List.map_map, foldS]
  have : fo ∘ gr = fo := funext fo_gr
  rw [this]
theorem enc_size (L : List Int) : (⟨(enc L).toArray⟩ : ByteArray).size ≤ 4 * L.length := by
  have := enc_len L
  simpa [ByteArray.size] using this
theorem fold_size (s : ByteArray) : (foldS s).size ≤ 4 * s.size := by
  have h1 := enc_size ((rn s).map fo)
  have h2 := rn_len s
  rw [List.length_map] at h1
  unfold foldS
  omega
theorem great_size (s : ByteArray) : (greatS s).size ≤ 4 * s.size := by
  have h1 := enc_size ((rn s).map gr)
  have h2 := rn_len s
  rw [List.length_map] at h1
  unfold greatS
  omega

theorem one1 (a : Int) : ∀ u ∈ [Value.int .i32 a], u.oneCell' = true := by
  intro u hu
  simp at hu
  subst hu
  rfl

set_option maxHeartbeats 40000000 in
set_option maxRecDepth 1000000 in
theorem great_any (s : ByteArray) (w : World) (hs : s.size ≤ 17592186044416) :
    Calls Try.prog 23 #[.string s] w fun e w' => e = .returned (.string (greatS s)) ∧ Fr0 w w' := by
  obtain ⟨i0, hi, hz0, hz1, hz2⟩ := info_parts info21
  have HZ := hid (show Try.prog.info? 21 = some i0 ∧ i0.zero = some (.int .i32 0) ∧ i0.size = 1 ∧ i0.bytes = 4 from ⟨hi, hz0, hz1, hz2⟩)
  clear hz0 hz1 hz2 hi
  go_enter Try.func23, Try.ntmps23
  go_wp2
  go_loopw [3] (fun v wr => ∃ (pos fuel : Nat) (acc : List Int), wr.heap[w.heap.size]? = some (.stringIter s pos) ∧ Hid (Fr0 w wr) ∧ Hid (OwnR wr (w.heap.size + 1) v (acc.map gr)) ∧ Hid (At s pos fuel acc))
    (fun _ wr => s.size - wr.iterPos w.heap.size)
  case atStart =>
    refine ⟨0, s.size, [], ?_, hid (fr0_alloc _ _), hid (World.ownsRow_nil _ _ _ _), hid (At.start s)⟩
    have := World.iter_heap w s 0
    simpa using this
  case round =>
    obtain ⟨pos, fuel, acc, hit, hF, hO, hA⟩ := hrel
    have hsz : w.heap.size < wr.heap.size := (Array.getElem?_eq_some_iff.1 hit).1
    have hal := hA.out.pos
    by_cases hp : pos < s.size
    · have hnx : ∀ ty, (Instr.next (.pointer (some ⟨w.heap.size, 0, none⟩)) true ty).run Try.prog wr = _ := fun ty => Lib.run_next_any_at wr w.heap.size s pos ty hit hp
      have hwd := Fy_width s pos hp
      have hit2 := Lib.iterAt_heap wr w.heap.size s pos (pos + (Utf8.decode s pos).2) hit
      have hF2 : Hid (Fr0 w (wr.iterAt w.heap.size s (pos + (Utf8.decode s pos).2))) := hid (Fr.of_below (Lib.below_iterAt hF.out.toBelow (k := w.heap.size) (Nat.le_refl _) s (pos + (Utf8.decode s pos).2)))
      have hO2 := hid (ownR_iter hO.out hit (pos + (Utf8.decode s pos).2))
      have hsz2 : w.heap.size + 1 ≤ (wr.iterAt w.heap.size s (pos + (Utf8.decode s pos).2)).heap.size := by rw [Lib.iterAt_size]; omega
      have hml : (acc.map gr).length = acc.length := List.length_map _
      have hvl := At.here s pos
      unfold Vld at hvl
      obtain ⟨f, rfl, hA2⟩ := hA.out.step hp
      have HA2 := hid hA2
      clear hA2 hA hO hF
      obtain ⟨r, hr⟩ : ∃ r, r = ((Utf8.decode s pos).1 : Int) := ⟨_, rfl⟩
      rw [← hr] at hnx HA2 hvl
      clear hr
      have hcs : r < 97 ∨ (97 ≤ r ∧ r ≤ 122) ∨ (123 ≤ r ∧ r ≤ 223) ∨ (224 ≤ r ∧ r ≤ 246) ∨ (247 ≤ r ∧ r ≤ 944) ∨ (945 ≤ r ∧ r ≤ 961) ∨ 962 ≤ r := by omega
      rcases hcs with h1 | ⟨h1, h2⟩ | ⟨h1, h2⟩ | ⟨h1, h2⟩ | ⟨h1, h2⟩ | ⟨h1, h2⟩ | h1
      · have HQ : Hid (gr r = r) := hid (by unfold gr; rw [if_neg (by omega)])
        go_wp2_with (at_builtin; refine wpList_append_own _ rfl _ _ 36 rfl (w.heap.size + 1) 21 i0 (.int .i32 0) 1 4 Try.underlying36 HZ.out.1 HZ.out.2.1 HZ.out.2.2.1 HZ.out.2.2.2 rfl (by decide) _ _ _ rfl (hO2.out.alloc _) ⟨_, 0, none⟩ 1 1 [.int .i32 r] rfl rfl (cells_new1 _ _ _) (one1 _) (by rw [hml]; simp only [maxLen]; omega) (by rw [hml]; omega) (by simp; omega) ?_; intro v' w3 hown' hg _; have hS := hid (ownR_snoc hown'); have hF3 := hid (grown_fr hO2.out (Nat.le_succ _) hF2.out hg); have hit3 := iter_grown hO2.out hit2 hg; clear hown' hg hO2)
        go_roundw
        case rel => exact ⟨_, f, _, hit3, hF3, hid (by rw [List.map_append]; simp only [List.map_cons, List.map_nil]; rw [HQ.out]; exact hS.out), HA2⟩
        case measure =>
          simp only [World.iterPos, hit3, hit]
          omega
      · have HQ : Hid (gr r = (r - 32)) := hid (by unfold gr; rw [if_pos (by omega)])
        go_wp2_with (at_builtin; refine wpList_append_own _ rfl _ _ 36 rfl (w.heap.size + 1) 21 i0 (.int .i32 0) 1 4 Try.underlying36 HZ.out.1 HZ.out.2.1 HZ.out.2.2.1 HZ.out.2.2.2 rfl (by decide) _ _ _ rfl (hO2.out.alloc _) ⟨_, 0, none⟩ 1 1 [.int .i32 (r - 32)] rfl rfl (cells_new1 _ _ _) (one1 _) (by rw [hml]; simp only [maxLen]; omega) (by rw [hml]; omega) (by simp; omega) ?_; intro v' w3 hown' hg _; have hS := hid (ownR_snoc hown'); have hF3 := hid (grown_fr hO2.out (Nat.le_succ _) hF2.out hg); have hit3 := iter_grown hO2.out hit2 hg; clear hown' hg hO2)
        go_roundw
        case rel => exact ⟨_, f, _, hit3, hF3, hid (by rw [List.map_append]; simp only [List.map_cons, List.map_nil]; rw [HQ.out]; exact hS.out), HA2⟩
        case measure =>
          simp only [World.iterPos, hit3, hit]
          omega
      · have HQ : Hid (gr r = r) := hid (by unfold gr; rw [if_neg (by omega)])
        go_wp2_with (at_builtin; refine wpList_append_own _ rfl _ _ 36 rfl (w.heap.size + 1) 21 i0 (.int .i32 0) 1 4 Try.underlying36 HZ.out.1 HZ.out.2.1 HZ.out.2.2.1 HZ.out.2.2.2 rfl (by decide) _ _ _ rfl (hO2.out.alloc _) ⟨_, 0, none⟩ 1 1 [.int .i32 r] rfl rfl (cells_new1 _ _ _) (one1 _) (by rw [hml]; simp only [maxLen]; omega) (by rw [hml]; omega) (by simp; omega) ?_; intro v' w3 hown' hg _; have hS := hid (ownR_snoc hown'); have hF3 := hid (grown_fr hO2.out (Nat.le_succ _) hF2.out hg); have hit3 := iter_grown hO2.out hit2 hg; clear hown' hg hO2)
        go_roundw
        case rel => exact ⟨_, f, _, hit3, hF3, hid (by rw [List.map_append]; simp only [List.map_cons, List.map_nil]; rw [HQ.out]; exact hS.out), HA2⟩
        case measure =>
          simp only [World.iterPos, hit3, hit]
          omega
      · have HQ : Hid (gr r = (r - 32)) := hid (by unfold gr; rw [if_pos (by omega)])
        go_wp2_with (at_builtin; refine wpList_append_own _ rfl _ _ 36 rfl (w.heap.size + 1) 21 i0 (.int .i32 0) 1 4 Try.underlying36 HZ.out.1 HZ.out.2.1 HZ.out.2.2.1 HZ.out.2.2.2 rfl (by decide) _ _ _ rfl (hO2.out.alloc _) ⟨_, 0, none⟩ 1 1 [.int .i32 (r - 32)] rfl rfl (cells_new1 _ _ _) (one1 _) (by rw [hml]; simp only [maxLen]; omega) (by rw [hml]; omega) (by simp; omega) ?_; intro v' w3 hown' hg _; have hS := hid (ownR_snoc hown'); have hF3 := hid (grown_fr hO2.out (Nat.le_succ _) hF2.out hg); have hit3 := iter_grown hO2.out hit2 hg; clear hown' hg hO2)
        go_roundw
        case rel => exact ⟨_, f, _, hit3, hF3, hid (by rw [List.map_append]; simp only [List.map_cons, List.map_nil]; rw [HQ.out]; exact hS.out), HA2⟩
        case measure =>
          simp only [World.iterPos, hit3, hit]
          omega
      · have HQ : Hid (gr r = r) := hid (by unfold gr; rw [if_neg (by omega)])
        go_wp2_with (at_builtin; refine wpList_append_own _ rfl _ _ 36 rfl (w.heap.size + 1) 21 i0 (.int .i32 0) 1 4 Try.underlying36 HZ.out.1 HZ.out.2.1 HZ.out.2.2.1 HZ.out.2.2.2 rfl (by decide) _ _ _ rfl (hO2.out.alloc _) ⟨_, 0, none⟩ 1 1 [.int .i32 r] rfl rfl (cells_new1 _ _ _) (one1 _) (by rw [hml]; simp only [maxLen]; omega) (by rw [hml]; omega) (by simp; omega) ?_; intro v' w3 hown' hg _; have hS := hid (ownR_snoc hown'); have hF3 := hid (grown_fr hO2.out (Nat.le_succ _) hF2.out hg); have hit3 := iter_grown hO2.out hit2 hg; clear hown' hg hO2)
        go_roundw
        case rel => exact ⟨_, f, _, hit3, hF3, hid (by rw [List.map_append]; simp only [List.map_cons, List.map_nil]; rw [HQ.out]; exact hS.out), HA2⟩
        case measure =>
          simp only [World.iterPos, hit3, hit]
          omega
      · have HQ : Hid (gr r = (r - 32)) := hid (by unfold gr; rw [if_pos (by omega)])
        go_wp2_with (at_builtin; refine wpList_append_own _ rfl _ _ 36 rfl (w.heap.size + 1) 21 i0 (.int .i32 0) 1 4 Try.underlying36 HZ.out.1 HZ.out.2.1 HZ.out.2.2.1 HZ.out.2.2.2 rfl (by decide) _ _ _ rfl (hO2.out.alloc _) ⟨_, 0, none⟩ 1 1 [.int .i32 (r - 32)] rfl rfl (cells_new1 _ _ _) (one1 _) (by rw [hml]; simp only [maxLen]; omega) (by rw [hml]; omega) (by simp; omega) ?_; intro v' w3 hown' hg _; have hS := hid (ownR_snoc hown'); have hF3 := hid (grown_fr hO2.out (Nat.le_succ _) hF2.out hg); have hit3 := iter_grown hO2.out hit2 hg; clear hown' hg hO2)
        go_roundw
        case rel => exact ⟨_, f, _, hit3, hF3, hid (by rw [List.map_append]; simp only [List.map_cons, List.map_nil]; rw [HQ.out]; exact hS.out), HA2⟩
        case measure =>
          simp only [World.iterPos, hit3, hit]
          omega
      · have HQ : Hid (gr r = r) := hid (by unfold gr; rw [if_neg (by omega)])
        go_wp2_with (at_builtin; refine wpList_append_own _ rfl _ _ 36 rfl (w.heap.size + 1) 21 i0 (.int .i32 0) 1 4 Try.underlying36 HZ.out.1 HZ.out.2.1 HZ.out.2.2.1 HZ.out.2.2.2 rfl (by decide) _ _ _ rfl (hO2.out.alloc _) ⟨_, 0, none⟩ 1 1 [.int .i32 r] rfl rfl (cells_new1 _ _ _) (one1 _) (by rw [hml]; simp only [maxLen]; omega) (by rw [hml]; omega) (by simp; omega) ?_; intro v' w3 hown' hg _; have hS := hid (ownR_snoc hown'); have hF3 := hid (grown_fr hO2.out (Nat.le_succ _) hF2.out hg); have hit3 := iter_grown hO2.out hit2 hg; clear hown' hg hO2)
        go_roundw
        case rel => exact ⟨_, f, _, hit3, hF3, hid (by rw [List.map_append]; simp only [List.map_cons, List.map_nil]; rw [HQ.out]; exact hS.out), HA2⟩
        case measure =>
          simp only [World.iterPos, hit3, hit]
          omega
    · have hnx : ∀ ty, (Instr.next (.pointer (some ⟨w.heap.size, 0, none⟩)) true ty).run Try.prog wr = _ := fun ty => Lib.run_next_end_at wr w.heap.size s pos ty hit hp
      have hE := hA.out.done hp
      have hO' := hO.out
      rw [hE] at hO'
      obtain ⟨a, g, cap, hveq, _⟩ := hO'.form
      subst hveq
      have hcv := convert_own hO' rfl (fun r hr => by
        obtain ⟨x, hx, rfl⟩ := List.mem_map.1 hr
        exact gr_vld (rn_vld s x hx)) ((rn s).map gr).length (Nat.le_refl _) cap
      rw [List.take_length, List.length_map] at hcv
      clear hA hO hE hO'
      go_wp2
      go_ret
      exact ⟨by rfl, hF.out⟩
end Go.Proofs.Ythbcbnihghmniaa

/-
  OrderPlays, walked.
-/
import Derived.Test.YtjaabbjobnfmmaaGLaw
namespace Go.Proofs.Ytjaabbjobnfmmaa
open Go.RowKit

/-- What Line answers, in three ways. -/
theorem lineR_ways (S : List Sp) : (chk S = 0 ∧ lineM S = none ∧ lineR S = (270, [])) ∨ (chk S ≠ 0 ∧ lineR S = (chk S, [])) ∨ ∃ o, chk S = 0 ∧ lineM S = some o ∧ IsOrd S o ∧ lineR S = (0, o) := by
  by_cases hc : chk S = 0
  · cases hl : lineM S with
    | none => exact .inl ⟨hc, rfl, by unfold lineR; rw [if_pos hc, hl]⟩
    | some o => exact .inr (.inr ⟨o, hc, rfl, line_sound hc hl, by unfold lineR; rw [if_pos hc, hl]⟩)
  · exact .inr (.inl ⟨hc, by unfold lineR; rw [if_neg hc]⟩)
theorem IsOrd.holds {S : List Sp} {o : List Nat} (hc : chk S = 0) (h : IsOrd S o) : holdsM S (ints o) = true := (holdsM_iff S _).2 ⟨hc, o, rfl, h⟩
theorem IsOrd.plays {S : List Sp} {o : List Nat} (h : IsOrd S o) : (hplay [] 0 (dds (spOf S) o)).2 = 0 := (hplay_ok _ _ _).2 h.play
theorem chk_ne {S : List Sp} (h : chk S ≠ 0) : chk S = 5 ∨ chk S = 2 := by
  unfold chk at *
  split at h
  · next h1 => rw [if_pos h1]; exact .inl rfl
  · next h1 =>
    rw [if_neg h1]
    split at h
    · exact absurd rfl h
    · next h2 => rw [if_neg h2]; exact .inr rfl

/-- How the loop stands: the deeds of the first k calls of the order o are collected. -/
structure DdRel (w1 wr : World) (S : List Sp) (o : List Nat) (v : Value) (k : Nat) : Prop where
  le : k ≤ o.length
  own : OwnD wr w1.heap.size v (dds (spOf S) (o.take k))
  fr : Fr0 w1 wr
section
variable {w1 wr w' : World} {S : List Sp} {o : List Nat} {v : Value} {k : Nat}
theorem dds_take (s : Nat → Sp) (o : List Nat) (k : Nat) (hk : k < o.length) : dds s (o.take (k + 1)) = dds s (o.take k) ++ [(s o[k]).d] := by
  rw [take_snoc' o k hk, dds_append]; rfl
theorem dds_len {s : Nat → Sp} {o : List Nat} {k : Nat} (hk : k ≤ o.length) : (dds s (o.take k)).length = k := by
  unfold dds; rw [List.length_map, List.length_take]; omega
theorem DdRel.snoc (h : DdRel w1 wr S o v k) (hk : k < o.length) {v' : Value} {ob : Obj}
    (hown : w'.ownsRow w1.heap.size 32 4 v' (k + 1) (flat Dd.enc (dds (spOf S) (o.take k)) ++ (spOf S o[k]).d.enc)) (hg : (wr.alloc ob).grownBy w' v.ownBlock) : DdRel w1 w' S o v' (k + 1) := by
  have hb : ∀ i, some i = v.ownBlock → w1.heap.size ≤ i := fun i e => (h.own.lt i e.symm).1
  have hf : Fr (fun i => some i = v.ownBlock) wr w' := (fr0_alloc wr ob |>.mono (fun _ _ h => h.elim)).grown hg (fun _ _ h => h)
  refine ⟨by omega, ?_, h.fr.trans hf (fun i hi e => by have := hb i e; omega)⟩
  rw [dds_take _ o k hk]
  exact ownD_snoc (by rw [dds_len h.le]; exact hown)
end

set_option maxRecDepth 100000 in
set_option maxHeartbeats 8000000 in
theorem orderPlays_walk (a : Option Addr) (b off cap : Nat) (S : List Sp) (w : World) (h : SpansIn w a b off S) :
    Calls Try.prog 11 #[.slice a S.length cap] w fun e w' => e = .returned (.bool true) ∧ Fr0 w w' := by
  obtain ⟨i0, hi, hz0, hz1, hz2⟩ := info_parts info32
  have HZ := hid (show Try.prog.info? 32 = some i0 ∧ i0.zero = some (.agg #[.int .i64 0, .int .i64 0, .int .i64 0, .int .i64 0]) ∧ i0.size = 4 ∧ i0.bytes = 32 from ⟨hi, hz0, hz1, hz2⟩)
  have HL := lineR_any a b off cap S w h
  have H := hid h
  have hsm := h.small
  clear h hi hz0 hz1 hz2
  rcases lineR_ways S with ⟨hc, hl, hr⟩ | ⟨hc, hr⟩ | ⟨o, hc, hl, ho, hr⟩
  · rw [hr] at HL
    clear hc hl hr
    go_enter Try.func11, Try.ntmps11
    go_wp2_with fail
    refine HL.mono ?_
    rintro e w1 ⟨⟨v, rfl, hv⟩, hf1⟩
    obtain ⟨a1, g1, cap1, rfl, hn1⟩ := hv.nums (by simp)
    have HF := hid hf1
    clear hv hf1 hn1 HL
    simp only [List.length_nil]
    go_wp2_with fail
    refine (works28_any _).mono ?_
    rintro e w2 ⟨rfl, hf2⟩
    go_wp2
    go_ret
    exact ⟨rfl, HF.out.trans0 hf2⟩
  · rw [hr] at HL
    have hcb : (chk S != 0) = true := by simp [hc]
    have hcb2 : (chk S == 270) = false := by rcases chk_ne hc with e | e <;> simp [e]
    clear hc hr
    have HC := fun W (hW : Fr0 w W) => check_any a b off cap S W (H.out.fr0 hW)
    generalize chk S = c at HL hcb hcb2 HC
    have hcc : (c == c) = true := by simp
    go_enter Try.func11, Try.ntmps11
    go_wp2_with fail
    refine HL.mono ?_
    rintro e w1 ⟨⟨v, rfl, hv⟩, hf1⟩
    obtain ⟨a1, g1, cap1, rfl, hn1⟩ := hv.nums (by simp)
    have HF := hid hf1
    have HC := hid (HC w1 hf1)
    clear hv hf1 hn1 HL
    simp only [List.length_nil]
    go_wp2_with fail
    refine HC.out.mono ?_
    rintro e w2 ⟨rfl, hf2⟩
    have HF := hid (HF.out.trans0 hf2)
    clear hf2
    go_wp2_with fail
    refine (works28_any _).mono ?_
    rintro e w3 ⟨rfl, hf3⟩
    go_wp2
    go_ret
    exact ⟨rfl, HF.out.trans0 hf3⟩
  · rw [hr] at HL
    have hol := ho.good.len
    have hol2 := (chk_may hc).1
    have hol3 : o.length ≤ 256 := by omega
    have HO := hid ho
    have HHM := hid (ho.holds hc)
    have HPL := hid ho.plays
    clear hc hl hr ho hol hol2
    go_enter Try.func11, Try.ntmps11
    go_wp2_with fail
    refine HL.mono ?_
    rintro e w1 ⟨⟨v, rfl, hv⟩, hf1⟩
    obtain ⟨a1, g1, cap1, rfl, hn1⟩ := hv.nums (by show o.length ≤ 1000; omega)
    have HF := hid hf1
    have HN : Hid (NumsIn w1 a1 g1 0 (ints o)) := hid hn1
    have HS := hid (H.out.fr0 hf1)
    clear hv hf1 hn1 HL
    simp only
    go_wp2_with fail
    go_loopw [5, 6] (fun v i wr => ∃ k : Nat, i = .int .i64 k ∧ Hid (DdRel w1 wr S o v k)) (fun _ i _ => o.length - (intOf i).toNat)
    case atStart => exact ⟨0, rfl, hid ⟨Nat.zero_le _, (World.ownsRow_nil _ _ _ _ : OwnD _ _ _ []), Fr.refl _ _⟩⟩
    case round =>
      obtain ⟨k, rfl, hR⟩ := hrel
      have hk := hR.out.le
      by_cases hlt : k < o.length
      · have HNr := hid (HN.out.fr0 hR.out.fr)
        have HSr := hid (HS.out.fr0 hR.out.fr)
        have hli : k < (ints o).length := by simpa [ints] using hlt
        have i1 := fun W => HNr.out.index cap1 k hli W
        rw [show (ints o).length = o.length by simp [ints]] at i1
        have d0 := HNr.out.cells k hli
        rw [Nat.zero_add] at d0
        rw [show (ints o)[k] = ((o[k] : Nat) : Int) by simp [ints]] at d0
        have hxn := HO.out.good.2 _ (List.getElem_mem hlt)
        have HSN := hid (fun v' w' ob hown hg => hR.out.snoc (v' := v') (w' := w') (ob := ob) hlt hown hg)
        have hlen := hid (dds_len (s := spOf S) hk)
        generalize o[k] = x at d0 hxn HSN
        have i2 := fun W => HSr.out.index cap x hxn W
        obtain ⟨c0, c1, c2, c3, -, -⟩ := HSr.out.at x hxn
        rw [← spOf_get hxn] at c0 c1 c2 c3
        have hb0 : decide ((x : Int) < 0) = false := by simp
        have hb1 : decide (S.length ≤ x) = false := by simp; omega
        have hown := hid hR.out.own
        have hfr := hid hR.out.fr
        clear hR
        go_wp2_with (at_builtin; refine wpList_append_own _ rfl _ _ 22 rfl w1.heap.size 32 i0 (.agg #[.int .i64 0, .int .i64 0, .int .i64 0, .int .i64 0]) 4 32 Try.underlying22 HZ.out.1 HZ.out.2.1 HZ.out.2.2.1 HZ.out.2.2.2 rfl (by decide) _ _ _ rfl (hown.out.alloc _) ⟨wr.heap.size, 0, none⟩ 1 1 (spOf S x).d.enc rfl rfl ?c1 ?c2 ?c3 ?c4 ?c5 ?_)
        case c1 => exact cells_new4 _ _ _ _ _ _
        case c2 => exact enc4_one _
        case c3 => rw [hlen.out]; simp only [maxLen]; omega
        case c4 => rw [hlen.out]; omega
        case c5 => have := hfr.out.size; simp at this ⊢; omega
        intro v' w3 hown' hg _
        rw [hlen.out] at hown'
        have hS := hid (HSN.out _ _ _ hown' hg)
        clear hown' hg hown c0 c1 c2 c3
        go_wp2
        go_roundw
        case rel => exact ⟨k + 1, by go_num, hS⟩
        case measure => simp [intOf]; omega
      · have hkl : o.take k = o := List.take_of_length_le (by omega)
        have how := hR.out.own
        rw [hkl] at how
        have HF2 := hid (HF.out.trans0 hR.out.fr)
        have HNr := hid (HN.out.fr0 hR.out.fr)
        have HSr := hid (HS.out.fr0 hR.out.fr)
        have hw : ∀ d ∈ dds (spOf S) o, d.wf := fun d hd => by
          obtain ⟨i, hi, rfl⟩ := List.mem_map.1 hd
          rw [spOf_get (HO.out.good.2 i hi)]
          exact (HS.out.wf _ (List.getElem_mem _)).1
        obtain ⟨a2, g2, cap2, rfl, hD⟩ := deedsIn_own how hw (by simp [dds]; omega)
        have hp := play_any a2 g2 0 cap2 _ _ hD
        rw [HPL.out] at hp
        clear how hw hD hkl hR
        generalize (hplay [] 0 (dds (spOf S) o)).1 = x1 at hp
        generalize (dds (spOf S) o).length = n1 at hp ⊢
        go_wp2_with fail
        refine hp.mono ?_
        rintro e w2 ⟨rfl, hf2⟩
        clear hp
        have HF3 := hid (HF2.out.trans0 hf2)
        have HH := hid (holds_any a b off cap S a1 g1 0 cap1 (ints o) w2 (HSr.out.fr0 hf2) (HNr.out.fr0 hf2))
        rw [show (ints o).length = o.length by simp [ints], HHM.out] at HH
        clear hf2
        go_wp2_with fail
        refine HH.out.mono ?_
        rintro e w4 ⟨rfl, hf4⟩
        have HF4 := hid (HF3.out.trans0 hf4)
        clear hf4
        go_wp2_with fail
        refine (works28_any _).mono ?_
        rintro e w5 ⟨rfl, hf5⟩
        go_wp2
        go_ret
        exact ⟨rfl, HF4.out.trans0 hf5⟩
end Go.Proofs.Ytjaabbjobnfmmaa

/-
  order.Holds, walked.
-/
import Derived.Test.YtjaabbjobnfmmaaNums
namespace Go.Proofs.Ytjaabbjobnfmmaa
open Go.RowKit
open Go.Maps (Keyed int_keyed keyOf_int_mk)

/-- A call of an order may stand where it stands. -/
def okB (S : List Sp) (x : Int) (ins : List Nat) (T : List Ob) (lat : Int) : Bool :=
  decide (0 ≤ x) && (decide (x < S.length) && (!decide (x.toNat ∈ ins) && (decide ((hdo T (spOf S x.toNat).d.k (spOf S x.toNat).d.x).1 = 0) && !(decide (0 ≤ (spOf S x.toNat).t) && decide ((spOf S x.toNat).t < lat)))))
/-- All that have ended are in. -/
def endsB (S : List Sp) (ins : List Nat) : Bool := (List.range S.length).all fun i => !(decide (0 ≤ (spOf S i).t) && !decide (i ∈ ins))
/-- What Holds answers from here on. -/
def holdsR (S : List Sp) : List Int → List Nat → List Ob → Int → Bool
  | [], ins, _, _ => endsB S ins
  | x :: o, ins, T, lat => okB S x ins T lat && holdsR S o (ins ++ [x.toNat]) (hdo T (spOf S x.toNat).d.k (spOf S x.toNat).d.x).2 (max lat (spOf S x.toNat).f)
def holdsM (S : List Sp) (o : List Int) : Bool := decide (chk S = 0) && holdsR S o [] [] (-1)

/-- Holds's memory. -/
structure HoldAt (w0 w : World) (mb hp hb : Nat) (ins : List Nat) (T : List Ob) : Prop where
  fr : Fr0 w0 w
  map : MapIs Try.prog 3 w mb (ins.map fun i : Nat => (Value.int .i64 i, Value.int .i64 1))
  heap : HeapIs w hp hb T
  bmb : w0.heap.size ≤ mb
  bhb : w0.heap.size ≤ hb
  bhp : w0.heap.size ≤ hp
  ne : hb ≠ mb

section
variable {w0 w w' : World} {mb hp hb : Nat} {ins : List Nat} {T T' : List Ob}
theorem law3 : Keyed Try.prog 3 := int_keyed Try.underlying3
theorem zero3 (w : World) : (zeroValue 3).run Try.prog w = .ok (.int .i64 0) w := by kernel_rfl
theorem wf_nat (i : Nat) (h : i ≤ 1000) : (Lit.int .i64 (i : Int)).wf = true :=
  WalkArith.wf_i64 (n := (i : Int)) ⟨by omega, by omega⟩
theorem HoldAt.fr0 (h : HoldAt w0 w mb hp hb ins T) (hf : Fr0 w w') : HoldAt w0 w' mb hp hb ins T :=
  ⟨h.fr.trans0 hf, h.map.block (hf.block mb h.map.lt id), h.heap.fr0 hf, h.bmb, h.bhb, h.bhp, h.ne⟩
theorem HoldAt.look (h : HoldAt w0 w mb hp hb ins T) (i : Nat) (hi : i ≤ 1000) : (Instr.lookup 92 (.map (some mb)) (.int .i64 i) false).run Try.prog w = .ok (.int .i64 (if i ∈ ins then 1 else 0)) w := by
  rcases h.map.look false law3 Try.underlying92 (zero3 w) (keyOf_int_mk Try.underlying3 (wf_nat i hi)) with ⟨hr, hno⟩ | ⟨v, hv, hr⟩
  · rw [if_neg (fun hm => hno _ (List.mem_map.2 ⟨i, hm, rfl⟩) rfl)]
    simpa using hr
  · obtain ⟨j, hj, he⟩ := List.mem_map.1 hv
    have h1 : (j : Int) = i := by simpa using (Prod.mk.inj he).1
    have h2 := (Prod.mk.inj he).2
    have : j = i := by omega
    subst this
    rw [if_pos hj]
    simpa [← h2] using hr
theorem HoldAt.deed (h : HoldAt w0 w mb hp hb ins T) (hf : Fr (· = hb) w w') (hT : HeapIs w' hp hb T') : HoldAt w0 w' mb hp hb ins T' :=
  ⟨h.fr.trans hf (fun i hi e => by have := h.bhb; subst e; omega), h.map.block (hf.block mb h.map.lt (fun e => h.ne e.symm)), hT, h.bmb, h.bhb, h.bhp, h.ne⟩
theorem HoldAt.put (h : HoldAt w0 w mb hp hb ins T) (i : Nat) (hi : i ≤ 1000) (hn : i ∉ ins) : ∃ w', (Instr.mapUpdate 92 (.map (some mb)) (.int .i64 i) (.int .i64 1)).run Try.prog w = .ok () w' ∧ HoldAt w0 w' mb hp hb (ins ++ [i]) T := by
  obtain ⟨w', hr, hm, ht⟩ := h.map.store_new law3 Try.underlying92 (keyOf_int_mk Try.underlying3 (wf_nat i hi)) (fun q hq hqi => by
    obtain ⟨j, hj, rfl⟩ := List.mem_map.1 hq
    have h1 : (j : Int) = i := by simpa using hqi
    have : j = i := by omega
    subst this
    exact hn hj) (.int .i64 1)
  have hf : Fr (fun i => i = mb) w w' := (Fr.refl (fun i => i = mb) w).turned ht (fun _ => rfl)
  obtain ⟨es, c, hme, _⟩ := id h.map
  refine ⟨w', hr, h.fr.trans hf (fun i hi e => by have := h.bmb; omega), by simpa using hm, h.heap.fr hf (fun e => ?_) h.ne, h.bmb, h.bhb, h.bhp, h.ne⟩
  have := h.heap.1
  rw [e, hme] at this; simp at this
end

theorem max_if (a b : Int) : (if a ≤ b then b else a) = max a b := by omega
theorem endsB_split (S : List Sp) (ins : List Nat) : endsB S ins = true ↔ ∀ i, i < S.length → 0 ≤ (spOf S i).t → i ∈ ins := by
  unfold endsB
  rw [List.all_eq_true]
  constructor
  · intro h i hi ht
    have := h i (List.mem_range.2 hi)
    simpa [ht] using this
  · intro h i hi
    by_cases ht : 0 ≤ (spOf S i).t
    · simp [ht, h i (List.mem_range.1 hi) ht]
    · simp [ht]

set_option maxRecDepth 100000 in
set_option maxHeartbeats 40000000 in
theorem holds_any (a : Option Addr) (b off cap : Nat) (S : List Sp) (a2 : Option Addr) (b2 off2 cap2 : Nat) (o : List Int) (w : World) (h : SpansIn w a b off S) (h2 : NumsIn w a2 b2 off2 o) :
    Calls Try.prog 32 #[.slice a S.length cap, .slice a2 o.length cap2] w fun e w' => e = .returned (.bool (holdsM S o)) ∧ Fr0 w w' := by
  have HC := check_any a b off cap S w h
  have H := hid (And.intro h h2)
  by_cases hch : chk S = 0
  · have HM : Hid (holdsM S o = holdsR S o [] [] (-1)) := hid (by simp [holdsM, hch])
    have hln : Hid (S.length ≤ 256) := hid (chk_may hch).1
    have ho := h2.small
    rw [hch] at HC
    have hmm := @run_makeMap Try.prog
    clear hch h h2
    go_enter Try.func32, Try.ntmps32
    go_wp2_with fail
    refine HC.mono ?_
    rintro e w1 ⟨rfl, hf1⟩
    have HF1 := hid hf1
    clear hf1 HC
    go_wp2_with fail
    refine (new_any _).mono ?_
    rintro e w2 ⟨rfl, hf2, hh2⟩
    have HH : Hid (HoldAt w w2 w1.heap.size ((w1.alloc (.map #[] 0)).heap.size + 1) (w1.alloc (.map #[] 0)).heap.size [] []) := hid (by
      have hsz : (w1.alloc (.map #[] 0)).heap.size = w1.heap.size + 1 := by simp
      have hm : MapIs Try.prog 3 w2 w1.heap.size [] := (MapIs.made w1 Try.prog 3).block (hf2.block _ (by simp) id)
      have hs := HF1.out.size
      exact ⟨(HF1.out.alloc _).trans0 hf2, hm, by simpa using hh2, hs, by omega, by omega, by omega⟩)
    clear hf2 hh2 hmm HF1
    generalize (w1.alloc (.map #[] 0)).heap.size + 1 = hp at HH ⊢
    generalize (w1.alloc (.map #[] 0)).heap.size = hb at HH ⊢
    generalize w1.heap.size = mb at HH ⊢
    go_wp2_with fail
    go_loopw [19, 7] (fun i t7 wr => ∃ (k : Nat) (lat : Int), i = .int .i64 k ∧ t7 = .int .i64 lat ∧ k ≤ o.length ∧ Hid (∃ ins T, HoldAt w wr mb hp hb ins T ∧ (∀ i ∈ ins, i < S.length) ∧ holdsR S o [] [] (-1) = holdsR S (o.drop k) ins T lat)) (fun i _ _ => o.length - (intOf i).toNat)
    case atStart => exact ⟨0, -1, rfl, rfl, Nat.zero_le _, hid ⟨[], [], HH.out, by simp, rfl⟩⟩
    case round =>
      obtain ⟨k, lat, rfl, rfl, hk, hR⟩ := hrel
      clear HH
      obtain ⟨ins, T, hA, hin, hE⟩ := hR.out
      have HA := hid (And.intro hA (And.intro hin hE))
      clear hA hin hE hR
      by_cases hlt : k < o.length
      · have i1 := fun W => (H.out.2).index cap2 k hlt W
        have c1 := ((H.out.2).fr0 HA.out.1.fr).cells k hlt
        have HDR := hid (show holdsR S (o.drop k) ins T lat = _ from by rw [List.drop_eq_getElem_cons hlt, holdsR])
        generalize o[k] = x at c1 HDR
        have stop : Hid (okB S x ins T lat = false → holdsM S o = false) := hid (fun h => by rw [HM.out, HA.out.2.2, HDR.out, h]; rfl)
        by_cases hx0 : x < 0
        · have hb0 : decide (x < 0) = true := by simp [hx0]
          have HS := hid (stop.out (by simp only [okB, show decide (0 ≤ x) = false by simp; omega, Bool.false_and]))
          clear hx0
          go_wp2
          go_ret
          exact ⟨by rw [HS.out]; rfl, HA.out.1.fr⟩
        · have hb0 : decide (x < 0) = false := by simp; omega
          obtain ⟨i, rfl⟩ : ∃ i : Nat, x = (i : Int) := ⟨x.toNat, by omega⟩
          clear hx0
          by_cases hxn : i < S.length
          · have hb1 : decide (S.length ≤ i) = false := by simp; omega
            have i2 := fun W => H.out.1.index cap i hxn W
            have hlk := HA.out.1.look i (by have := hln.out; omega)
            have HXN := hid hxn
            by_cases hmem : i ∈ ins
            · rw [if_pos hmem] at hlk
              have HS := hid (stop.out (by simp [okB, hmem]))
              clear hmem hxn
              go_wp2
              go_ret
              exact ⟨by rw [HS.out]; rfl, HA.out.1.fr⟩
            · rw [if_neg hmem] at hlk
              have HMM := hid hmem
              clear hmem hxn
              have HSi := hid (spOf_get HXN.out)
              obtain ⟨c0, c1', c2, c3, c4, c5⟩ := (H.out.1.fr0 HA.out.1.fr).at i HXN.out
              rw [← HSi.out] at c0 c1' c2 c3 c4 c5
              have hwf : Hid (spOf S i).wf := hid (by rw [HSi.out]; exact H.out.1.wf _ (List.getElem_mem HXN.out))
              have HDo : Hid (Calls Try.prog 22 #[.pointer (some ⟨hp, 0, none⟩), .agg #[.int .i64 (spOf S i).d.k, .int .i64 (spOf S i).d.x.c, .int .i64 (spOf S i).d.x.s, .int .i64 (spOf S i).d.x.o]] wr fun e w' => e = .returned (.int .i64 (hdo T (spOf S i).d.k (spOf S i).d.x).1) ∧ HoldAt w w' mb hp hb ins (hdo T (spOf S i).d.k (spOf S i).d.x).2) :=
                hid ((do_any hp hb T (spOf S i).d.x hwf.out.1.2 (spOf S i).d.k wr HA.out.1.heap).mono fun e w' ⟨he, hf, hh⟩ => ⟨he, HA.out.1.deed hf hh⟩)
              go_wp2_with fail
              refine HDo.out.mono ?_
              rintro e w3 ⟨rfl, hA3⟩
              have HA3 := hid hA3
              clear hA3 HDo c0 c1' c2 c3 c4 c5
              obtain ⟨-, -, -, -, d4, d5⟩ := (H.out.1.fr0 HA3.out.fr).at i HXN.out
              rw [← HSi.out] at d4 d5
              by_cases hcode : (hdo T (spOf S i).d.k (spOf S i).d.x).1 = 0
              · have hcb : ((hdo T (spOf S i).d.k (spOf S i).d.x).1 != 0) = false := by simp [hcode]
                have HCD := hid hcode
                clear hcode
                by_cases ht : 0 ≤ (spOf S i).t
                · have htb : decide (0 ≤ (spOf S i).t) = true := by simp [ht]
                  by_cases htl : (spOf S i).t < lat
                  · have htlb : decide ((spOf S i).t < lat) = true := by simp [htl]
                    have HS := hid (stop.out (by simp [okB, ht, htl]))
                    clear ht htl
                    go_wp2
                    go_ret
                    exact ⟨by rw [HS.out]; rfl, HA3.out.fr⟩
                  · have htlb : decide ((spOf S i).t < lat) = false := by simp [htl]
                    have HTT : Hid ((spOf S i).t < 0 ∨ lat ≤ (spOf S i).t) := hid (by omega)
                    clear ht htl
                    obtain ⟨w4, hput, hA4⟩ := HA3.out.put i (by have := hln.out; have := HXN.out; omega) HMM.out
                    have HE := hid (show holdsR S o [] [] (-1) = holdsR S (o.drop (k + 1)) (ins ++ [i]) (hdo T (spOf S i).d.k (spOf S i).d.x).2 (max lat (spOf S i).f) from by
                      rw [HA.out.2.2, HDR.out, show okB S i ins T lat = true from by (have h1 := HXN.out; have h2 := HMM.out; have h3 := HCD.out; have h4 := HTT.out; simp [okB, h1, h2, h3]; omega)]; simp)
                    have HA4 := hid hA4
                    have HI4 : Hid (∀ j ∈ ins ++ [i], j < S.length) := hid (fun j hj => by
                      rcases List.mem_append.1 hj with hj | hj
                      · exact HA.out.2.1 j hj
                      · rw [List.mem_singleton.1 hj]; exact HXN.out)
                    have e4 := ((H.out.1.fr0 hA4.fr).at i HXN.out).2.2.2.2.1
                    rw [← HSi.out] at e4
                    clear hA4 d4
                    by_cases hle : lat ≤ (spOf S i).f
                    · go_wp2
                      go_roundw
                      case rel => exact ⟨k + 1, _, by go_num, rfl, by omega, hid ⟨_, _, HA4.out, HI4.out, by rw [HE.out]; congr 1; omega⟩⟩
                      case measure => simp [intOf]; omega
                    · go_wp2
                      go_roundw
                      case rel => exact ⟨k + 1, _, by go_num, rfl, by omega, hid ⟨_, _, HA4.out, HI4.out, by rw [HE.out]; congr 1; omega⟩⟩
                      case measure => simp [intOf]; omega
                · have htb : decide (0 ≤ (spOf S i).t) = false := by simp [ht]
                  have HTT : Hid ((spOf S i).t < 0 ∨ lat ≤ (spOf S i).t) := hid (by omega)
                  clear ht
                  obtain ⟨w4, hput, hA4⟩ := HA3.out.put i (by have := hln.out; have := HXN.out; omega) HMM.out
                  have HE := hid (show holdsR S o [] [] (-1) = holdsR S (o.drop (k + 1)) (ins ++ [i]) (hdo T (spOf S i).d.k (spOf S i).d.x).2 (max lat (spOf S i).f) from by
                    rw [HA.out.2.2, HDR.out, show okB S i ins T lat = true from by (have h1 := HXN.out; have h2 := HMM.out; have h3 := HCD.out; have h4 := HTT.out; simp [okB, h1, h2, h3]; omega)]; simp)
                  have HA4 := hid hA4
                  have HI4 : Hid (∀ j ∈ ins ++ [i], j < S.length) := hid (fun j hj => by
                    rcases List.mem_append.1 hj with hj | hj
                    · exact HA.out.2.1 j hj
                    · rw [List.mem_singleton.1 hj]; exact HXN.out)
                  have e4 := ((H.out.1.fr0 hA4.fr).at i HXN.out).2.2.2.2.1
                  rw [← HSi.out] at e4
                  clear hA4 d4
                  by_cases hle : lat ≤ (spOf S i).f
                  · go_wp2
                    go_roundw
                    case rel => exact ⟨k + 1, _, by go_num, rfl, by omega, hid ⟨_, _, HA4.out, HI4.out, by rw [HE.out]; congr 1; omega⟩⟩
                    case measure => simp [intOf]; omega
                  · go_wp2
                    go_roundw
                    case rel => exact ⟨k + 1, _, by go_num, rfl, by omega, hid ⟨_, _, HA4.out, HI4.out, by rw [HE.out]; congr 1; omega⟩⟩
                    case measure => simp [intOf]; omega
              · have hcb : ((hdo T (spOf S i).d.k (spOf S i).d.x).1 != 0) = true := by simp [hcode]
                have HS := hid (stop.out (by simp [okB, hcode]))
                clear hcode
                go_wp2
                go_ret
                exact ⟨by rw [HS.out]; rfl, HA3.out.fr⟩
          · have hb1 : decide (S.length ≤ i) = true := by simp; omega
            have HS := hid (stop.out (by simp only [okB, show decide ((i : Int) < S.length) = false by simp; omega, Bool.false_and, Bool.and_false]))
            clear hxn
            go_wp2
            go_ret
            exact ⟨by rw [HS.out]; rfl, HA.out.1.fr⟩
      · have hkl : k = o.length := by omega
        subst hkl
        have HE : Hid (holdsM S o = endsB S ins) := hid (by rw [HM.out, HA.out.2.2, List.drop_length]; rfl)
        go_wp2_with fail
        obtain ⟨wo, rfl⟩ : ∃ wo : World, wo = wr := ⟨_, rfl⟩
        go_loopw [76] (fun i wr => ∃ k : Nat, i = .int .i64 k ∧ k ≤ S.length ∧ Hid (HoldAt w wr mb hp hb ins T ∧ ∀ i, i < k → 0 ≤ (spOf S i).t → i ∈ ins)) (fun i _ => S.length - (intOf i).toNat)
        case atStart => exact ⟨0, rfl, Nat.zero_le _, hid ⟨HA.out.1, fun i hi => absurd hi (by omega)⟩⟩
        case round =>
          obtain ⟨i, rfl, hi, hR⟩ := hrel
          clear HA
          have hlS := hln.out
          by_cases hlt : i < S.length
          · have i2 := fun W => H.out.1.index cap i hlt W
            have hlk := fun o => (hR.out.1.fr0 (fr0_alloc wr o)).look i (by omega)
            have HXN := hid hlt
            have HSi := hid (spOf_get hlt)
            obtain ⟨c0, c1', c2, c3, c4, c5⟩ := (H.out.1.fr0 hR.out.1.fr).at i hlt
            rw [← HSi.out] at c0 c1' c2 c3 c4 c5
            by_cases ht : 0 ≤ (spOf S i).t
            · have htb : decide (0 ≤ (spOf S i).t) = true := by simp [ht]
              have HT := hid ht
              clear ht
              by_cases hmem : i ∈ ins
              · simp only [if_pos hmem] at hlk
                have HNX : Hid (∀ j, j < i + 1 → 0 ≤ (spOf S j).t → j ∈ ins) := hid (fun j hj hjt => by
                  by_cases e : j = i
                  · subst e; exact hmem
                  · exact hR.out.2 j (by omega) hjt)
                clear hmem
                go_wp2
                go_roundw
                case rel => exact ⟨i + 1, by go_num, by omega, hid ⟨hR.out.1.fr0 (fr0_alloc _ _), HNX.out⟩⟩
                case measure => simp [intOf]; omega
              · simp only [if_neg hmem] at hlk
                have HX : Hid (holdsM S o = false) := hid (by
                  rw [HE.out]
                  cases he : endsB S ins with
                  | false => rfl
                  | true => exact absurd ((endsB_split S ins).1 he i HXN.out HT.out) hmem)
                clear hmem
                go_wp2
                go_ret
                exact ⟨by rw [HX.out]; rfl, hR.out.1.fr.trans0 (fr0_alloc _ _)⟩
            · have htb : decide (0 ≤ (spOf S i).t) = false := by simp [ht]
              have HNX : Hid (∀ j, j < i + 1 → 0 ≤ (spOf S j).t → j ∈ ins) := hid (fun j hj hjt => by
                by_cases e : j = i
                · subst e; exact absurd hjt ht
                · exact hR.out.2 j (by omega) hjt)
              clear ht
              go_wp2
              go_roundw
              case rel => exact ⟨i + 1, by go_num, by omega, hid ⟨hR.out.1.fr0 (fr0_alloc _ _), HNX.out⟩⟩
              case measure => simp [intOf]; omega
          · have hkl : i = S.length := by omega
            subst hkl
            have HX : Hid (holdsM S o = true) := hid (by rw [HE.out]; exact (endsB_split S ins).2 hR.out.2)
            go_wp2
            go_ret
            exact ⟨by rw [HX.out]; rfl, hR.out.1.fr⟩
  · have hcb : (chk S != 0) = true := by simpa using hch
    have HM : Hid (holdsM S o = false) := hid (by simp [holdsM, hch])
    clear hch h h2
    generalize chk S = c at HC hcb
    go_enter Try.func32, Try.ntmps32
    go_wp2_with fail
    refine HC.mono ?_
    rintro e w1 ⟨rfl, hf1⟩
    clear HC
    go_wp2
    go_ret
    exact ⟨by rw [HM.out]; rfl, hf1⟩
end Go.Proofs.Ytjaabbjobnfmmaa

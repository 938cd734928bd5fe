/-
  CopyInts; the law's search: where it answers true there is an order.
-/
import Derived.Test.YtjaabbjobnfmmaaShkLaw
namespace Go.Proofs.Ytjaabbjobnfmmaa
open Go.RowKit

/-- The cells of numbers. -/
def iv (q : List Int) : List Value := q.map fun i : Int => Value.int .i64 i
theorem iv_len (q : List Int) : (iv q).length = q.length := by simp [iv]

set_option maxHeartbeats 1600000 in
theorem copyInts_any (a : Option Addr) (b off cap : Nat) (q : List Int) (hq : q.length ≤ 1000) (hn : a = none → cap = 0) (hc : q.length ≤ cap) (w : World) (h : NumsIn w a b off q) :
    Calls Try.prog 66 #[.slice a q.length cap] w fun e w' => ∃ v, e = .returned v ∧ w'.ownsRow w.heap.size 3 1 v q.length (iv q) ∧ Fr0 w w' := by
  obtain ⟨i3, hi3, hz30, hz31, hz32⟩ := info_parts info3
  have HZ3 := hid (show Try.prog.info? 3 = some i3 ∧ i3.zero = some (.int .i64 0) ∧ i3.size = 1 ∧ i3.bytes = 8 from ⟨hi3, hz30, hz31, hz32⟩)
  have HN := hid (And.intro h (And.intro hn (And.intro hc hq)))
  clear hi3 hz30 hz31 hz32 h hn hc hq
  go_enter Try.func66, Try.ntmps66
  go_wp2_with (at_builtin; refine append_own_any _ rfl (.tmp 4) (.tmp 5) 46 rfl w.heap.size 3 i3 (.int .i64 0) 1 8 Try.underlying46 HZ3.out.1 HZ3.out.2.1 HZ3.out.2.2.1 HZ3.out.2.2.2 rfl (by decide) _ 0 [] rfl (World.ownsRow_nil _ _ _ _) a q.length cap (iv q) rfl (by rw [iv_len, Nat.mul_one]) ?c1 ?c2 ?c3 ?c4 ?c5 ?c6 ?_)
  case c1 => intro ha; have h1 := HN.out.2.1 ha; have h2 := HN.out.2.2.1; first | exact ⟨by omega, h1⟩ | exact ⟨List.eq_nil_of_length_eq_zero (l := q) (by omega), h1⟩
  case c2 =>
    intro ad had j u hu
    have hj : j < q.length := by
      have := (List.getElem?_eq_some_iff.1 hu).1
      rwa [iv_len] at this
    have ha := HN.out.1.addr (by omega)
    rw [ha] at had
    cases had
    rw [Addr.add_lit, HN.out.1.cells j hj]
    rw [← hu]
    simp [iv, hj]
  case c3 => intro u hu; obtain ⟨i, _, rfl⟩ := List.mem_map.1 hu; rfl
  case c4 => have := HN.out.2.2.2; simp only [maxLen]; omega
  case c5 => have := HN.out.2.2.2; omega
  try (case c6 => exact Nat.le_refl _)
  intro v' w' hown hg
  have HE := hid (show w'.ownsRow w.heap.size 3 1 v' q.length (iv q) ∧ Fr0 w w' from ⟨by simpa using hown, (Fr.of_grown hg).mono (fun i hi e => by simp [Value.ownBlock] at e)⟩)
  clear hown hg
  go_wp2
  go_ret
  exact ⟨v', rfl, HE.out⟩

/-- What search answers. -/
def SrchRes (S : List Sp) (w : World) (e : Ending) (w' : World) : Prop := (∃ r, e = .returned (.bool r) ∧ (r = true → ∃ o, IsOrd S o)) ∧ Fr0 w w'
theorem srch_no {S : List Sp} {w w' : World} (hf : Fr0 w w') : SrchRes S w (.returned (.bool false)) w' := ⟨⟨false, rfl, by simp⟩, hf⟩
theorem srch_yes {S : List Sp} {w w' : World} (ho : ∃ o, IsOrd S o) (hf : Fr0 w w') : SrchRes S w (.returned (.bool true)) w' := ⟨⟨true, rfl, fun _ => ho⟩, hf⟩

theorem mem_snoc_dec (L : List Nat) (j k : Nat) (hj : j < L.length) : decide (k ∈ L.take (j + 1)) = (decide (k ∈ L.take j) || decide ((L[j] : Int) = (k : Int))) := by
  rw [take_snoc' L j hj, Bool.eq_iff_iff, Bool.or_eq_true, decide_eq_true_eq, decide_eq_true_eq, decide_eq_true_eq, List.mem_append, List.mem_singleton]
  generalize L[j] = x
  constructor
  · rintro (h | h)
    · exact .inl h
    · exact .inr (by omega)
  · rintro (h | h)
    · exact .inl h
    · exact .inr (by omega)

/-- An append behind a guard that lets it. -/
theorem wpList_append_on {P : Program} {w : World} {ops : Array Oper} {rest : List Oper} {o : Oper} {a : Act} {Q : Exit → Act → World → Prop} (hgd : Region.wanted o (yielded ops a.tmps) = true) (s x : Operand) (t : TypeId)
    (ho : o.op = .call { callee := .builtin .append, args := #[s, x], argTypes := #[t, t] })
    (base : Nat) (e : TypeId) (i : TypeInfo) (z : Value) (size bytes : Nat) (ht : P.underlying t = some (.slice e)) (hi : P.info? e = some i) (hz : i.zero = some z)
    (hsize : i.size = size) (hby : i.bytes = bytes) (hzs : z.cells.size = size) (hsz : 0 < size)
    (v : Value) (n : Nat) (xs : List Value) (hs : a.eval s = v) (hown : w.ownsRow base e size v n xs)
    (ad : Addr) (m c : Nat) (news : List Value) (hx : a.eval x = .slice (some ad) m c) (hl : news.length = m * size) (hnews : ∀ j u, news[j]? = some u → w.cell? (ad.add j) = some u) (h1 : ∀ u ∈ news, u.oneCell' = true)
    (h63 : n + m ≤ maxLen) (hbytes : (n + m) * bytes ≤ 140737488355328) (hbase : base ≤ w.heap.size)
    (h : ∀ v' w', w'.ownsRow base e size v' (n + m) (xs ++ news) → w.grownBy w' v.ownBlock → wpList P ops Q rest (a.put o.dst v') w') : wpList P ops Q (o :: rest) a w :=
  wpList_step fun _ hK => by
    rw [if_pos hgd]
    exact wp_append_own w s x t ho base e i z size bytes ht hi hz hsize hby hzs hsz v n xs hs hown ad m c news hx hl hnews h1 h63 hbytes hbase fun v' w' h2 h3 _ => hK _ _ (h v' w' h2 h3)

theorem numsOwn {w : World} {B n : Nat} {v : Value} {q : List Int} (h : w.ownsRow B 3 1 v n (iv q)) (hq : q.length = n) (hs : n ≤ 1000) : ∃ a g cap, v = .slice a n cap ∧ NumsIn w a g 0 q ∧ n ≤ cap ∧ (a = none → cap = 0) := by
  obtain ⟨a, g, cap, rfl, h1, h2, h3, h4, h5, h6, h7⟩ := own_form h
  refine ⟨a, g, cap, rfl, ⟨fun hl => h1 (by omega), fun j hj => ?_, fun hl => (h5 (by omega)).2.2, by omega⟩, h2, fun ha => (h7 ha).2⟩
  rw [Nat.zero_add, h6 j (by omega)]
  simp [iv, hj]
theorem iv_snoc (bg : List Nat) (k : Nat) : iv (ints bg) ++ [Value.int .i64 k] = iv (ints (bg ++ [k])) := by simp [iv, ints]

/-- search at one call more. -/
def Srch (S : List Sp) (bg : List Nat) : Prop := ∀ (a : Option Addr) (b off cap : Nat) (a2 : Option Addr) (b2 off2 cap2 : Nat) (w : World), SpansIn w a b off S → NumsIn w a2 b2 off2 (ints bg) → bg.length ≤ cap2 → (a2 = none → cap2 = 0) →
    Calls Try.prog 35 #[.slice a S.length cap, .slice a2 bg.length cap2] w (SrchRes S w)

set_option maxRecDepth 100000 in
set_option maxHeartbeats 16000000 in
theorem search_step (S : List Sp) (hS : S.length ≤ 6) (bg : List Nat) (hbl : bg.length ≤ 6) (hlt0 : ∀ i ∈ bg, i < S.length) (REC : Hid (∀ k, k < S.length → k ∉ bg → Srch S (bg ++ [k]))) : Srch S bg := by
  intro a b off cap a2 b2 off2 cap2 w h h2 hc2 hn2
  obtain ⟨i0, hi, hz0, hz1, hz2⟩ := info_parts info32
  have HZ := hid (show Try.prog.info? 32 = some i0 ∧ i0.zero = some (.agg #[.int .i64 0, .int .i64 0, .int .i64 0, .int .i64 0]) ∧ i0.size = 4 ∧ i0.bytes = 32 from ⟨hi, hz0, hz1, hz2⟩)
  obtain ⟨i3, hi3, hz30, hz31, hz32⟩ := info_parts info3
  have HZ3 := hid (show Try.prog.info? 3 = some i3 ∧ i3.zero = some (.int .i64 0) ∧ i3.size = 1 ∧ i3.bytes = 8 from ⟨hi3, hz30, hz31, hz32⟩)
  have HS := hid h
  have HN := hid h2
  have HC := hid (And.intro hc2 hn2)
  have HLT := hid hlt0
  have HH := hid (holds_any a b off cap S a2 b2 off2 cap2 (ints bg) w h h2)
  rw [show (ints bg).length = bg.length by simp [ints]] at HH
  clear hi3 hz30 hz31 hz32 hi hz0 hz1 hz2 h h2 hc2 hn2 hlt0
  go_enter Try.func35, Try.ntmps35
  go_wp2_with fail
  refine HH.out.mono ?_
  rintro e w1 ⟨rfl, hf1⟩
  have HF := hid hf1
  clear hf1 HH
  cases hh : holdsM S (ints bg) with
  | true =>
    have HO : Hid (∃ o, IsOrd S o) := hid (by obtain ⟨_, o, _, ho⟩ := (holdsM_iff S _).1 hh; exact ⟨o, ho⟩)
    clear hh
    go_wp2
    go_ret
    exact srch_yes HO.out HF.out
  | false =>
    clear hh
    have HS1 := hid (HS.out.fr0 HF.out)
    have HN1 := hid (HN.out.fr0 HF.out)
    go_wp2_with fail
    go_loopw [5, 6] (fun v i wr => ∃ k : Nat, i = .int .i64 k ∧ Hid (DdRel w1 wr S bg v k)) (fun _ i _ => bg.length - (intOf i).toNat)
    case atStart => exact ⟨0, rfl, hid ⟨Nat.zero_le _, (World.ownsRow_nil _ _ _ _ : OwnD _ _ _ []), Fr.refl _ _⟩⟩
    case round =>
      obtain ⟨k, rfl, hR⟩ := hrel
      have hk := hR.out.le
      by_cases hlt : k < bg.length
      · have HNr := hid (HN1.out.fr0 hR.out.fr)
        have HSr := hid (HS1.out.fr0 hR.out.fr)
        have hli : k < (ints bg).length := by simpa [ints] using hlt
        have i1 := fun W => HNr.out.index cap2 k hli W
        rw [show (ints bg).length = bg.length by simp [ints]] at i1
        have d0 := HNr.out.cells k hli
        rw [show (ints bg)[k] = ((bg[k] : Nat) : Int) by simp [ints]] at d0
        have hxn := HLT.out _ (List.getElem_mem hlt)
        have HSN := hid (fun v' w' ob hown hg => hR.out.snoc (v' := v') (w' := w') (ob := ob) hlt hown hg)
        have hlen := hid (dds_len (s := spOf S) hk)
        generalize bg[k] = x at d0 hxn HSN
        have i2 := fun W => HSr.out.index cap x hxn W
        obtain ⟨c0, c1, c2, c3, -, -⟩ := HSr.out.at x hxn
        rw [← spOf_get hxn] at c0 c1 c2 c3
        have hown := hid hR.out.own
        have hfr := hid hR.out.fr
        clear hR hli
        go_wp2_with (at_builtin; refine wpList_append_own _ rfl _ _ 22 rfl w1.heap.size 32 i0 (.agg #[.int .i64 0, .int .i64 0, .int .i64 0, .int .i64 0]) 4 32 Try.underlying22 HZ.out.1 HZ.out.2.1 HZ.out.2.2.1 HZ.out.2.2.2 rfl (by decide) _ _ _ rfl (hown.out.alloc _) ⟨wr.heap.size, 0, none⟩ 1 1 (spOf S x).d.enc rfl rfl ?c1 ?c2 ?c3 ?c4 ?c5 ?_)
        case c1 => exact cells_new4 _ _ _ _ _ _
        case c2 => exact enc4_one _
        case c3 => rw [hlen.out]; simp only [maxLen]; omega
        case c4 => rw [hlen.out]; omega
        case c5 => have := hfr.out.size; simp at this ⊢; omega
        intro v' w3 hown' hg _
        rw [hlen.out] at hown'
        have hS' := hid (HSN.out _ _ _ hown' hg)
        clear hown' hg hown c0 c1 c2 c3
        go_wp2
        go_roundw
        case rel => exact ⟨k + 1, by go_num, hS'⟩
        case measure => simp [intOf]; omega
      · have hkl : bg.take k = bg := List.take_of_length_le (by omega)
        have how := hR.out.own
        rw [hkl] at how
        have HF2 := hid (HF.out.trans0 hR.out.fr)
        have hw : ∀ d ∈ dds (spOf S) bg, d.wf := fun d hd => by
          obtain ⟨i, hi, rfl⟩ := List.mem_map.1 hd
          rw [spOf_get (HLT.out i hi)]
          exact (HS.out.wf _ (List.getElem_mem _)).1
        obtain ⟨a3, g3, cap3, rfl, hD⟩ := deedsIn_own how hw (by simp [dds]; omega)
        have hp := play_any a3 g3 0 cap3 _ _ hD
        clear how hw hD hkl hR
        generalize (hplay [] 0 (dds (spOf S) bg)).1 = x1 at hp
        generalize (hplay [] 0 (dds (spOf S) bg)).2 = x2 at hp
        generalize (dds (spOf S) bg).length = n1 at hp ⊢
        go_wp2_with fail
        refine hp.mono ?_
        rintro e w2 ⟨rfl, hf2⟩
        clear hp
        have HF3 := hid (HF2.out.trans0 hf2)
        clear hf2
        by_cases hx2 : x2 = 0
        · have hxb : (x2 != 0) = false := by simp [hx2]
          clear hx2
          go_wp2_with fail
          obtain ⟨wo, rfl⟩ : ∃ wo : World, wo = wr := ⟨_, rfl⟩
          go_loopw [9] (fun i wr => ∃ k : Nat, i = .int .i64 k ∧ k ≤ S.length ∧ Hid (Fr0 w wr)) (fun i _ => S.length - (intOf i).toNat)
          case atStart => exact ⟨0, rfl, Nat.zero_le _, HF3⟩
          case round =>
            obtain ⟨k, rfl, hk, hR⟩ := hrel
            by_cases hlt : k < S.length
            · have HK := hid hlt
              go_wp2_with fail
              obtain ⟨wo2, rfl⟩ : ∃ wo : World, wo = wr := ⟨_, rfl⟩
              go_loopw [10, 11] (fun t i wr => ∃ j : Nat, t = .bool (decide (k ∈ bg.take j)) ∧ i = .int .i64 j ∧ j ≤ bg.length ∧ Hid (Fr0 w wr)) (fun _ i _ => bg.length - (intOf i).toNat)
              case atStart => exact ⟨0, by simp, rfl, Nat.zero_le _, hR⟩
              case round =>
                obtain ⟨j, rfl, rfl, hj, hJ⟩ := hrel
                by_cases hjl : j < bg.length
                · have HNr := hid (HN.out.fr0 hJ.out)
                  have hli : j < (ints bg).length := by simpa [ints] using hjl
                  have i1 := fun W => HNr.out.index cap2 j hli W
                  rw [show (ints bg).length = bg.length by simp [ints]] at i1
                  have d0 := HNr.out.cells j hli
                  rw [show (ints bg)[j] = ((bg[j] : Nat) : Int) by simp [ints]] at d0
                  have hsn := hid (mem_snoc_dec bg j k hjl)
                  generalize bg[j] = x at d0 hsn
                  cases hd : decide (k ∈ bg.take j) with
                  | true =>
                    have HSN : Hid (decide (k ∈ bg.take (j + 1)) = true) := hid (by rw [hsn.out, hd]; rfl)
                    clear hd hli
                    go_wp2
                    go_roundw
                    case rel => exact ⟨j + 1, by rw [HSN.out], by go_num, by omega, hJ⟩
                    case measure => simp [intOf]; omega
                  | false =>
                    by_cases hxk : x = k
                    · have hxb2 : (x == k) = true := by simp [hxk]
                      have hxb : ((x : Int) == (k : Int)) = true := by simp [hxk]
                      have HSN : Hid (decide (k ∈ bg.take (j + 1)) = true) := hid (by rw [hsn.out, hd]; simp [hxk])
                      clear hd hli hxk
                      go_wp2
                      go_roundw
                      case rel => exact ⟨j + 1, by rw [HSN.out], by go_num, by omega, hJ⟩
                      case measure => simp [intOf]; omega
                    · have hxb2 : (x == k) = false := by simp [hxk]
                      have hxb : ((x : Int) == (k : Int)) = false := by simp; omega
                      have HSN : Hid (decide (k ∈ bg.take (j + 1)) = false) := hid (by rw [hsn.out, hd]; simp; omega)
                      clear hd hli hxk
                      go_wp2
                      go_roundw
                      case rel => exact ⟨j + 1, by rw [HSN.out], by go_num, by omega, hJ⟩
                      case measure => simp [intOf]; omega
                · have hkl : bg.take j = bg := List.take_of_length_le (by omega)
                  rw [hkl]
                  clear hkl
                  by_cases hmem : k ∈ bg
                  · rw [decide_eq_true hmem]
                    clear hmem
                    go_wp2
                    go_roundw
                    case rel => exact ⟨k + 1, by go_num, by omega, hJ⟩
                    case measure => simp [intOf]; omega
                  · rw [decide_eq_false hmem]
                    have HMEM := hid hmem
                    clear hmem
                    have HCP := hid (copyInts_any a2 b2 off2 cap2 (ints bg) (by simp [ints]; omega) HC.out.2 (by simpa [ints] using HC.out.1) wr (HN.out.fr0 hJ.out))
                    rw [show (ints bg).length = bg.length by simp [ints]] at HCP
                    go_wp2_with fail
                    refine HCP.out.mono ?_
                    rintro e w4 ⟨vc, rfl, hvc, hf4⟩
                    have HVC := hid hvc
                    have HF4 := hid hf4
                    clear hvc hf4 HCP
                    go_wp2_with (at_builtin; refine wpList_append_on rfl _ _ 46 rfl wr.heap.size 3 i3 (.int .i64 0) 1 8 Try.underlying46 HZ3.out.1 HZ3.out.2.1 HZ3.out.2.2.1 HZ3.out.2.2.2 rfl (by decide) _ _ _ rfl (HVC.out.alloc _) ⟨w4.heap.size, 0, none⟩ 1 1 [.int .i64 k] rfl rfl ?c1 ?c2 ?c3 ?c4 ?c5 ?_)
                    case c1 => exact cells_new1 _ _ _
                    case c2 => simp [Value.oneCell']
                    case c3 => simp only [maxLen]; omega
                    case c4 => omega
                    case c5 => have := HF4.out.size; simp at this ⊢; omega
                    intro v' w5 hown' hg
                    rw [iv_snoc] at hown'
                    have HF5 := hid (grow_fr HVC.out HF4.out (Nat.le_refl _) hg).1
                    obtain ⟨a5, g5, cap5, rfl, hn5, hc5, hnn5⟩ := numsOwn hown' (by simp [ints]) (by omega)
                    have HREC := hid (REC.out k HK.out HMEM.out a b off cap a5 g5 0 cap5 w5 (HS.out.fr0 (hJ.out.trans0 HF5.out)) hn5 (by simpa using hc5) hnn5)
                    rw [show (bg ++ [k]).length = bg.length + 1 by simp] at HREC
                    clear hown' hg hn5 hc5 hnn5
                    go_wp2_with fail
                    refine HREC.out.mono ?_
                    rintro e w6 ⟨⟨r, rfl, hr⟩, hf6⟩
                    have HF6 := hid ((hJ.out.trans0 HF5.out).trans0 hf6)
                    have HR := hid hr
                    clear hf6 hr HREC
                    cases r with
                    | true =>
                      have HO := hid (HR.out rfl)
                      clear HR
                      go_wp2
                      go_ret
                      exact srch_yes HO.out HF6.out
                    | false =>
                      go_wp2
                      go_roundw
                      case rel => exact ⟨k + 1, by go_num, by omega, HF6⟩
                      case measure => simp [intOf]; omega
            · have hkS : k = S.length := by omega
              go_wp2
              go_ret
              exact srch_no hR.out
        · have hxb : (x2 != 0) = true := by simp [hx2]
          clear hx2
          go_wp2
          go_ret
          exact srch_no HF3.out
theorem search_any (S : List Sp) (hS : S.length ≤ 6) : ∀ (m : Nat) (bg : List Nat), bg.length + m = S.length → bg.Nodup → (∀ i ∈ bg, i < S.length) → Srch S bg := by
  intro m
  induction m with
  | zero =>
    intro bg hm hd hl
    refine search_step S hS bg (by omega) hl (hid (fun k hk hkb => ?_))
    exfalso
    have hnd : (bg ++ [k]).Nodup := by
      rw [List.nodup_append]
      exact ⟨hd, by simp, fun a ha b hb => by rw [List.mem_singleton.1 hb]; rintro rfl; exact hkb ha⟩
    have := hnd.length_le_of_subset (l₂ := List.range S.length) (fun i hi => by
      rcases List.mem_append.1 hi with hi | hi
      · exact List.mem_range.2 (hl i hi)
      · rw [List.mem_singleton.1 hi]; exact List.mem_range.2 hk)
    simp at this
    omega
  | succ m ih =>
    intro bg hm hd hl
    refine search_step S hS bg (by omega) hl (hid (fun k hk hkb => ih (bg ++ [k]) (by simp; omega) ?_ ?_))
    · rw [List.nodup_append]
      exact ⟨hd, by simp, fun a ha b hb => by rw [List.mem_singleton.1 hb]; rintro rfl; exact hkb ha⟩
    · intro i hi
      rcases List.mem_append.1 hi with hi | hi
      · exact hl i hi
      · rw [List.mem_singleton.1 hi]; exact hk
end Go.Proofs.Ytjaabbjobnfmmaa

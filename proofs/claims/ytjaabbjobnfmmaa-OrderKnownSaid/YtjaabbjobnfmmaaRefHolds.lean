/-
  The document's Holds, walked: it answers as the program's.
-/
import Derived.Test.YtjaabbjobnfmmaaWorks28
import Derived.Test.YtjaabbjobnfmmaaBools
import Derived.Test.YtjaabbjobnfmmaaRChk
import Derived.Test.YtjaabbjobnfmmaaRefOut
namespace Go.Proofs.Ytjaabbjobnfmmaa
open Go.RowKit

set_option maxRecDepth 100000 in
theorem ahead65_any (x y : Sp) (w : World) :
    Calls Try.prog 65 #[.agg #[.int .i64 x.d.k, .int .i64 x.d.x.c, .int .i64 x.d.x.s, .int .i64 x.d.x.o, .int .i64 x.f, .int .i64 x.t], .agg #[.int .i64 y.d.k, .int .i64 y.d.x.c, .int .i64 y.d.x.s, .int .i64 y.d.x.o, .int .i64 y.f, .int .i64 y.t]] w
      fun e w' => e = .returned (.bool (decide (0 ≤ x.t) && decide (x.t < y.f))) ∧ Fr0 w w' := by
  cases h1 : decide (0 ≤ x.t) with
  | true =>
    rw [Bool.true_and]
    go_enter Try.func65, Try.ntmps65
    go_wp2
    go_ret
    exact ⟨rfl, fr0_alloc2 _ _ _⟩
  | false =>
    rw [Bool.false_and]
    go_enter Try.func65, Try.ntmps65
    go_wp2
    go_ret
    exact ⟨rfl, fr0_alloc2 _ _ _⟩

/-- The latest beginning of those that are in. -/
def latL (S : List Sp) (ins : List Nat) : Int := ins.foldl (fun m i => max m (spOf S i).f) (-1)
theorem latL_snoc (S : List Sp) (ins : List Nat) (i : Nat) : latL S (ins ++ [i]) = max (latL S ins) (spOf S i).f := by simp [latL]
theorem latL_iff (S : List Sp) (ins : List Nat) (t : Int) (ht : 0 ≤ t) : t < latL S ins ↔ ∃ j ∈ ins, t < (spOf S j).f := by
  have : ∀ (l : List Nat) (m : Int), t < l.foldl (fun m i => max m (spOf S i).f) m ↔ t < m ∨ ∃ j ∈ l, t < (spOf S j).f := by
    intro l
    induction l with
    | nil => intro m; simp
    | cons a l ih =>
      intro m
      rw [List.foldl_cons, ih]
      constructor
      · rintro (h | ⟨j, hj, h⟩)
        · by_cases hm : t < m
          · exact .inl hm
          · exact .inr ⟨a, List.mem_cons_self, by omega⟩
        · exact .inr ⟨j, List.mem_cons_of_mem _ hj, h⟩
      · rintro (h | ⟨j, hj, h⟩)
        · exact .inl (by omega)
        · rcases List.mem_cons.1 hj with rfl | hj
          · exact .inl (by omega)
          · exact .inr ⟨j, hj, h⟩
  have h := this ins (-1)
  unfold latL
  rw [h]
  constructor
  · rintro (h | h)
    · omega
    · exact h
  · exact .inr

/-- The document's Holds's memory. -/
structure RHold (w0 w : World) (g p B : Nat) (n : Nat) (ins : List Nat) (L : List Ob) : Prop where
  fr : Fr0 w0 w
  row : BRow w g ((List.range n).map fun i => decide (i ∈ ins))
  ref : RefIs w p B L
  bg : w0.heap.size ≤ g
  bp : w0.heap.size ≤ p
  bB : B ≤ w.heap.size
  gB : g < B
section
variable {w0 w w' : World} {g p B n : Nat} {ins : List Nat} {L L' : List Ob}
theorem RHold.fr0 (h : RHold w0 w g p B n ins L) (hf : Fr0 w w') : RHold w0 w' g p B n ins L :=
  ⟨h.fr.trans0 hf, h.row.fr0 hf, h.ref.fr0 hf, h.bg, h.bp, Nat.le_trans h.bB hf.size, h.gB⟩
theorem RHold.pB (h : RHold w0 w g p B n ins L) : B ≤ p := by obtain ⟨v, _, _, _, h4⟩ := h.ref; exact h4
theorem RHold.deed (h : RHold w0 w g p B n ins L) (hf : Fr (· = p) w w') (hL : RefIs w' p B L') : RHold w0 w' g p B n ins L' :=
  ⟨h.fr.trans hf (fun i hi e => by have := h.bp; subst e; omega), h.row.fr hf (fun e => by have := h.pB; have := h.gB; subst e; omega), hL, h.bg, h.bp, Nat.le_trans h.bB hf.size, h.gB⟩
theorem RHold.put (h : RHold w0 w g p B n ins L) (i : Nat) : RHold w0 (w.setCell ⟨g, i, none⟩ (.bool true)) g p B n (ins ++ [i]) L := by
  have hf : Fr (fun j => j = g) w (w.setCell ⟨g, i, none⟩ (.bool true)) := Fr.setCell (X := fun j => j = g) (p := ⟨g, i, none⟩) (Fr.refl _ w) (fun _ => rfl) _
  refine ⟨h.fr.trans hf (fun j hj e => by have := h.bg; omega), ?_, h.ref.fr hf (fun j _ hj e => by have := h.gB; omega), h.bg, h.bp, Nat.le_trans h.bB hf.size, h.gB⟩
  have := h.row.set i true
  have e : ((List.range n).map fun j => decide (j ∈ ins)).set i true = (List.range n).map fun j => decide (j ∈ ins ++ [i]) := by
    apply List.ext_getElem (by simp)
    intro j h1 h2
    rw [List.getElem_set]
    by_cases hij : i = j
    · subst hij; simp
    · have : j ≠ i := fun e => hij e.symm
      simp [hij, this]
  rw [e] at this
  exact this
theorem RHold.cell (h : RHold w0 w g p B n ins L) (i : Nat) (hi : i < n) : w.cell? ⟨g, i, none⟩ = some (.bool (decide (i ∈ ins))) := by
  rw [h.row.cell i (by simpa using hi)]; simp
end

set_option maxRecDepth 100000 in
set_option maxHeartbeats 40000000 in
theorem refHolds_any (a : Option Addr) (b off cap : Nat) (S : List Sp) (a2 : Option Addr) (b2 off2 cap2 : Nat) (o : List Int) (w : World) (h : SpansIn w a b off S) (h2 : NumsIn w a2 b2 off2 o) (ho : o.length ≤ 1000) :
    Calls Try.prog 33 #[.slice a S.length cap, .slice a2 o.length cap2] w fun e w' => e = .returned (.bool (holdsM S o)) ∧ Fr0 w w' := by
  have HC := refCheck_any a b off cap S w h
  have H := hid (And.intro h h2)
  by_cases hch : chk S = 0
  · have HM : Hid (holdsM S o = holdsR S o [] [] (-1)) := hid (by simp [holdsM, hch])
    have hln : Hid (S.length ≤ 256) := hid (chk_may hch).1
    rw [hch] at HC
    have hmk := makeBools S.length (by have := hln.out; omega)
    clear hch h h2
    go_enter Try.func33, Try.ntmps33
    go_wp2_with fail
    refine HC.mono ?_
    rintro e w1 ⟨rfl, hf1⟩
    have HF1 := hid hf1
    clear hf1 HC
    go_wp2_with fail
    refine (refNew_any _).mono ?_
    rintro e w2 ⟨rfl, hf2, hh2⟩
    have HH : Hid (RHold w w2 w1.heap.size (w1.alloc (.cells (Array.replicate S.length (Value.bool false)) 4)).heap.size (w1.alloc (.cells (Array.replicate S.length (Value.bool false)) 4)).heap.size S.length [] []) := hid (by
      have hsz : (w1.alloc (.cells (Array.replicate S.length (Value.bool false)) 4)).heap.size = w1.heap.size + 1 := by simp
      have hs := HF1.out.size
      refine ⟨(HF1.out.alloc _).trans0 hf2, ?_, hh2, hs, by omega, hf2.size, by omega⟩
      have := hf2.at (alloc_block w1 (.cells (Array.replicate S.length (Value.bool false)) 4)) id
      unfold BRow
      rw [this]
      congr 2
      apply Array.ext'
      simp [List.map_const'])
    clear hf2 hh2 hmk HF1
    generalize (w1.alloc (.cells (Array.replicate S.length (Value.bool false)) 4)).heap.size = p at HH ⊢
    generalize w1.heap.size = g at HH ⊢
    go_wp2_with fail
    go_loopw [7] (fun i wr => ∃ (k : Nat), i = .int .i64 k ∧ k ≤ o.length ∧ Hid (∃ ins T L, RHold w wr g p p S.length ins L ∧ Alike T L ∧ L.length ≤ k ∧ o.take k = ints ins ∧ (∀ i ∈ ins, i < S.length) ∧ holdsR S o [] [] (-1) = holdsR S (o.drop k) ins T (latL S ins))) (fun i _ => o.length - (intOf i).toNat)
    case atStart => exact ⟨0, rfl, Nat.zero_le _, hid ⟨[], [], [], HH.out, alike_nil, Nat.le_refl _, rfl, by simp, rfl⟩⟩
    case round =>
      obtain ⟨k, rfl, hk, hR⟩ := hrel
      clear HH
      obtain ⟨ins, T, L, hA, hal, hLl, htk, hin, hE⟩ := hR.out
      have HA := hid (And.intro hA (And.intro hin (And.intro hE (And.intro hal (And.intro hLl htk)))))
      clear hA hin hE hR hal hLl htk
      by_cases hlt : k < o.length
      · have i1 := fun W => (H.out.2).index cap2 k hlt W
        have c1 := ((H.out.2).fr0 HA.out.1.fr).cells k hlt
        have HDR := hid (show holdsR S (o.drop k) ins T (latL S ins) = _ from by rw [List.drop_eq_getElem_cons hlt, holdsR])
        have HTK := hid (take_snoc' o k hlt)
        generalize o[k] = x at c1 HDR HTK
        have stop : Hid (okB S x ins T (latL S ins) = false → holdsM S o = false) := hid (fun h => by rw [HM.out, HA.out.2.2.1, HDR.out, h]; rfl)
        by_cases hx0 : x < 0
        · have hb0 : decide (x < 0) = true := by simp [hx0]
          have HS := hid (stop.out (by simp only [okB, show decide (0 ≤ x) = false by simp; omega, Bool.false_and]))
          clear hx0
          go_wp2
          go_ret
          exact ⟨by rw [HS.out]; rfl, HA.out.1.fr⟩
        · have hb0 : decide (x < 0) = false := by simp; omega
          obtain ⟨i, rfl⟩ : ∃ i : Nat, x = (i : Int) := ⟨x.toNat, by omega⟩
          clear hx0
          by_cases hxn : i < S.length
          · have hb1 : decide (S.length ≤ i) = false := by simp; omega
            have i2 := fun W => H.out.1.index cap i hxn W
            have i3 := fun W => index60 g S.length S.length i hxn W
            have hlk := HA.out.1.cell i hxn
            have HXN := hid hxn
            by_cases hmem : i ∈ ins
            · rw [decide_eq_true hmem] at hlk
              have HS := hid (stop.out (by simp [okB, hmem]))
              clear hmem hxn
              go_wp2
              go_ret
              exact ⟨by rw [HS.out]; rfl, HA.out.1.fr⟩
            · rw [decide_eq_false hmem] at hlk
              have HMM := hid hmem
              clear hmem hxn
              have HSi := hid (spOf_get HXN.out)
              obtain ⟨c0, c1', c2, c3, c4, c5⟩ := (H.out.1.fr0 HA.out.1.fr).at i HXN.out
              rw [← HSi.out] at c0 c1' c2 c3 c4 c5
              have hwf : Hid (spOf S i).wf := hid (by rw [HSi.out]; exact H.out.1.wf _ (List.getElem_mem HXN.out))
              have hcode0 := (alike_do HA.out.2.2.2.1 (spOf S i).d.k (spOf S i).d.x).1
              have HDo : Hid (Calls Try.prog 39 #[.pointer (some ⟨p, 0, none⟩), .agg #[.int .i64 (spOf S i).d.k, .int .i64 (spOf S i).d.x.c, .int .i64 (spOf S i).d.x.s, .int .i64 (spOf S i).d.x.o]] wr fun e w' => e = .returned (.int .i64 (hdo T (spOf S i).d.k (spOf S i).d.x).1) ∧ RHold w w' g p p S.length ins (rdo L (spOf S i).d.k (spOf S i).d.x).2) :=
                hid ((refDo_any p p L (by have := HA.out.2.2.2.2.1; omega) (spOf S i).d.x hwf.out.1.2 (spOf S i).d.k wr HA.out.1.bB HA.out.1.ref).mono fun e w' ⟨he, hf, hh⟩ => ⟨by rw [hcode0]; exact he, HA.out.1.deed hf hh⟩)
              clear hcode0
              go_wp2_with fail
              refine HDo.out.mono ?_
              rintro e w3 ⟨rfl, hA3⟩
              have HA3 := hid hA3
              clear hA3 HDo c0 c1' c2 c3 c4 c5
              by_cases hcode : (hdo T (spOf S i).d.k (spOf S i).d.x).1 = 0
              · have hcb : ((hdo T (spOf S i).d.k (spOf S i).d.x).1 != 0) = false := by simp [hcode]
                have HCD := hid hcode
                have d1 := HA3.out.cell i HXN.out
                have d2 : w3.frozen? ⟨g, i, none⟩ = false := HA3.out.row.free i
                have HA4 := hid (HA3.out.put i)
                clear hcode
                go_wp2_with fail
                clear d1 d2 hlk hcb
                generalize w3.setCell ⟨g, i, none⟩ (.bool true) = w4 at HA4 ⊢
                obtain ⟨wo, rfl⟩ : ∃ wo : World, wo = wr := ⟨_, rfl⟩
                go_loopw [9] (fun t9 wr => ∃ j : Nat, t9 = .int .i64 j ∧ j ≤ k ∧ Hid (RHold w wr g p p S.length (ins ++ [i]) (rdo L (spOf S i).d.k (spOf S i).d.x).2 ∧ ∀ m ∈ ins.take j, ¬ (0 ≤ (spOf S i).t ∧ (spOf S i).t < (spOf S m).f))) (fun t9 _ => k - (intOf t9).toNat)
                case atStart => exact ⟨0, rfl, Nat.zero_le _, hid ⟨HA4.out, by simp⟩⟩
                case round =>
                  obtain ⟨j, rfl, hj, hJ⟩ := hrel
                  by_cases hjk : j < k
                  · have hjo : j < o.length := by omega
                    have hlen : Hid (ins.length = k) := hid (by have := congrArg List.length HA.out.2.2.2.2.2; simp [ints] at this; omega)
                    have hji : j < ins.length := by have := hlen.out; omega
                    have hoj : o[j] = ((ins[j] : Nat) : Int) := by
                      have := congrArg (fun l => l[j]?) HA.out.2.2.2.2.2
                      simp only [List.getElem?_take, hjk, if_true, ints, List.getElem?_map, List.getElem?_eq_getElem hjo, List.getElem?_eq_getElem hji, Option.map_some] at this
                      exact Option.some.inj this
                    have HMJ := hid (take_snoc' ins j hji)
                    have hmn : ins[j] < S.length := HA.out.2.1 _ (List.getElem_mem hji)
                    have hmem : Hid (ins[j] ∈ ins) := hid (List.getElem_mem hji)
                    have cj := fun q : Ext wr => ((H.out.2).fr0 (hJ.out.1.fr.trans0 q.fr)).cells j hjo
                    rw [hoj] at cj
                    clear hoj
                    generalize ins[j] = m at cj HMJ hmn hmem
                    have i4 := fun W => (H.out.2).index cap2 j hjo W
                    have i5 := fun W => H.out.1.index cap m hmn W
                    have HMN := hid hmn
                    have hSi := spOf_get HXN.out
                    have hSm := spOf_get hmn
                    have f0 : ∀ q : Ext wr, q.out.cell? ⟨b, off + i * 6, none⟩ = some (.int .i64 (spOf S i).d.k) := fun q => by rw [hSi]; exact ((H.out.1.fr0 (hJ.out.1.fr.trans0 q.fr)).at i HXN.out).1
                    have f1 : ∀ q : Ext wr, q.out.cell? ⟨b, off + i * 6 + 1, none⟩ = some (.int .i64 (spOf S i).d.x.c) := fun q => by rw [hSi]; exact ((H.out.1.fr0 (hJ.out.1.fr.trans0 q.fr)).at i HXN.out).2.1
                    have f2 : ∀ q : Ext wr, q.out.cell? ⟨b, off + i * 6 + 2, none⟩ = some (.int .i64 (spOf S i).d.x.s) := fun q => by rw [hSi]; exact ((H.out.1.fr0 (hJ.out.1.fr.trans0 q.fr)).at i HXN.out).2.2.1
                    have f3 : ∀ q : Ext wr, q.out.cell? ⟨b, off + i * 6 + 3, none⟩ = some (.int .i64 (spOf S i).d.x.o) := fun q => by rw [hSi]; exact ((H.out.1.fr0 (hJ.out.1.fr.trans0 q.fr)).at i HXN.out).2.2.2.1
                    have f4 : ∀ q : Ext wr, q.out.cell? ⟨b, off + i * 6 + 4, none⟩ = some (.int .i64 (spOf S i).f) := fun q => by rw [hSi]; exact ((H.out.1.fr0 (hJ.out.1.fr.trans0 q.fr)).at i HXN.out).2.2.2.2.1
                    have f5 : ∀ q : Ext wr, q.out.cell? ⟨b, off + i * 6 + 5, none⟩ = some (.int .i64 (spOf S i).t) := fun q => by rw [hSi]; exact ((H.out.1.fr0 (hJ.out.1.fr.trans0 q.fr)).at i HXN.out).2.2.2.2.2
                    have g0 : ∀ q : Ext wr, q.out.cell? ⟨b, off + m * 6, none⟩ = some (.int .i64 (spOf S m).d.k) := fun q => by rw [hSm]; exact ((H.out.1.fr0 (hJ.out.1.fr.trans0 q.fr)).at m HMN.out).1
                    have g1 : ∀ q : Ext wr, q.out.cell? ⟨b, off + m * 6 + 1, none⟩ = some (.int .i64 (spOf S m).d.x.c) := fun q => by rw [hSm]; exact ((H.out.1.fr0 (hJ.out.1.fr.trans0 q.fr)).at m HMN.out).2.1
                    have g2 : ∀ q : Ext wr, q.out.cell? ⟨b, off + m * 6 + 2, none⟩ = some (.int .i64 (spOf S m).d.x.s) := fun q => by rw [hSm]; exact ((H.out.1.fr0 (hJ.out.1.fr.trans0 q.fr)).at m HMN.out).2.2.1
                    have g3 : ∀ q : Ext wr, q.out.cell? ⟨b, off + m * 6 + 3, none⟩ = some (.int .i64 (spOf S m).d.x.o) := fun q => by rw [hSm]; exact ((H.out.1.fr0 (hJ.out.1.fr.trans0 q.fr)).at m HMN.out).2.2.2.1
                    have g4 : ∀ q : Ext wr, q.out.cell? ⟨b, off + m * 6 + 4, none⟩ = some (.int .i64 (spOf S m).f) := fun q => by rw [hSm]; exact ((H.out.1.fr0 (hJ.out.1.fr.trans0 q.fr)).at m HMN.out).2.2.2.2.1
                    have g5 : ∀ q : Ext wr, q.out.cell? ⟨b, off + m * 6 + 5, none⟩ = some (.int .i64 (spOf S m).t) := fun q => by rw [hSm]; exact ((H.out.1.fr0 (hJ.out.1.fr.trans0 q.fr)).at m HMN.out).2.2.2.2.2
                    have HQ := hid (fun q : Ext wr => ahead65_any (spOf S i) (spOf S m) q.out)
                    clear hSi hSm
                    cases hbb : (decide (0 ≤ (spOf S i).t) && decide ((spOf S i).t < (spOf S m).f)) with
                    | true =>
                      rw [hbb] at HQ
                      have HS := hid (stop.out (by
                        simp only [Bool.and_eq_true, decide_eq_true_eq] at hbb
                        have hl := (latL_iff S ins (spOf S i).t hbb.1).2 ⟨m, hmem.out, hbb.2⟩
                        simp [okB, hbb.1, hl]))
                      clear hbb
                      go_wp2_with fail
                      refine wp_region_ext (by kernel_rfl) (by kernel_rfl) ?_
                      repeat (go_big_quiet_step ((go_at_call 65; refine calls_ext (HQ.out _))))
                      refine wpQuiet_nil ?_
                      intro _ hw'
                      obtain ⟨q, hw''⟩ := hw'
                      subst hw''
                      have HFQ := hid (hJ.out.1.fr.trans0 q.fr)
                      generalize q.out = wq at HFQ ⊢
                      clear q f0 f1 f2 f3 f4 f5 g0 g1 g2 g3 g4 g5 cj HQ
                      go_wp2
                      go_ret
                      exact ⟨by rw [HS.out]; rfl, HFQ.out⟩
                    | false =>
                      rw [hbb] at HQ
                      have HNX : Hid (∀ m ∈ ins.take (j + 1), ¬ (0 ≤ (spOf S i).t ∧ (spOf S i).t < (spOf S m).f)) := hid (fun z hz => by
                        rw [HMJ.out] at hz
                        rcases List.mem_append.1 hz with hz | hz
                        · exact hJ.out.2 z hz
                        · rw [List.mem_singleton.1 hz]
                          rintro ⟨h1, h2⟩
                          simp [h1, h2] at hbb)
                      clear hbb
                      go_wp2_with fail
                      refine wp_region_ext (by kernel_rfl) (by kernel_rfl) ?_
                      repeat (go_big_quiet_step ((go_at_call 65; refine calls_ext (HQ.out _))))
                      refine wpQuiet_nil ?_
                      intro _ hw'
                      obtain ⟨q, hw''⟩ := hw'
                      subst hw''
                      have HFQ := hid (hJ.out.1.fr0 q.fr)
                      generalize q.out = wq at HFQ ⊢
                      clear q f0 f1 f2 f3 f4 f5 g0 g1 g2 g3 g4 g5 cj HQ
                      go_wp2
                      go_roundw
                      case rel => exact ⟨j + 1, by go_num, by omega, hid ⟨HFQ.out, HNX.out⟩⟩
                      case measure => simp [intOf]; omega
                  · have hjk' : j = k := by omega
                    subst hjk'
                    have hlen : ins.length = j := by have := congrArg List.length HA.out.2.2.2.2.2; simp [ints] at this; omega
                    have hok : okB S i ins T (latL S ins) = true := by
                      have h1 := HXN.out
                      have h2 := HMM.out
                      have h3 := HCD.out
                      by_cases ht : 0 ≤ (spOf S i).t
                      · have h4 : ¬ (spOf S i).t < latL S ins := fun hl => by
                          obtain ⟨m, hm, hmf⟩ := (latL_iff S ins _ ht).1 hl
                          exact hJ.out.2 m (by rw [List.take_of_length_le (by omega)]; exact hm) ⟨ht, hmf⟩
                        simp [okB, h1, h2, h3, h4]
                      · simp [okB, h1, h2, h3, ht]
                    have HE2 : Hid (∃ ins' T' L', RHold w wr g p p S.length ins' L' ∧ Alike T' L' ∧ L'.length ≤ j + 1 ∧ o.take (j + 1) = ints ins' ∧ (∀ i ∈ ins', i < S.length) ∧ holdsR S o [] [] (-1) = holdsR S (o.drop (j + 1)) ins' T' (latL S ins')) := hid
                      ⟨ins ++ [i], _, _, hJ.out.1, (alike_do HA.out.2.2.2.1 (spOf S i).d.k (spOf S i).d.x).2, by have := rdo_length L (spOf S i).d.k (spOf S i).d.x; have := HA.out.2.2.2.2.1; omega,
                        by rw [HTK.out, HA.out.2.2.2.2.2]; simp [ints], fun z hz => by
                          rcases List.mem_append.1 hz with hz | hz
                          · exact HA.out.2.1 z hz
                          · rw [List.mem_singleton.1 hz]; exact HXN.out,
                        by rw [HA.out.2.2.1, HDR.out, hok, latL_snoc]; simp⟩
                    clear hok hlen
                    go_wp2
                    go_roundw
                    case rel => exact ⟨j + 1, by go_num, by omega, HE2⟩
                    case measure => simp [intOf]; omega
              · have hcb : ((hdo T (spOf S i).d.k (spOf S i).d.x).1 != 0) = true := by simp [hcode]
                have HS := hid (stop.out (by simp [okB, hcode]))
                clear hcode
                go_wp2
                go_ret
                exact ⟨by rw [HS.out]; rfl, HA3.out.fr⟩
          · have hb1 : decide (S.length ≤ i) = true := by simp; omega
            have HS := hid (stop.out (by simp only [okB, show decide ((i : Int) < S.length) = false by simp; omega, Bool.false_and, Bool.and_false]))
            clear hxn
            go_wp2
            go_ret
            exact ⟨by rw [HS.out]; rfl, HA.out.1.fr⟩
      · have hkl : k = o.length := by omega
        subst hkl
        have HE : Hid (holdsM S o = endsB S ins) := hid (by rw [HM.out, HA.out.2.2.1, List.drop_length]; rfl)
        go_wp2_with fail
        obtain ⟨wo, rfl⟩ : ∃ wo : World, wo = wr := ⟨_, rfl⟩
        go_loopw [10] (fun i wr => ∃ k : Nat, i = .int .i64 k ∧ k ≤ S.length ∧ Hid (RHold w wr g p p S.length ins L ∧ ∀ i, i < k → 0 ≤ (spOf S i).t → i ∈ ins)) (fun i _ => S.length - (intOf i).toNat)
        case atStart => exact ⟨0, rfl, Nat.zero_le _, hid ⟨HA.out.1, fun i hi => absurd hi (by omega)⟩⟩
        case round =>
          obtain ⟨i, rfl, hi, hR⟩ := hrel
          clear HA
          have hlS := hln.out
          by_cases hlt : i < S.length
          · have i2 := fun W => H.out.1.index cap i hlt W
            have i3 := fun W => index60 g S.length S.length i hlt W
            have hlk := hR.out.1.cell i hlt
            have HXN := hid hlt
            have HSi := hid (spOf_get hlt)
            obtain ⟨-, -, -, -, -, c5⟩ := (H.out.1.fr0 hR.out.1.fr).at i hlt
            rw [← HSi.out] at c5
            by_cases ht : 0 ≤ (spOf S i).t
            · have htb : decide (0 ≤ (spOf S i).t) = true := by simp [ht]
              have HT := hid ht
              clear ht
              by_cases hmem : i ∈ ins
              · rw [decide_eq_true hmem] at hlk
                have HNX : Hid (∀ j, j < i + 1 → 0 ≤ (spOf S j).t → j ∈ ins) := hid (fun j hj hjt => by
                  by_cases e : j = i
                  · subst e; exact hmem
                  · exact hR.out.2 j (by omega) hjt)
                clear hmem
                go_wp2
                go_roundw
                case rel => exact ⟨i + 1, by go_num, by omega, hid ⟨hR.out.1, HNX.out⟩⟩
                case measure => simp [intOf]; omega
              · rw [decide_eq_false hmem] at hlk
                have HX : Hid (holdsM S o = false) := hid (by
                  rw [HE.out]
                  cases he : endsB S ins with
                  | false => rfl
                  | true => exact absurd ((endsB_split S ins).1 he i HXN.out HT.out) hmem)
                clear hmem
                go_wp2
                go_ret
                exact ⟨by rw [HX.out]; rfl, hR.out.1.fr⟩
            · have htb : decide (0 ≤ (spOf S i).t) = false := by simp [ht]
              have HNX : Hid (∀ j, j < i + 1 → 0 ≤ (spOf S j).t → j ∈ ins) := hid (fun j hj hjt => by
                by_cases e : j = i
                · subst e; exact absurd hjt ht
                · exact hR.out.2 j (by omega) hjt)
              clear ht
              go_wp2
              go_roundw
              case rel => exact ⟨i + 1, by go_num, by omega, hid ⟨hR.out.1, HNX.out⟩⟩
              case measure => simp [intOf]; omega
          · have hkl : i = S.length := by omega
            subst hkl
            have HX : Hid (holdsM S o = true) := hid (by rw [HE.out]; exact (endsB_split S ins).2 hR.out.2)
            go_wp2
            go_ret
            exact ⟨by rw [HX.out]; rfl, hR.out.1.fr⟩
  · have hcb : (chk S != 0) = true := by simpa using hch
    have HM : Hid (holdsM S o = false) := hid (by simp [holdsM, hch])
    clear hch h h2
    generalize chk S = c at HC hcb
    go_enter Try.func33, Try.ntmps33
    go_wp2_with fail
    refine HC.mono ?_
    rintro e w1 ⟨rfl, hf1⟩
    clear HC
    go_wp2
    go_ret
    exact ⟨by rw [HM.out]; rfl, hf1⟩
end Go.Proofs.Ytjaabbjobnfmmaa

/-
  order.Line, walked.
-/
import Derived.Test.YtjaabbjobnfmmaaGLine
import Derived.StillTailTactics
namespace Go.Proofs.Ytjaabbjobnfmmaa
open Go.RowKit

/-- Behind the reading of a map's entry, the row of what is appended laid. -/
structure EntA (w0 w W2 : World) (bb : Nat) (s : Nat → Sp) (p : Nat → Nat) (τ : List Nat) (d : Dd) (v0 : Value) (E : List (Dd × Value)) (i : Nat) (st : Int) (c b : Nat) : Prop where
  own : W2.ownsRow w0.heap.size 78 1 v0 (byL s τ d).length ((byL s τ d).map (pv p))
  news : ∀ j u, [Value.pointer (some ⟨p c, 0, none⟩)][j]? = some u → W2.cell? ((⟨b, 0, none⟩ : Addr).add j) = some u
  base : w0.heap.size ≤ W2.heap.size
  fr : Fr (fun i => i = bb) w W2
  st : MapSt Try.prog 84 W2 bb (kvE E) i st
  idx : (kvE E)[i]? = some (d.val, v0)
  ne : v0.ownBlock ≠ some bb

theorem EntA.ofA {w0 w W2 : World} {bb : Nat} {s : Nat → Sp} {p : Nat → Nat} {τ : List Nat} {cb : Option Nat} {d : Dd} {v0 : Value} {E : List (Dd × Value)} {i : Nat} {st : Int} {c : Nat}
    (hE : ByE w w0.heap.size s p τ cb E) (hi : E[i]? = some (d, v0)) (h1 : MapSt Try.prog 84 W2 bb (kvE E) i st) (h2 : ((w.alloc (.cells #[.pointer (some ⟨p c, 0, none⟩)] 78)).drew).mapTurned W2 bb) (hs : w0.heap.size ≤ w.heap.size) (hby : ByOwn w w0.heap.size bb s p τ cb) :
    EntA w0 w W2 bb s p τ d v0 E i st c w.heap.size := by
  obtain ⟨E0, hM, _⟩ := hby
  obtain ⟨es, clk, hbb, _⟩ := id hM
  have hf : Fr (fun i => i = bb) w W2 := ((Fr.refl (fun i => i = bb) w).alloc (.cells #[.pointer (some ⟨p c, 0, none⟩)] 78)).drew.turned h2 (fun _ => rfl)
  have f2 : Fr (fun i => i = bb) ((w.alloc (.cells #[.pointer (some ⟨p c, 0, none⟩)] 78)).drew) W2 := (Fr.refl (fun i => i = bb) _).turned h2 (fun _ => rfl)
  have hown := (hE.1 _ (List.mem_of_getElem? hi)).1
  have hlt := lt_of_block hbb
  refine ⟨own_fr hown hf (own_ne_map hown hbb), ?_, Nat.le_trans hs hf.size, hf, h1, by simp [kvE, hi], fun e => own_ne_map hown hbb bb e rfl⟩
  exact World.news_of_block (cs := #[.pointer (some ⟨p c, 0, none⟩)]) (t := 78) (fr := (0, 0)) (f2.at (alloc_block w _) (by omega))

theorem EntA.ofB {w0 w W1 : World} {bb : Nat} {s : Nat → Sp} {p : Nat → Nat} {τ : List Nat} {cb : Option Nat} {d : Dd} {v0 : Value} {E : List (Dd × Value)} {i : Nat} {st : Int} {c : Nat}
    (hE : ByE w w0.heap.size s p τ cb E) (hi : E[i]? = some (d, v0)) (h1 : MapSt Try.prog 84 W1 bb (kvE E) i st) (h2 : w.drew.mapTurned W1 bb) (hs : w0.heap.size ≤ w.heap.size) (hby : ByOwn w w0.heap.size bb s p τ cb) :
    EntA w0 w (W1.alloc (.cells #[.pointer (some ⟨p c, 0, none⟩)] 78)) bb s p τ d v0 E i st c W1.heap.size := by
  obtain ⟨E0, hM, _⟩ := hby
  obtain ⟨es, clk, hbb, _⟩ := id hM
  have hf : Fr (fun i => i = bb) w (W1.alloc (.cells #[.pointer (some ⟨p c, 0, none⟩)] 78)) := ((Fr.refl (fun i => i = bb) w).drew.turned h2 (fun _ => rfl)).alloc _
  have hown := (hE.1 _ (List.mem_of_getElem? hi)).1
  refine ⟨own_fr hown hf (own_ne_map hown hbb), ?_, Nat.le_trans hs hf.size, hf, h1.block ((fr0_alloc W1 _).block bb h1.lt id), by simp [kvE, hi], fun e => own_ne_map hown hbb bb e rfl⟩
  exact World.news_of_block (cs := #[.pointer (some ⟨p c, 0, none⟩)]) (t := 78) (fr := (0, 0)) (alloc_block W1 _)

theorem EntA.store {w0 w W2 W3 : World} {bb : Nat} {s : Nat → Sp} {p : Nat → Nat} {τ : List Nat} {d : Dd} {v0 : Value} {E : List (Dd × Value)} {i : Nat} {st : Int} {c b : Nat}
    (h : EntA w0 w W2 bb s p τ d v0 E i st c b) (hg : W2.grownBy W3 v0.ownBlock) (v : Value) :
    ∃ W4, (Instr.entryStore 74 (.map (some bb)) (.int .i64 st) v).run Try.prog W3 = .ok () W4 ∧ MapIs Try.prog 84 W4 bb ((kvE E).set i (d.val, v)) ∧ W3.mapTurned W4 bb :=
  (h.st.block (hg.block bb h.st.lt (fun e => h.ne e.symm))).store h.idx v

theorem alloc_first (w : World) (o o' : Obj) : ((w.alloc o).alloc o').heap[w.heap.size]? = some o := ((Fr.refl (fun _ => False) (w.alloc o)).alloc o').at (alloc_block w o) id
theorem alloc2_size (w : World) (o o' : Obj) : ((w.alloc o).alloc o').heap.size = w.heap.size + 2 := by simp
theorem news_one (w : World) (o : Obj) (x : Value) (t : TypeId) (b : Nat) (hb : b = (w.alloc o).heap.size) : ∀ j u, [x][j]? = some u → ((w.alloc o).alloc (.cells #[x] t)).drew.cell? ((⟨b, 0, none⟩ : Addr).add j) = some u := by
  subst hb
  exact World.news_of_block (cs := #[x]) (t := t) (fr := (0, 0)) (alloc_block (w.alloc o) _)

set_option maxRecDepth 100000 in
set_option maxHeartbeats 40000000 in
theorem line_any (a : Option Addr) (b off cap : Nat) (l : List Sp) (s : Nat → Sp) (hs : ∀ i (h : i < l.length), s i = l[i]) (w : World) (h : SpansIn w a b off l) (hch : chk l = 0) :
    Calls Try.prog 26 #[.slice a l.length cap] w fun e w' => Fr0 w w' ∧ ∃ σ : List Nat, σ.Perm (List.range l.length) ∧ Srt (fun i => (s i).t) σ ∧ LineRes w w' e (lall s σ (l.length + 1) σ [] []) := by
  have HC := check_any a b off cap l w h
  rw [hch] at HC
  have HS := hid h
  have HSS := hid hs
  have hmm := @run_makeMap Try.prog
  have HI := hid (info_parts info78)
  have hln : Hid (l.length ≤ 256) := hid (by unfold chk at hch; split at hch <;> omega)
  have hT : Hid (∀ i, i < l.length → -1 ≤ (s i).t) := hid (fun i hi => by
    have hall : l.all mayB = true := by
      unfold chk at hch
      split at hch
      · simp at hch
      · split at hch
        · assumption
        · simp at hch
    have := List.all_eq_true.1 hall l[i] (List.getElem_mem hi)
    rw [hs i hi]
    simp only [mayB, timeB, Bool.and_eq_true, decide_eq_true_eq] at this
    omega)
  have hWf : Hid (∀ i, i < l.length → (s i).wf) := hid (fun i hi => by rw [hs i hi]; exact h.wf _ (List.getElem_mem hi))
  clear h hch hs
  go_enter Try.func26, Try.ntmps26
  go_wp2_with fail
  refine HC.mono ?_
  rintro e w1 ⟨rfl, hf1⟩
  have HF1 := hid hf1
  clear hf1 HC
  go_wp2_with fail
  refine (new_any w1).mono ?_
  rintro e w2 ⟨rfl, hf2, hh2⟩
  have H2 := hid (And.intro (HF1.out.trans0 hf2) (And.intro hh2 (And.intro HF1.out.size hf2.size)))
  generalize w1.heap.size + 1 = hp at H2 ⊢
  generalize w1.heap.size = hb at H2 ⊢
  clear hf2 hh2 HF1
  go_wp2_with fail
  have HG0 : Hid (Grow w ((w2.alloc (.map #[] 0)).alloc (boxO (.pointer (some ⟨hp, 0, none⟩)) (.slice none 0 0) (.map (some w2.heap.size)) (.slice none 0 0))) (w2.heap.size + 1) hp hb w2.heap.size s (fun _ => 0) 0 (.slice none 0 0)) := hid (by
    obtain ⟨hF, hH, h1, h2⟩ := H2.out
    have hlt := hH.2.1.1.lt
    refine ⟨(hF.alloc _).alloc _, ?_, hH.fr0 (fr0_alloc2 _ _ _), (MapIs.made w2 Try.prog 84).alloc _, fun i hi => absurd hi (by omega), fun i j hi => absurd hi (by omega), ⟨rfl, .inl ⟨rfl, rfl⟩⟩, by have := hF.size; omega, h1, fun i hi => absurd hi (by omega), by omega, hF.size⟩
    have := alloc_block (w2.alloc (.map #[] 0)) (boxO (.pointer (some ⟨hp, 0, none⟩)) (.slice none 0 0) (.map (some w2.heap.size)) (.slice none 0 0))
    simpa using this)
  unfold boxO at HG0
  generalize (w2.alloc (.map #[] 0)).alloc _ = w3 at HG0 ⊢
  generalize w2.heap.size + 1 = pm at HG0 ⊢
  generalize w2.heap.size = bb at HG0 ⊢
  clear H2 hmm
  go_loopw [25] (fun i wr => ∃ k : Nat, i = .int .i64 k ∧ k ≤ l.length ∧ Hid (∃ p cs, Grow w wr pm hp hb bb s p k cs)) (fun i _ => l.length - (intOf i).toNat)
  case atStart => exact ⟨0, rfl, Nat.zero_le _, hid ⟨_, _, HG0.out⟩⟩
  case round =>
    obtain ⟨k, rfl, hk, hR⟩ := hrel
    clear HG0
    by_cases hlt : k < l.length
    · obtain ⟨p, cs, hG⟩ := hR.out
      have hSp := HS.out.fr0 hG.fr
      have hix := fun W => hSp.index cap k hlt W
      obtain ⟨c0, c1, c2, c3, c4, c5⟩ := hSp.at k hlt
      rw [← HSS.out k hlt] at c0 c1 c2 c3 c4 c5
      have HG := hid hG
      clear hG hR hSp
      go_wp2_with fail
      clear c0 c1 c2 c3 c4 c5 hix
      have HX : Hid ((wr.alloc (.cells #[.int .i64 (s k).d.k, .int .i64 (s k).d.x.c, .int .i64 (s k).d.x.s, .int .i64 (s k).d.x.o, .int .i64 (s k).f, .int .i64 (s k).t] 50)).heap[wr.heap.size]? = some (.cells #[.int .i64 (s k).d.k, .int .i64 (s k).d.x.c, .int .i64 (s k).d.x.s, .int .i64 (s k).d.x.o, .int .i64 (s k).f, .int .i64 (s k).t] 50 (0, 0)) ∧
          Grow w (wr.alloc (.cells #[.int .i64 (s k).d.k, .int .i64 (s k).d.x.c, .int .i64 (s k).d.x.s, .int .i64 (s k).d.x.o, .int .i64 (s k).f, .int .i64 (s k).t] 50)) pm hp hb bb s p k cs) := hid ⟨alloc_block _ _, HG.out.fr0 (fr0_alloc _ _)⟩
      generalize wr.alloc _ = wx at HX ⊢
      generalize wr.heap.size = q at HX ⊢
      have c0 : wx.cell? ⟨q, 0, none⟩ = some (.int .i64 (s k).d.k) := cell_of_block HX.out.1 0
      have c1 : wx.cell? ⟨q, 1, none⟩ = some (.int .i64 (s k).d.x.c) := cell_of_block HX.out.1 1
      have c2 : wx.cell? ⟨q, 2, none⟩ = some (.int .i64 (s k).d.x.s) := cell_of_block HX.out.1 2
      have c3 : wx.cell? ⟨q, 3, none⟩ = some (.int .i64 (s k).d.x.o) := cell_of_block HX.out.1 3
      have c4 : wx.cell? ⟨q, 4, none⟩ = some (.int .i64 (s k).f) := cell_of_block HX.out.1 4
      have c5 : wx.cell? ⟨q, 5, none⟩ = some (.int .i64 (s k).t) := cell_of_block HX.out.1 5
      have cm : wx.cell? ⟨pm, 1, none⟩ = some cs := cell_of_block HX.out.2.box 1
      have lm := lt_of_block HX.out.2.box
      have lq := lt_of_block HX.out.1
      have em : cs.ownBlock ≠ some pm := fun e => own_ne HX.out.2.own HX.out.2.box (by decide) pm e rfl
      have fa : ∀ o o', ((wx.alloc o).alloc o').drew.cell? ⟨pm, 1, none⟩ = some cs ∧ ((wx.alloc o).alloc o').drew.frozen? ⟨pm, 1, none⟩ = false := fun o o' =>
        ⟨cell_of_block ((fr0_alloc2 wx o o').drew.at HX.out.2.box id) 1, free_of_block ((fr0_alloc2 wx o o').drew.at HX.out.2.box id) 1⟩
      go_region_law ((refine step_append_lies _ (by rfl) _ _ _ (by rfl) w.heap.size 78 HI.out.choose _ 1 8 Try.underlying75 HI.out.choose_spec.1 HI.out.choose_spec.2.1 HI.out.choose_spec.2.2.1 HI.out.choose_spec.2.2.2 rfl (by omega) cs k ((List.range k).map (pv p)) (by simp [Act.eval]) ((HX.out.2.own.alloc _).alloc _).drew ⟨wx.heap.size + 1, 0, none⟩ 1 1 [.pointer (some ⟨wx.heap.size, 0, none⟩)] (by simp [Act.eval]) (by rfl) (news_one _ _ _ _ _ (by simp)) (by simp [Value.oneCell']) (by omega) (by have := hln.out; simp only [maxLen]; omega) (by have := hln.out; omega) (by have := HX.out.2.fr.size; simp only [World.drew, World.alloc, Array.size_push]; omega) (wx.heap.size + 2) (by simp) ?_; intro gg cp w2 hown1 hgrow hat hlt2; have cm2 : w2.cell? ⟨pm, 1, none⟩ = some cs := (hgrow.cell_far _ (Nat.lt_of_lt_of_le lm (by simp; omega)) (Ne.symm em)).trans (fa _ _).1; have fm2 : w2.frozen? ⟨pm, 1, none⟩ = false := (hgrow.frozen_far _ (Nat.lt_of_lt_of_le lm (by simp; omega)) (Ne.symm em)).trans (fa _ _).2))
      all_goals
        have HE := hid (HX.out.2.step (b := wx.heap.size) (alloc_first wx _ _) (Nat.le_refl _) (fr0_alloc2 wx _ _) hgrow hown1 (by rw [alloc2_size]; exact hat))
        clear hgrow hown1 hat hlt2 cm2 fm2 c0 c1 c2 c3 c4 c5 cm lm lq em fa HX HG
        have hl := hln.out
        go_wp2
        go_roundw
        case rel => exact ⟨k + 1, by go_num, by omega, hid ⟨_, _, HE.out⟩⟩
        case measure => simp [intOf]; omega
    · have hkl : k = l.length := by omega
      subst hkl
      obtain ⟨p, cs, hG⟩ := hR.out
      have HG := hid hG
      have cm : wr.cell? ⟨pm, 1, none⟩ = some cs := cell_of_block hG.box 1
      clear hG hR HSS
      go_wp2_with fail
      refine (sort_any HG.out (by have := hln.out; omega) hT.out).mono ?_
      rintro e w4 ⟨rfl, σ, hσ, hsrt, hF⟩
      have HSG := hid (And.intro hσ hsrt)
      have hσl : σ.length = l.length := by rw [hσ.length_eq]; simp
      have HF := hid hF
      obtain ⟨a1, cap1, hva, -⟩ := hF.row
      subst hva
      have cm : w4.cell? ⟨pm, 1, none⟩ = some (.slice a1 σ.length cap1) := cell_of_block hF.box 1
      have hl8 : σ.length ≤ 256 := by rw [hσl]; exact hln.out
      have HSL := hid hσl
      clear hF hσ hsrt HG hσl hk
      go_wp2_with fail
      clear cm
      go_loopw [54] (fun i wr => ∃ k : Nat, i = .int .i64 k ∧ k ≤ σ.length ∧ Hid (Fill w wr pm hp hb bb s p l.length σ (.slice a1 σ.length cap1) k)) (fun i _ => σ.length - (intOf i).toNat)
      case atStart => exact ⟨0, rfl, Nat.zero_le _, HF.out⟩
      case round =>
        obtain ⟨k, rfl, hk, hR⟩ := hrel
        clear HF
        by_cases hlt : k < σ.length
        · obtain ⟨a', cap', hva, hr0⟩ := hR.out.row
          obtain ⟨g, hag, hr⟩ := hr0 (by omega)
          obtain ⟨rfl, -, rfl⟩ : a1 = a' ∧ σ.length = σ.length ∧ cap1 = cap' := by simpa using hva
          subst hag
          have hix := fun W => index75 g σ.length cap1 k hlt W
          have hce := hr.cell k hlt
          have hcn : Hid (σ[k] < l.length) := hid (List.mem_range.1 (HSG.out.1.mem_iff.1 (List.getElem_mem hlt)))
          obtain ⟨c, hcc⟩ : ∃ c, σ[k] = c := ⟨_, rfl⟩
          have HK := hcc
          rw [hcc] at hce hcn
          clear hcc
          simp only [pv] at hce
          have hblk := hR.out.calls c hcn.out
          have c0 : wr.cell? ⟨p c, 0, none⟩ = some (.int .i64 (s c).d.k) := cell_of_block hblk 0
          have c1 : wr.cell? ⟨p c, 1, none⟩ = some (.int .i64 (s c).d.x.c) := cell_of_block hblk 1
          have c2 : wr.cell? ⟨p c, 2, none⟩ = some (.int .i64 (s c).d.x.s) := cell_of_block hblk 2
          have c3 : wr.cell? ⟨p c, 3, none⟩ = some (.int .i64 (s c).d.x.o) := cell_of_block hblk 3
          have n0 := World.new_ne wr _ c0
          have n1 := World.new_ne wr _ c1
          clear hr0 hr hva hblk
          go_wp2_with fail
          go_region_held3 (fun w' => w'.cell? ⟨p c, 0, none⟩ = some (.int .i64 (s c).d.k) ∧ w'.cell? ⟨p c, 1, none⟩ = some (.int .i64 (s c).d.x.c) ∧ w'.cell? ⟨p c, 2, none⟩ = some (.int .i64 (s c).d.x.s) ∧ w'.cell? ⟨p c, 3, none⟩ = some (.int .i64 (s c).d.x.o)) (go_keep) (fail)
          go_wp2_with fail
          clear c0 c1 c2 c3 n0 n1 hix hce
          go_split_ands
          have HX : Hid ((wr.alloc (.cells #[.int .i64 (s c).d.k, .int .i64 (s c).d.x.c, .int .i64 (s c).d.x.s, .int .i64 (s c).d.x.o] 84)).drew.heap[wr.heap.size]? = some (.cells #[.int .i64 (s c).d.k, .int .i64 (s c).d.x.c, .int .i64 (s c).d.x.s, .int .i64 (s c).d.x.o] 84 (0, 0)) ∧
              Fill w (wr.alloc (.cells #[.int .i64 (s c).d.k, .int .i64 (s c).d.x.c, .int .i64 (s c).d.x.s, .int .i64 (s c).d.x.o] 84)).drew pm hp hb bb s p l.length σ (.slice (some ⟨g, 0, none⟩) σ.length cap1) k) := hid ⟨alloc_block wr _, hR.out.fr0 (fr0_alloc wr _).drew⟩
          clear hR
          generalize (wr.alloc _).drew = wx at HX ⊢
          generalize wr.heap.size = q at HX ⊢
          have c0 : wx.cell? ⟨q, 0, none⟩ = some (.int .i64 (s c).d.k) := cell_of_block HX.out.1 0
          have c1 : wx.cell? ⟨q, 1, none⟩ = some (.int .i64 (s c).d.x.c) := cell_of_block HX.out.1 1
          have c2 : wx.cell? ⟨q, 2, none⟩ = some (.int .i64 (s c).d.x.s) := cell_of_block HX.out.1 2
          have c3 : wx.cell? ⟨q, 3, none⟩ = some (.int .i64 (s c).d.x.o) := cell_of_block HX.out.1 3
          have cm : wx.cell? ⟨pm, 2, none⟩ = some (.map (some bb)) := cell_of_block HX.out.2.box 2
          have lm := lt_of_block HX.out.2.box
          have lq := lt_of_block HX.out.1
          obtain ⟨E, i, v0, hE, hi, hone, hent⟩ := HX.out.2.by_.entry (s c).d (hWf.out c hcn.out).1
          obtain ⟨wA, stA, hA, hA1, hA2⟩ := hent ((wx.alloc (.cells #[.pointer (some ⟨p c, 0, none⟩)] 78)).drew) (fr0_alloc _ _).drew
          obtain ⟨wB, stB, hB, hB1, hB2⟩ := hent wx.drew (Fr.refl _ wx).drew
          have HE := hid (And.intro hE (And.intro hi hone))
          have HA : Hid (EntA w wx wA bb s p (σ.take k) (s c).d v0 E i stA c wx.heap.size) := hid (EntA.ofA hE hi hA1 hA2 HX.out.2.fr.size HX.out.2.by_)
          have HB : Hid (EntA w wx (wB.alloc (.cells #[.pointer (some ⟨p c, 0, none⟩)] 78)) bb s p (σ.take k) (s c).d v0 E i stB c wB.heap.size) := hid (EntA.ofB hE hi hB1 hB2 HX.out.2.fr.size HX.out.2.by_)
          have hml : (byL s (σ.take k) (s c).d).length ≤ 256 := Nat.le_trans (List.length_filter_le _ _) (by simp; omega)
          simp only [Dd.val] at hA hB
          clear hE hi hone hent hA1 hA2 hB1 hB2
          go_region_law (first | (refine step_append_lies _ (by rfl) _ _ _ (by rfl) w.heap.size 78 HI.out.choose _ 1 8 Try.underlying75 HI.out.choose_spec.1 HI.out.choose_spec.2.1 HI.out.choose_spec.2.2.1 HI.out.choose_spec.2.2.2 rfl (by omega) v0 (byL s (σ.take k) (s c).d).length ((byL s (σ.take k) (s c).d).map (pv p)) (by first | (simp [Act.eval]; done) | simp [Act.eval, Act.put]) HA.out.own ⟨wx.heap.size, 0, none⟩ 1 1 [.pointer (some ⟨p c, 0, none⟩)] (by first | (simp [Act.eval]; done) | simp [Act.eval, Act.put]) (by rfl) HA.out.news (by simp [Value.oneCell']) (by omega) (by simp only [maxLen]; omega) (by omega) HA.out.base _ rfl ?_; intro gg cp w3 hown1 hgrow hat hlt2; obtain ⟨w4, hrun4, hend⟩ := HA.out.store hgrow (.slice (some ⟨gg, 0, none⟩) ((byL s (σ.take k) (s c).d).length + 1) cp); have HF := hid (HX.out.2.step hlt HK HE.out.1 HE.out.2.1 HE.out.2.2 HA.out.fr hgrow hown1 hat hend.1 hend.2)) | (refine step_append_lies _ (by rfl) _ _ _ (by rfl) w.heap.size 78 HI.out.choose _ 1 8 Try.underlying75 HI.out.choose_spec.1 HI.out.choose_spec.2.1 HI.out.choose_spec.2.2.1 HI.out.choose_spec.2.2.2 rfl (by omega) v0 (byL s (σ.take k) (s c).d).length ((byL s (σ.take k) (s c).d).map (pv p)) (by first | (simp [Act.eval]; done) | simp [Act.eval, Act.put]) HB.out.own ⟨wB.heap.size, 0, none⟩ 1 1 [.pointer (some ⟨p c, 0, none⟩)] (by first | (simp [Act.eval]; done) | simp [Act.eval, Act.put]) (by rfl) HB.out.news (by simp [Value.oneCell']) (by omega) (by simp only [maxLen]; omega) (by omega) HB.out.base _ rfl ?_; intro gg cp w3 hown1 hgrow hat hlt2; obtain ⟨w4, hrun4, hend⟩ := HB.out.store hgrow (.slice (some ⟨gg, 0, none⟩) ((byL s (σ.take k) (s c).d).length + 1) cp); have HF := hid (HX.out.2.step hlt HK HE.out.1 HE.out.2.1 HE.out.2.2 HB.out.fr hgrow hown1 hat hend.1 hend.2)))
          all_goals
            clear hown1 hgrow hat hlt2 hend hrun4 HA HB HE HX hA hB c0 c1 c2 c3 cm lm lq
            go_wp2
            go_roundw
            case rel => exact ⟨k + 1, by go_num, by omega, HF⟩
            case measure => simp [intOf]; omega
        · have hkl : k = σ.length := by omega
          subst hkl
          have HL := hid (hR.out.whole (Nat.le_refl _) (fun i hi => List.mem_range.1 (HSG.out.1.mem_iff.1 hi)) (HSG.out.1.nodup_iff.2 List.nodup_range) hWf.out)
          clear hR hk hlt
          have cm : wr.cell? ⟨pm, 1, none⟩ = some (.slice a1 σ.length cap1) := HL.out.cell1
          go_wp2_with fail
          clear cm
          obtain ⟨wo, rfl⟩ : ∃ wo : World, wo = wr := ⟨_, rfl⟩
          go_loopw [88] (fun i wr => ∃ k : Nat, i = .int .i64 k ∧ k ≤ σ.length ∧ Hid (∃ out T, LineAt w wr pm hp hb bb s p l.length σ (.slice a1 σ.length cap1) out T ∧ Good l.length out ∧ lall s σ (l.length + 1) σ [] [] = lall s σ (l.length + 1) (σ.drop k) out T)) (fun i _ => σ.length - (intOf i).toNat)
          case atStart => exact ⟨0, rfl, Nat.zero_le _, hid ⟨[], [], HL.out, ⟨List.nodup_nil, by simp⟩, rfl⟩⟩
          case round =>
            obtain ⟨k, rfl, hk, hR⟩ := hrel
            clear HL
            obtain ⟨out, T, hL, hG, hE⟩ := hR.out
            have HLG := hid (And.intro hL (And.intro hG hE))
            clear hL hG hE hR
            by_cases hlt : k < σ.length
            · obtain ⟨a', cap', hva, hr0⟩ := HLG.out.1.row
              obtain ⟨g, hag, hr⟩ := hr0 (by omega)
              obtain ⟨rfl, -, rfl⟩ : a1 = a' ∧ σ.length = σ.length ∧ cap1 = cap' := by simpa using hva
              subst hag
              have hix := fun W => index75 g σ.length cap1 k hlt W
              have hce := hr.cell k hlt
              have hcn : Hid (σ[k] < l.length) := hid (List.mem_range.1 (HSG.out.1.mem_iff.1 (List.getElem_mem hlt)))
              have HDR0 := hid (List.drop_eq_getElem_cons hlt)
              obtain ⟨c, hcc⟩ : ∃ c, σ[k] = c := ⟨_, rfl⟩
              rw [hcc] at hce hcn HDR0
              clear hcc hr0 hr hva
              simp only [pv] at hce
              have b5 := (HLG.out.1.callc c hcn.out).2.2.2.2.2.1
              by_cases hneg : (s c).t < 0
              · have HN := hid hneg
                have hnegb : decide ((s c).t < 0) = true := by simp [hneg]
                clear hneg
                obtain ⟨ov, hb1, hb2⟩ := HLG.out.1.box
                have c3 : wr.cell? ⟨pm, 3, none⟩ = some ov := cell_of_block hb1 3
                have HB2 := hid hb2
                clear hb1 hb2
                go_wp2
                go_ret2
                exact ⟨HLG.out.1.fr, σ, HSG.out.1, HSG.out.2, by rw [HLG.out.2.2, HDR0.out, lall, if_pos HN.out]; exact ⟨ov, rfl, HB2.out⟩⟩
              · have HN := hid hneg
                have hnegb : decide ((s c).t < 0) = false := by simp [hneg]
                have HDR : Hid (lall s σ (l.length + 1) (σ.drop k) out T = match lrun s σ c (l.length + 1) out T with | none => none | some (out', T') => lall s σ (l.length + 1) (σ.drop (k + 1)) out' T') := hid (by rw [HDR0.out, lall, if_neg HN.out]; rfl)
                clear hneg
                go_wp2_with fail
                clear hce hix b5 hnegb
                obtain ⟨wo2, rfl⟩ : ∃ wo2 : World, wo2 = wr := ⟨_, rfl⟩
                go_loopw [13] (fun _ wr => Hid (∃ out' T', LineAt w wr pm hp hb bb s p l.length σ (.slice (some ⟨g, 0, none⟩) σ.length cap1) out' T' ∧ RunAt s σ c l.length out T out' T')) (fun _ wr => l.length - outLen wr pm)
                case atStart => exact hid ⟨out, T, HLG.out.1, RunAt.start HLG.out.2.1⟩
                case round =>
                  obtain ⟨out', T', hL', hRun⟩ := hrel.out
                  have HL' := hid hL'
                  have HRun := hid hRun
                  have b7 := (hL'.callc c hcn.out).2.2.2.2.2.2
                  clear hrel hL' hRun
                  cases hd : decide (c ∈ out') with
                  | true =>
                    rw [hd] at b7
                    have HD := hid (of_decide_eq_true hd)
                    have HE4 : Hid (∃ out T, LineAt w wr pm hp hb bb s p l.length σ (.slice (some ⟨g, 0, none⟩) σ.length cap1) out T ∧ Good l.length out ∧ lall s σ (l.length + 1) σ [] [] = lall s σ (l.length + 1) (σ.drop (k + 1)) out T) := hid ⟨out', T', HL'.out, HRun.out.1, by rw [HLG.out.2.2, HDR.out, HRun.out.done HD.out]⟩
                    clear hd
                    go_wp2
                    go_roundw
                    case rel => exact ⟨k + 1, by go_num, by omega, HE4⟩
                    case measure => simp [intOf]; omega
                  | false =>
                    rw [hd] at b7
                    have HCO := hid (of_decide_eq_false hd)
                    clear hd
                    by_cases hk2 : (s c).d.k = 2
                    · have hk2b : ((s c).d.k != 2) = false := by simp [hk2]
                      have HK2 := hid hk2
                      clear hk2
                      have e0 : ∀ q : Ext wr, q.out.cell? ⟨pm, 0, none⟩ = some (.pointer (some ⟨hp, 0, none⟩)) := fun q => (HL'.out.fr0 q.fr).cell0
                      have e1 : ∀ q : Ext wr, q.out.cell? ⟨p c, 0, none⟩ = some (.int .i64 (s c).d.k) := fun q => ((HL'.out.fr0 q.fr).callc c hcn.out).1
                      have e2 : ∀ q : Ext wr, q.out.cell? ⟨p c, 1, none⟩ = some (.int .i64 (s c).d.x.c) := fun q => ((HL'.out.fr0 q.fr).callc c hcn.out).2.1
                      have e3 : ∀ q : Ext wr, q.out.cell? ⟨p c, 2, none⟩ = some (.int .i64 (s c).d.x.s) := fun q => ((HL'.out.fr0 q.fr).callc c hcn.out).2.2.1
                      have e4 : ∀ q : Ext wr, q.out.cell? ⟨p c, 3, none⟩ = some (.int .i64 (s c).d.x.o) := fun q => ((HL'.out.fr0 q.fr).callc c hcn.out).2.2.2.1
                      have HQ : Hid (∀ q : Ext wr, Calls Try.prog 24 #[.pointer (some ⟨hp, 0, none⟩), .agg #[.int .i64 (s c).d.x.c, .int .i64 (s c).d.x.s, .int .i64 (s c).d.x.o]] q.out fun e w' => e = .returned (.bool (decide ((s c).d.x ∈ T'))) ∧ Fr0 q.out w') :=
                        hid (fun q => has_any hp hb T' (s c).d.x (HL'.out.wf c hcn.out).1.2 q.out (HL'.out.heap.fr0 q.fr))

                      go_wp2_with fail
                      refine wp_region_ext (by kernel_rfl) (by kernel_rfl) ?_
                      repeat (go_big_quiet_step ((go_at_call 24; refine calls_ext (HQ.out _))))
                      refine wpQuiet_nil ?_
                      intro _ hw'
                      obtain ⟨q, hw''⟩ := hw'
                      subst hw''
                      have hL1 := HL'.out.fr0 q.fr
                      generalize q.out = W1 at hL1 ⊢
                      have HL1 := hid hL1
                      clear q e0 e1 e2 e3 e4 HQ hL1 b7

                      have HWho : Hid (lwho s σ out' T' c = some c) := hid (by unfold lwho; rw [show stuckB s T' c = false from (by simp [stuckB, HK2.out])]; rfl)
                      have HX := hid (And.intro hcn.out HCO.out)
                      clear hk2b

                      have b0 := (HL1.out.callc c HX.out.1).1
                      cases hk1 : ((s c).d.k == 1) with
                      | true =>
                        have HK1 : Hid ((s c).d.k = 1) := hid (by simpa using hk1)
                        go_wp2_with fail
                        refine (bads_any w W1 pm hp hb bb s p l.length σ (.slice (some ⟨g, 0, none⟩) σ.length cap1) out' T' HL1.out (by omega) (by have := HRun.out.1.len; have := hln.out; omega) c hcn.out).mono ?_
                        rintro e w3 ⟨rfl, hL3⟩
                        have HL3 : Hid (LineAt w w3 pm hp hb bb s p l.length σ (.slice (some ⟨g, 0, none⟩) σ.length cap1) (out' ++ badI s σ out' c) T') := hid hL3
                        have HG2 : Hid (Good l.length (out' ++ badI s σ out' c)) := hid (HRun.out.1.bads HL'.out.sn HL'.out.nd c)
                        clear hL3 b0 hk1
                        have HDo : Hid (∀ W, Fr0 w3 W → Calls Try.prog 22 #[.pointer (some ⟨hp, 0, none⟩), .agg #[.int .i64 (s c).d.k, .int .i64 (s c).d.x.c, .int .i64 (s c).d.x.s, .int .i64 (s c).d.x.o]] W fun e w' => e = .returned (.int .i64 (hdo T' (s c).d.k (s c).d.x).1) ∧ LineAt w w' pm hp hb bb s p l.length σ (.slice (some ⟨g, 0, none⟩) σ.length cap1) (out' ++ badI s σ out' c) (lheap s T' c)) := hid (fun W hW =>
                          (do_any hp hb T' (s c).d.x (HL3.out.wf c HX.out.1).1.2 (s c).d.k W (HL3.out.fr0 hW).heap).mono fun e w' ⟨he, hf, hh⟩ => ⟨he, (HL3.out.fr0 hW).deed hf hh⟩)
                        have q0 := HL3.out.cell0
                        obtain ⟨q1, q2, q3, q4, -, -, -⟩ := HL3.out.callc c HX.out.1
                        go_wp2_with fail
                        go_still_tail 9, (by kernel_rfl)
                        change wpList _ _ _ _ _ (w3).drew
                        have HDD := hid (HDo.out _ (Fr.refl _ _).drew)
                        clear q0 q1 q2 q3 q4 HDo
                        generalize (w3).drew = wD at HDD ⊢
                        go_wp2_with fail
                        refine HDD.out.mono ?_
                        rintro e wA ⟨rfl, hA⟩
                        have HA := hid hA
                        clear hA HDD
                        go_wp2_with fail
                        refine (next_any HA.out c HX.out.1 (by have := HG2.out.len; have := hln.out; omega)).mono ?_
                        rintro e w5 ⟨rfl, hL5, -⟩
                        have HE5 : Hid (LineAt w w5 pm hp hb bb s p l.length σ (.slice (some ⟨g, 0, none⟩) σ.length cap1) (lout s σ out' c c) (lheap s T' c)) := hid (by
                          unfold lout
                          rw [if_pos HK1.out]
                          exact hL5)
                        have HS5 := hid (HRun.out.step HL'.out.sn HL'.out.nd hcn.out HCO.out HWho.out)
                        have HM5 : Hid (l.length - outLen w5 pm < l.length - outLen wr pm) := hid (by
                          rw [HE5.out.outLen_eq, HL'.out.outLen_eq]
                          have h1 := HS5.out.1.len
                          have h2 := lout_len (s := s) (σ := σ) (out := out') (c := c) (x := c)
                          omega)
                        clear hL5 HA
                        go_wp2
                        go_roundw
                        case rel => exact hid ⟨_, _, HE5.out, HS5.out⟩
                        case measure => exact HM5.out
                      | false =>
                        have HK1 : Hid (¬ (s c).d.k = 1) := hid (by simpa using hk1)
                        have HG2 := hid HRun.out.1
                        have HDo : Hid (∀ W, Fr0 W1 W → Calls Try.prog 22 #[.pointer (some ⟨hp, 0, none⟩), .agg #[.int .i64 (s c).d.k, .int .i64 (s c).d.x.c, .int .i64 (s c).d.x.s, .int .i64 (s c).d.x.o]] W fun e w' => e = .returned (.int .i64 (hdo T' (s c).d.k (s c).d.x).1) ∧ LineAt w w' pm hp hb bb s p l.length σ (.slice (some ⟨g, 0, none⟩) σ.length cap1) out' (lheap s T' c)) := hid (fun W hW =>
                          (do_any hp hb T' (s c).d.x (HL1.out.wf c HX.out.1).1.2 (s c).d.k W (HL1.out.fr0 hW).heap).mono fun e w' ⟨he, hf, hh⟩ => ⟨he, (HL1.out.fr0 hW).deed hf hh⟩)
                        have q0 := HL1.out.cell0
                        obtain ⟨q1, q2, q3, q4, -, -, -⟩ := HL1.out.callc c HX.out.1
                        go_wp2_with fail
                        go_still_tail 9, (by kernel_rfl)
                        change wpList _ _ _ _ _ (W1).drew
                        have HDD := hid (HDo.out _ (Fr.refl _ _).drew)
                        clear q0 q1 q2 q3 q4 HDo
                        generalize (W1).drew = wD at HDD ⊢
                        go_wp2_with fail
                        refine HDD.out.mono ?_
                        rintro e wA ⟨rfl, hA⟩
                        have HA := hid hA
                        clear hA HDD
                        go_wp2_with fail
                        refine (next_any HA.out c HX.out.1 (by have := HG2.out.len; have := hln.out; omega)).mono ?_
                        rintro e w5 ⟨rfl, hL5, -⟩
                        have HE5 : Hid (LineAt w w5 pm hp hb bb s p l.length σ (.slice (some ⟨g, 0, none⟩) σ.length cap1) (lout s σ out' c c) (lheap s T' c)) := hid (by
                          unfold lout
                          rw [if_neg HK1.out]
                          exact hL5)
                        have HS5 := hid (HRun.out.step HL'.out.sn HL'.out.nd hcn.out HCO.out HWho.out)
                        have HM5 : Hid (l.length - outLen w5 pm < l.length - outLen wr pm) := hid (by
                          rw [HE5.out.outLen_eq, HL'.out.outLen_eq]
                          have h1 := HS5.out.1.len
                          have h2 := lout_len (s := s) (σ := σ) (out := out') (c := c) (x := c)
                          omega)
                        clear hL5 HA
                        go_wp2
                        go_roundw
                        case rel => exact hid ⟨_, _, HE5.out, HS5.out⟩
                        case measure => exact HM5.out
                    · have hk2b : ((s c).d.k != 2) = true := by simp [hk2]
                      have HK2 := hid hk2
                      clear hk2
                      by_cases hk3 : (s c).d.k = 3
                      · have hk3b : ((s c).d.k == 3) = true := by simp [hk3]
                        have HK3 := hid hk3
                        clear hk3
                        by_cases hT : (s c).d.x ∈ T'
                        · have HT := hid hT
                          have e0 : ∀ q : Ext wr, q.out.cell? ⟨pm, 0, none⟩ = some (.pointer (some ⟨hp, 0, none⟩)) := fun q => (HL'.out.fr0 q.fr).cell0
                          have e1 : ∀ q : Ext wr, q.out.cell? ⟨p c, 0, none⟩ = some (.int .i64 (s c).d.k) := fun q => ((HL'.out.fr0 q.fr).callc c hcn.out).1
                          have e2 : ∀ q : Ext wr, q.out.cell? ⟨p c, 1, none⟩ = some (.int .i64 (s c).d.x.c) := fun q => ((HL'.out.fr0 q.fr).callc c hcn.out).2.1
                          have e3 : ∀ q : Ext wr, q.out.cell? ⟨p c, 2, none⟩ = some (.int .i64 (s c).d.x.s) := fun q => ((HL'.out.fr0 q.fr).callc c hcn.out).2.2.1
                          have e4 : ∀ q : Ext wr, q.out.cell? ⟨p c, 3, none⟩ = some (.int .i64 (s c).d.x.o) := fun q => ((HL'.out.fr0 q.fr).callc c hcn.out).2.2.2.1
                          have HQ : Hid (∀ q : Ext wr, Calls Try.prog 24 #[.pointer (some ⟨hp, 0, none⟩), .agg #[.int .i64 (s c).d.x.c, .int .i64 (s c).d.x.s, .int .i64 (s c).d.x.o]] q.out fun e w' => e = .returned (.bool (decide ((s c).d.x ∈ T'))) ∧ Fr0 q.out w') :=
                            hid (fun q => has_any hp hb T' (s c).d.x (HL'.out.wf c hcn.out).1.2 q.out (HL'.out.heap.fr0 q.fr))
                          rw [decide_eq_true hT] at HQ
                          go_wp2_with fail
                          refine wp_region_ext (by kernel_rfl) (by kernel_rfl) ?_
                          repeat (go_big_quiet_step ((go_at_call 24; refine calls_ext (HQ.out _))))
                          refine wpQuiet_nil ?_
                          intro _ hw'
                          obtain ⟨q, hw''⟩ := hw'
                          subst hw''
                          have hL1 := HL'.out.fr0 q.fr
                          generalize q.out = W1 at hL1 ⊢
                          have HL1 := hid hL1
                          clear q e0 e1 e2 e3 e4 HQ hL1 b7

                          have HWho : Hid (lwho s σ out' T' c = some c) := hid (by unfold lwho; rw [show stuckB s T' c = false from (by simp [stuckB, HK3.out, HT.out])]; rfl)
                          have HX := hid (And.intro hcn.out HCO.out)
                          clear hk2b hk3b hT

                          have b0 := (HL1.out.callc c HX.out.1).1
                          cases hk1 : ((s c).d.k == 1) with
                          | true =>
                            have HK1 : Hid ((s c).d.k = 1) := hid (by simpa using hk1)
                            go_wp2_with fail
                            refine (bads_any w W1 pm hp hb bb s p l.length σ (.slice (some ⟨g, 0, none⟩) σ.length cap1) out' T' HL1.out (by omega) (by have := HRun.out.1.len; have := hln.out; omega) c hcn.out).mono ?_
                            rintro e w3 ⟨rfl, hL3⟩
                            have HL3 : Hid (LineAt w w3 pm hp hb bb s p l.length σ (.slice (some ⟨g, 0, none⟩) σ.length cap1) (out' ++ badI s σ out' c) T') := hid hL3
                            have HG2 : Hid (Good l.length (out' ++ badI s σ out' c)) := hid (HRun.out.1.bads HL'.out.sn HL'.out.nd c)
                            clear hL3 b0 hk1
                            have HDo : Hid (∀ W, Fr0 w3 W → Calls Try.prog 22 #[.pointer (some ⟨hp, 0, none⟩), .agg #[.int .i64 (s c).d.k, .int .i64 (s c).d.x.c, .int .i64 (s c).d.x.s, .int .i64 (s c).d.x.o]] W fun e w' => e = .returned (.int .i64 (hdo T' (s c).d.k (s c).d.x).1) ∧ LineAt w w' pm hp hb bb s p l.length σ (.slice (some ⟨g, 0, none⟩) σ.length cap1) (out' ++ badI s σ out' c) (lheap s T' c)) := hid (fun W hW =>
                              (do_any hp hb T' (s c).d.x (HL3.out.wf c HX.out.1).1.2 (s c).d.k W (HL3.out.fr0 hW).heap).mono fun e w' ⟨he, hf, hh⟩ => ⟨he, (HL3.out.fr0 hW).deed hf hh⟩)
                            have q0 := HL3.out.cell0
                            obtain ⟨q1, q2, q3, q4, -, -, -⟩ := HL3.out.callc c HX.out.1
                            go_wp2_with fail
                            go_still_tail 9, (by kernel_rfl)
                            change wpList _ _ _ _ _ (w3).drew
                            have HDD := hid (HDo.out _ (Fr.refl _ _).drew)
                            clear q0 q1 q2 q3 q4 HDo
                            generalize (w3).drew = wD at HDD ⊢
                            go_wp2_with fail
                            refine HDD.out.mono ?_
                            rintro e wA ⟨rfl, hA⟩
                            have HA := hid hA
                            clear hA HDD
                            go_wp2_with fail
                            refine (next_any HA.out c HX.out.1 (by have := HG2.out.len; have := hln.out; omega)).mono ?_
                            rintro e w5 ⟨rfl, hL5, -⟩
                            have HE5 : Hid (LineAt w w5 pm hp hb bb s p l.length σ (.slice (some ⟨g, 0, none⟩) σ.length cap1) (lout s σ out' c c) (lheap s T' c)) := hid (by
                              unfold lout
                              rw [if_pos HK1.out]
                              exact hL5)
                            have HS5 := hid (HRun.out.step HL'.out.sn HL'.out.nd hcn.out HCO.out HWho.out)
                            have HM5 : Hid (l.length - outLen w5 pm < l.length - outLen wr pm) := hid (by
                              rw [HE5.out.outLen_eq, HL'.out.outLen_eq]
                              have h1 := HS5.out.1.len
                              have h2 := lout_len (s := s) (σ := σ) (out := out') (c := c) (x := c)
                              omega)
                            clear hL5 HA
                            go_wp2
                            go_roundw
                            case rel => exact hid ⟨_, _, HE5.out, HS5.out⟩
                            case measure => exact HM5.out
                          | false =>
                            have HK1 : Hid (¬ (s c).d.k = 1) := hid (by simpa using hk1)
                            have HG2 := hid HRun.out.1
                            have HDo : Hid (∀ W, Fr0 W1 W → Calls Try.prog 22 #[.pointer (some ⟨hp, 0, none⟩), .agg #[.int .i64 (s c).d.k, .int .i64 (s c).d.x.c, .int .i64 (s c).d.x.s, .int .i64 (s c).d.x.o]] W fun e w' => e = .returned (.int .i64 (hdo T' (s c).d.k (s c).d.x).1) ∧ LineAt w w' pm hp hb bb s p l.length σ (.slice (some ⟨g, 0, none⟩) σ.length cap1) out' (lheap s T' c)) := hid (fun W hW =>
                              (do_any hp hb T' (s c).d.x (HL1.out.wf c HX.out.1).1.2 (s c).d.k W (HL1.out.fr0 hW).heap).mono fun e w' ⟨he, hf, hh⟩ => ⟨he, (HL1.out.fr0 hW).deed hf hh⟩)
                            have q0 := HL1.out.cell0
                            obtain ⟨q1, q2, q3, q4, -, -, -⟩ := HL1.out.callc c HX.out.1
                            go_wp2_with fail
                            go_still_tail 9, (by kernel_rfl)
                            change wpList _ _ _ _ _ (W1).drew
                            have HDD := hid (HDo.out _ (Fr.refl _ _).drew)
                            clear q0 q1 q2 q3 q4 HDo
                            generalize (W1).drew = wD at HDD ⊢
                            go_wp2_with fail
                            refine HDD.out.mono ?_
                            rintro e wA ⟨rfl, hA⟩
                            have HA := hid hA
                            clear hA HDD
                            go_wp2_with fail
                            refine (next_any HA.out c HX.out.1 (by have := HG2.out.len; have := hln.out; omega)).mono ?_
                            rintro e w5 ⟨rfl, hL5, -⟩
                            have HE5 : Hid (LineAt w w5 pm hp hb bb s p l.length σ (.slice (some ⟨g, 0, none⟩) σ.length cap1) (lout s σ out' c c) (lheap s T' c)) := hid (by
                              unfold lout
                              rw [if_neg HK1.out]
                              exact hL5)
                            have HS5 := hid (HRun.out.step HL'.out.sn HL'.out.nd hcn.out HCO.out HWho.out)
                            have HM5 : Hid (l.length - outLen w5 pm < l.length - outLen wr pm) := hid (by
                              rw [HE5.out.outLen_eq, HL'.out.outLen_eq]
                              have h1 := HS5.out.1.len
                              have h2 := lout_len (s := s) (σ := σ) (out := out') (c := c) (x := c)
                              omega)
                            clear hL5 HA
                            go_wp2
                            go_roundw
                            case rel => exact hid ⟨_, _, HE5.out, HS5.out⟩
                            case measure => exact HM5.out
                        · have HT := hid hT
                          have e0 : ∀ q : Ext wr, q.out.cell? ⟨pm, 0, none⟩ = some (.pointer (some ⟨hp, 0, none⟩)) := fun q => (HL'.out.fr0 q.fr).cell0
                          have e1 : ∀ q : Ext wr, q.out.cell? ⟨p c, 0, none⟩ = some (.int .i64 (s c).d.k) := fun q => ((HL'.out.fr0 q.fr).callc c hcn.out).1
                          have e2 : ∀ q : Ext wr, q.out.cell? ⟨p c, 1, none⟩ = some (.int .i64 (s c).d.x.c) := fun q => ((HL'.out.fr0 q.fr).callc c hcn.out).2.1
                          have e3 : ∀ q : Ext wr, q.out.cell? ⟨p c, 2, none⟩ = some (.int .i64 (s c).d.x.s) := fun q => ((HL'.out.fr0 q.fr).callc c hcn.out).2.2.1
                          have e4 : ∀ q : Ext wr, q.out.cell? ⟨p c, 3, none⟩ = some (.int .i64 (s c).d.x.o) := fun q => ((HL'.out.fr0 q.fr).callc c hcn.out).2.2.2.1
                          have HQ : Hid (∀ q : Ext wr, Calls Try.prog 24 #[.pointer (some ⟨hp, 0, none⟩), .agg #[.int .i64 (s c).d.x.c, .int .i64 (s c).d.x.s, .int .i64 (s c).d.x.o]] q.out fun e w' => e = .returned (.bool (decide ((s c).d.x ∈ T'))) ∧ Fr0 q.out w') :=
                            hid (fun q => has_any hp hb T' (s c).d.x (HL'.out.wf c hcn.out).1.2 q.out (HL'.out.heap.fr0 q.fr))
                          rw [decide_eq_false hT] at HQ
                          go_wp2_with fail
                          refine wp_region_ext (by kernel_rfl) (by kernel_rfl) ?_
                          repeat (go_big_quiet_step ((go_at_call 24; refine calls_ext (HQ.out _))))
                          refine wpQuiet_nil ?_
                          intro _ hw'
                          obtain ⟨q, hw''⟩ := hw'
                          subst hw''
                          have hL1 := HL'.out.fr0 q.fr
                          generalize q.out = W1 at hL1 ⊢
                          have HL1 := hid hL1
                          clear q e0 e1 e2 e3 e4 HQ hL1 b7

                          have HWho : Hid (lwho s σ out' T' c = helpI s σ out' T' c) := hid (by unfold lwho; rw [show stuckB s T' c = true from (by simp [stuckB, HK3.out, HT.out])]; rfl)
                          go_wp2_with fail
                          refine (helps_any w W1 pm hp hb bb s p l.length σ (.slice (some ⟨g, 0, none⟩) σ.length cap1) out' T' HL1.out (by omega) c hcn.out).mono ?_
                          rintro e w6 ⟨rfl, hf6⟩
                          have HL6 := hid (HL1.out.fr0 hf6)
                          clear hf6 HL1 hk2b hk3b hT
                          have HWH := hid HWho.out
                          clear HWho
                          generalize helpI s σ out' T' c = who at HWH ⊢
                          cases who with
                          | none =>
                            simp only [optP]
                            go_wp2
                            go_ret2
                            exact ⟨HL6.out.fr, σ, HSG.out.1, HSG.out.2, by rw [HLG.out.2.2, HDR.out, HRun.out.none_ HCO.out HWH.out]; rfl⟩
                          | some x =>
                            have HWho := HWH
                            have HX := hid (lwho_mem HL6.out.sn hcn.out HCO.out HWH.out)
                            simp only [optP, pv]
                            have b0 := (HL6.out.callc x HX.out.1).1
                            cases hk1 : ((s x).d.k == 1) with
                            | true =>
                              have HK1 : Hid ((s x).d.k = 1) := hid (by simpa using hk1)
                              go_wp2_with fail
                              refine (bads_any w w6 pm hp hb bb s p l.length σ (.slice (some ⟨g, 0, none⟩) σ.length cap1) out' T' HL6.out (by omega) (by have := HRun.out.1.len; have := hln.out; omega) c hcn.out).mono ?_
                              rintro e w3 ⟨rfl, hL3⟩
                              have HL3 : Hid (LineAt w w3 pm hp hb bb s p l.length σ (.slice (some ⟨g, 0, none⟩) σ.length cap1) (out' ++ badI s σ out' c) T') := hid hL3
                              have HG2 : Hid (Good l.length (out' ++ badI s σ out' c)) := hid (HRun.out.1.bads HL'.out.sn HL'.out.nd c)
                              clear hL3 b0 hk1
                              have HDo : Hid (∀ W, Fr0 w3 W → Calls Try.prog 22 #[.pointer (some ⟨hp, 0, none⟩), .agg #[.int .i64 (s x).d.k, .int .i64 (s x).d.x.c, .int .i64 (s x).d.x.s, .int .i64 (s x).d.x.o]] W fun e w' => e = .returned (.int .i64 (hdo T' (s x).d.k (s x).d.x).1) ∧ LineAt w w' pm hp hb bb s p l.length σ (.slice (some ⟨g, 0, none⟩) σ.length cap1) (out' ++ badI s σ out' c) (lheap s T' x)) := hid (fun W hW =>
                                (do_any hp hb T' (s x).d.x (HL3.out.wf x HX.out.1).1.2 (s x).d.k W (HL3.out.fr0 hW).heap).mono fun e w' ⟨he, hf, hh⟩ => ⟨he, (HL3.out.fr0 hW).deed hf hh⟩)
                              have q0 := HL3.out.cell0
                              obtain ⟨q1, q2, q3, q4, -, -, -⟩ := HL3.out.callc x HX.out.1
                              go_wp2_with fail
                              go_still_tail 9, (by kernel_rfl)
                              change wpList _ _ _ _ _ (w3).drew
                              have HDD := hid (HDo.out _ (Fr.refl _ _).drew)
                              clear q0 q1 q2 q3 q4 HDo
                              generalize (w3).drew = wD at HDD ⊢
                              go_wp2_with fail
                              refine HDD.out.mono ?_
                              rintro e wA ⟨rfl, hA⟩
                              have HA := hid hA
                              clear hA HDD
                              go_wp2_with fail
                              refine (next_any HA.out x HX.out.1 (by have := HG2.out.len; have := hln.out; omega)).mono ?_
                              rintro e w5 ⟨rfl, hL5, -⟩
                              have HE5 : Hid (LineAt w w5 pm hp hb bb s p l.length σ (.slice (some ⟨g, 0, none⟩) σ.length cap1) (lout s σ out' c x) (lheap s T' x)) := hid (by
                                unfold lout
                                rw [if_pos HK1.out]
                                exact hL5)
                              have HS5 := hid (HRun.out.step HL'.out.sn HL'.out.nd hcn.out HCO.out HWho.out)
                              have HM5 : Hid (l.length - outLen w5 pm < l.length - outLen wr pm) := hid (by
                                rw [HE5.out.outLen_eq, HL'.out.outLen_eq]
                                have h1 := HS5.out.1.len
                                have h2 := lout_len (s := s) (σ := σ) (out := out') (c := c) (x := x)
                                omega)
                              clear hL5 HA
                              go_wp2
                              go_roundw
                              case rel => exact hid ⟨_, _, HE5.out, HS5.out⟩
                              case measure => exact HM5.out
                            | false =>
                              have HK1 : Hid (¬ (s x).d.k = 1) := hid (by simpa using hk1)
                              have HG2 := hid HRun.out.1
                              have HDo : Hid (∀ W, Fr0 w6 W → Calls Try.prog 22 #[.pointer (some ⟨hp, 0, none⟩), .agg #[.int .i64 (s x).d.k, .int .i64 (s x).d.x.c, .int .i64 (s x).d.x.s, .int .i64 (s x).d.x.o]] W fun e w' => e = .returned (.int .i64 (hdo T' (s x).d.k (s x).d.x).1) ∧ LineAt w w' pm hp hb bb s p l.length σ (.slice (some ⟨g, 0, none⟩) σ.length cap1) out' (lheap s T' x)) := hid (fun W hW =>
                                (do_any hp hb T' (s x).d.x (HL6.out.wf x HX.out.1).1.2 (s x).d.k W (HL6.out.fr0 hW).heap).mono fun e w' ⟨he, hf, hh⟩ => ⟨he, (HL6.out.fr0 hW).deed hf hh⟩)
                              have q0 := HL6.out.cell0
                              obtain ⟨q1, q2, q3, q4, -, -, -⟩ := HL6.out.callc x HX.out.1
                              go_wp2_with fail
                              go_still_tail 9, (by kernel_rfl)
                              change wpList _ _ _ _ _ (w6).drew
                              have HDD := hid (HDo.out _ (Fr.refl _ _).drew)
                              clear q0 q1 q2 q3 q4 HDo
                              generalize (w6).drew = wD at HDD ⊢
                              go_wp2_with fail
                              refine HDD.out.mono ?_
                              rintro e wA ⟨rfl, hA⟩
                              have HA := hid hA
                              clear hA HDD
                              go_wp2_with fail
                              refine (next_any HA.out x HX.out.1 (by have := HG2.out.len; have := hln.out; omega)).mono ?_
                              rintro e w5 ⟨rfl, hL5, -⟩
                              have HE5 : Hid (LineAt w w5 pm hp hb bb s p l.length σ (.slice (some ⟨g, 0, none⟩) σ.length cap1) (lout s σ out' c x) (lheap s T' x)) := hid (by
                                unfold lout
                                rw [if_neg HK1.out]
                                exact hL5)
                              have HS5 := hid (HRun.out.step HL'.out.sn HL'.out.nd hcn.out HCO.out HWho.out)
                              have HM5 : Hid (l.length - outLen w5 pm < l.length - outLen wr pm) := hid (by
                                rw [HE5.out.outLen_eq, HL'.out.outLen_eq]
                                have h1 := HS5.out.1.len
                                have h2 := lout_len (s := s) (σ := σ) (out := out') (c := c) (x := x)
                                omega)
                              clear hL5 HA
                              go_wp2
                              go_roundw
                              case rel => exact hid ⟨_, _, HE5.out, HS5.out⟩
                              case measure => exact HM5.out
                      · have hk3b : ((s c).d.k == 3) = false := by simp [hk3]
                        have HK3 := hid hk3
                        clear hk3
                        by_cases hT : (s c).d.x ∈ T'
                        · have HT := hid hT
                          have e0 : ∀ q : Ext wr, q.out.cell? ⟨pm, 0, none⟩ = some (.pointer (some ⟨hp, 0, none⟩)) := fun q => (HL'.out.fr0 q.fr).cell0
                          have e1 : ∀ q : Ext wr, q.out.cell? ⟨p c, 0, none⟩ = some (.int .i64 (s c).d.k) := fun q => ((HL'.out.fr0 q.fr).callc c hcn.out).1
                          have e2 : ∀ q : Ext wr, q.out.cell? ⟨p c, 1, none⟩ = some (.int .i64 (s c).d.x.c) := fun q => ((HL'.out.fr0 q.fr).callc c hcn.out).2.1
                          have e3 : ∀ q : Ext wr, q.out.cell? ⟨p c, 2, none⟩ = some (.int .i64 (s c).d.x.s) := fun q => ((HL'.out.fr0 q.fr).callc c hcn.out).2.2.1
                          have e4 : ∀ q : Ext wr, q.out.cell? ⟨p c, 3, none⟩ = some (.int .i64 (s c).d.x.o) := fun q => ((HL'.out.fr0 q.fr).callc c hcn.out).2.2.2.1
                          have HQ : Hid (∀ q : Ext wr, Calls Try.prog 24 #[.pointer (some ⟨hp, 0, none⟩), .agg #[.int .i64 (s c).d.x.c, .int .i64 (s c).d.x.s, .int .i64 (s c).d.x.o]] q.out fun e w' => e = .returned (.bool (decide ((s c).d.x ∈ T'))) ∧ Fr0 q.out w') :=
                            hid (fun q => has_any hp hb T' (s c).d.x (HL'.out.wf c hcn.out).1.2 q.out (HL'.out.heap.fr0 q.fr))
                          rw [decide_eq_true hT] at HQ
                          go_wp2_with fail
                          refine wp_region_ext (by kernel_rfl) (by kernel_rfl) ?_
                          repeat (go_big_quiet_step ((go_at_call 24; refine calls_ext (HQ.out _))))
                          refine wpQuiet_nil ?_
                          intro _ hw'
                          obtain ⟨q, hw''⟩ := hw'
                          subst hw''
                          have hL1 := HL'.out.fr0 q.fr
                          generalize q.out = W1 at hL1 ⊢
                          have HL1 := hid hL1
                          clear q e0 e1 e2 e3 e4 HQ hL1 b7

                          have HWho : Hid (lwho s σ out' T' c = helpI s σ out' T' c) := hid (by unfold lwho; rw [show stuckB s T' c = true from (by simp [stuckB, HK2.out, HK3.out, HT.out])]; rfl)
                          go_wp2_with fail
                          refine (helps_any w W1 pm hp hb bb s p l.length σ (.slice (some ⟨g, 0, none⟩) σ.length cap1) out' T' HL1.out (by omega) c hcn.out).mono ?_
                          rintro e w6 ⟨rfl, hf6⟩
                          have HL6 := hid (HL1.out.fr0 hf6)
                          clear hf6 HL1 hk2b hk3b hT
                          have HWH := hid HWho.out
                          clear HWho
                          generalize helpI s σ out' T' c = who at HWH ⊢
                          cases who with
                          | none =>
                            simp only [optP]
                            go_wp2
                            go_ret2
                            exact ⟨HL6.out.fr, σ, HSG.out.1, HSG.out.2, by rw [HLG.out.2.2, HDR.out, HRun.out.none_ HCO.out HWH.out]; rfl⟩
                          | some x =>
                            have HWho := HWH
                            have HX := hid (lwho_mem HL6.out.sn hcn.out HCO.out HWH.out)
                            simp only [optP, pv]
                            have b0 := (HL6.out.callc x HX.out.1).1
                            cases hk1 : ((s x).d.k == 1) with
                            | true =>
                              have HK1 : Hid ((s x).d.k = 1) := hid (by simpa using hk1)
                              go_wp2_with fail
                              refine (bads_any w w6 pm hp hb bb s p l.length σ (.slice (some ⟨g, 0, none⟩) σ.length cap1) out' T' HL6.out (by omega) (by have := HRun.out.1.len; have := hln.out; omega) c hcn.out).mono ?_
                              rintro e w3 ⟨rfl, hL3⟩
                              have HL3 : Hid (LineAt w w3 pm hp hb bb s p l.length σ (.slice (some ⟨g, 0, none⟩) σ.length cap1) (out' ++ badI s σ out' c) T') := hid hL3
                              have HG2 : Hid (Good l.length (out' ++ badI s σ out' c)) := hid (HRun.out.1.bads HL'.out.sn HL'.out.nd c)
                              clear hL3 b0 hk1
                              have HDo : Hid (∀ W, Fr0 w3 W → Calls Try.prog 22 #[.pointer (some ⟨hp, 0, none⟩), .agg #[.int .i64 (s x).d.k, .int .i64 (s x).d.x.c, .int .i64 (s x).d.x.s, .int .i64 (s x).d.x.o]] W fun e w' => e = .returned (.int .i64 (hdo T' (s x).d.k (s x).d.x).1) ∧ LineAt w w' pm hp hb bb s p l.length σ (.slice (some ⟨g, 0, none⟩) σ.length cap1) (out' ++ badI s σ out' c) (lheap s T' x)) := hid (fun W hW =>
                                (do_any hp hb T' (s x).d.x (HL3.out.wf x HX.out.1).1.2 (s x).d.k W (HL3.out.fr0 hW).heap).mono fun e w' ⟨he, hf, hh⟩ => ⟨he, (HL3.out.fr0 hW).deed hf hh⟩)
                              have q0 := HL3.out.cell0
                              obtain ⟨q1, q2, q3, q4, -, -, -⟩ := HL3.out.callc x HX.out.1
                              go_wp2_with fail
                              go_still_tail 9, (by kernel_rfl)
                              change wpList _ _ _ _ _ (w3).drew
                              have HDD := hid (HDo.out _ (Fr.refl _ _).drew)
                              clear q0 q1 q2 q3 q4 HDo
                              generalize (w3).drew = wD at HDD ⊢
                              go_wp2_with fail
                              refine HDD.out.mono ?_
                              rintro e wA ⟨rfl, hA⟩
                              have HA := hid hA
                              clear hA HDD
                              go_wp2_with fail
                              refine (next_any HA.out x HX.out.1 (by have := HG2.out.len; have := hln.out; omega)).mono ?_
                              rintro e w5 ⟨rfl, hL5, -⟩
                              have HE5 : Hid (LineAt w w5 pm hp hb bb s p l.length σ (.slice (some ⟨g, 0, none⟩) σ.length cap1) (lout s σ out' c x) (lheap s T' x)) := hid (by
                                unfold lout
                                rw [if_pos HK1.out]
                                exact hL5)
                              have HS5 := hid (HRun.out.step HL'.out.sn HL'.out.nd hcn.out HCO.out HWho.out)
                              have HM5 : Hid (l.length - outLen w5 pm < l.length - outLen wr pm) := hid (by
                                rw [HE5.out.outLen_eq, HL'.out.outLen_eq]
                                have h1 := HS5.out.1.len
                                have h2 := lout_len (s := s) (σ := σ) (out := out') (c := c) (x := x)
                                omega)
                              clear hL5 HA
                              go_wp2
                              go_roundw
                              case rel => exact hid ⟨_, _, HE5.out, HS5.out⟩
                              case measure => exact HM5.out
                            | false =>
                              have HK1 : Hid (¬ (s x).d.k = 1) := hid (by simpa using hk1)
                              have HG2 := hid HRun.out.1
                              have HDo : Hid (∀ W, Fr0 w6 W → Calls Try.prog 22 #[.pointer (some ⟨hp, 0, none⟩), .agg #[.int .i64 (s x).d.k, .int .i64 (s x).d.x.c, .int .i64 (s x).d.x.s, .int .i64 (s x).d.x.o]] W fun e w' => e = .returned (.int .i64 (hdo T' (s x).d.k (s x).d.x).1) ∧ LineAt w w' pm hp hb bb s p l.length σ (.slice (some ⟨g, 0, none⟩) σ.length cap1) out' (lheap s T' x)) := hid (fun W hW =>
                                (do_any hp hb T' (s x).d.x (HL6.out.wf x HX.out.1).1.2 (s x).d.k W (HL6.out.fr0 hW).heap).mono fun e w' ⟨he, hf, hh⟩ => ⟨he, (HL6.out.fr0 hW).deed hf hh⟩)
                              have q0 := HL6.out.cell0
                              obtain ⟨q1, q2, q3, q4, -, -, -⟩ := HL6.out.callc x HX.out.1
                              go_wp2_with fail
                              go_still_tail 9, (by kernel_rfl)
                              change wpList _ _ _ _ _ (w6).drew
                              have HDD := hid (HDo.out _ (Fr.refl _ _).drew)
                              clear q0 q1 q2 q3 q4 HDo
                              generalize (w6).drew = wD at HDD ⊢
                              go_wp2_with fail
                              refine HDD.out.mono ?_
                              rintro e wA ⟨rfl, hA⟩
                              have HA := hid hA
                              clear hA HDD
                              go_wp2_with fail
                              refine (next_any HA.out x HX.out.1 (by have := HG2.out.len; have := hln.out; omega)).mono ?_
                              rintro e w5 ⟨rfl, hL5, -⟩
                              have HE5 : Hid (LineAt w w5 pm hp hb bb s p l.length σ (.slice (some ⟨g, 0, none⟩) σ.length cap1) (lout s σ out' c x) (lheap s T' x)) := hid (by
                                unfold lout
                                rw [if_neg HK1.out]
                                exact hL5)
                              have HS5 := hid (HRun.out.step HL'.out.sn HL'.out.nd hcn.out HCO.out HWho.out)
                              have HM5 : Hid (l.length - outLen w5 pm < l.length - outLen wr pm) := hid (by
                                rw [HE5.out.outLen_eq, HL'.out.outLen_eq]
                                have h1 := HS5.out.1.len
                                have h2 := lout_len (s := s) (σ := σ) (out := out') (c := c) (x := x)
                                omega)
                              clear hL5 HA
                              go_wp2
                              go_roundw
                              case rel => exact hid ⟨_, _, HE5.out, HS5.out⟩
                              case measure => exact HM5.out
                        · have HT := hid hT
                          have e0 : ∀ q : Ext wr, q.out.cell? ⟨pm, 0, none⟩ = some (.pointer (some ⟨hp, 0, none⟩)) := fun q => (HL'.out.fr0 q.fr).cell0
                          have e1 : ∀ q : Ext wr, q.out.cell? ⟨p c, 0, none⟩ = some (.int .i64 (s c).d.k) := fun q => ((HL'.out.fr0 q.fr).callc c hcn.out).1
                          have e2 : ∀ q : Ext wr, q.out.cell? ⟨p c, 1, none⟩ = some (.int .i64 (s c).d.x.c) := fun q => ((HL'.out.fr0 q.fr).callc c hcn.out).2.1
                          have e3 : ∀ q : Ext wr, q.out.cell? ⟨p c, 2, none⟩ = some (.int .i64 (s c).d.x.s) := fun q => ((HL'.out.fr0 q.fr).callc c hcn.out).2.2.1
                          have e4 : ∀ q : Ext wr, q.out.cell? ⟨p c, 3, none⟩ = some (.int .i64 (s c).d.x.o) := fun q => ((HL'.out.fr0 q.fr).callc c hcn.out).2.2.2.1
                          have HQ : Hid (∀ q : Ext wr, Calls Try.prog 24 #[.pointer (some ⟨hp, 0, none⟩), .agg #[.int .i64 (s c).d.x.c, .int .i64 (s c).d.x.s, .int .i64 (s c).d.x.o]] q.out fun e w' => e = .returned (.bool (decide ((s c).d.x ∈ T'))) ∧ Fr0 q.out w') :=
                            hid (fun q => has_any hp hb T' (s c).d.x (HL'.out.wf c hcn.out).1.2 q.out (HL'.out.heap.fr0 q.fr))
                          rw [decide_eq_false hT] at HQ
                          go_wp2_with fail
                          refine wp_region_ext (by kernel_rfl) (by kernel_rfl) ?_
                          repeat (go_big_quiet_step ((go_at_call 24; refine calls_ext (HQ.out _))))
                          refine wpQuiet_nil ?_
                          intro _ hw'
                          obtain ⟨q, hw''⟩ := hw'
                          subst hw''
                          have hL1 := HL'.out.fr0 q.fr
                          generalize q.out = W1 at hL1 ⊢
                          have HL1 := hid hL1
                          clear q e0 e1 e2 e3 e4 HQ hL1 b7

                          have HWho : Hid (lwho s σ out' T' c = some c) := hid (by unfold lwho; rw [show stuckB s T' c = false from (by simp [stuckB, HK3.out, HT.out])]; rfl)
                          have HX := hid (And.intro hcn.out HCO.out)
                          clear hk2b hk3b hT

                          have b0 := (HL1.out.callc c HX.out.1).1
                          cases hk1 : ((s c).d.k == 1) with
                          | true =>
                            have HK1 : Hid ((s c).d.k = 1) := hid (by simpa using hk1)
                            go_wp2_with fail
                            refine (bads_any w W1 pm hp hb bb s p l.length σ (.slice (some ⟨g, 0, none⟩) σ.length cap1) out' T' HL1.out (by omega) (by have := HRun.out.1.len; have := hln.out; omega) c hcn.out).mono ?_
                            rintro e w3 ⟨rfl, hL3⟩
                            have HL3 : Hid (LineAt w w3 pm hp hb bb s p l.length σ (.slice (some ⟨g, 0, none⟩) σ.length cap1) (out' ++ badI s σ out' c) T') := hid hL3
                            have HG2 : Hid (Good l.length (out' ++ badI s σ out' c)) := hid (HRun.out.1.bads HL'.out.sn HL'.out.nd c)
                            clear hL3 b0 hk1
                            have HDo : Hid (∀ W, Fr0 w3 W → Calls Try.prog 22 #[.pointer (some ⟨hp, 0, none⟩), .agg #[.int .i64 (s c).d.k, .int .i64 (s c).d.x.c, .int .i64 (s c).d.x.s, .int .i64 (s c).d.x.o]] W fun e w' => e = .returned (.int .i64 (hdo T' (s c).d.k (s c).d.x).1) ∧ LineAt w w' pm hp hb bb s p l.length σ (.slice (some ⟨g, 0, none⟩) σ.length cap1) (out' ++ badI s σ out' c) (lheap s T' c)) := hid (fun W hW =>
                              (do_any hp hb T' (s c).d.x (HL3.out.wf c HX.out.1).1.2 (s c).d.k W (HL3.out.fr0 hW).heap).mono fun e w' ⟨he, hf, hh⟩ => ⟨he, (HL3.out.fr0 hW).deed hf hh⟩)
                            have q0 := HL3.out.cell0
                            obtain ⟨q1, q2, q3, q4, -, -, -⟩ := HL3.out.callc c HX.out.1
                            go_wp2_with fail
                            go_still_tail 9, (by kernel_rfl)
                            change wpList _ _ _ _ _ (w3).drew
                            have HDD := hid (HDo.out _ (Fr.refl _ _).drew)
                            clear q0 q1 q2 q3 q4 HDo
                            generalize (w3).drew = wD at HDD ⊢
                            go_wp2_with fail
                            refine HDD.out.mono ?_
                            rintro e wA ⟨rfl, hA⟩
                            have HA := hid hA
                            clear hA HDD
                            go_wp2_with fail
                            refine (next_any HA.out c HX.out.1 (by have := HG2.out.len; have := hln.out; omega)).mono ?_
                            rintro e w5 ⟨rfl, hL5, -⟩
                            have HE5 : Hid (LineAt w w5 pm hp hb bb s p l.length σ (.slice (some ⟨g, 0, none⟩) σ.length cap1) (lout s σ out' c c) (lheap s T' c)) := hid (by
                              unfold lout
                              rw [if_pos HK1.out]
                              exact hL5)
                            have HS5 := hid (HRun.out.step HL'.out.sn HL'.out.nd hcn.out HCO.out HWho.out)
                            have HM5 : Hid (l.length - outLen w5 pm < l.length - outLen wr pm) := hid (by
                              rw [HE5.out.outLen_eq, HL'.out.outLen_eq]
                              have h1 := HS5.out.1.len
                              have h2 := lout_len (s := s) (σ := σ) (out := out') (c := c) (x := c)
                              omega)
                            clear hL5 HA
                            go_wp2
                            go_roundw
                            case rel => exact hid ⟨_, _, HE5.out, HS5.out⟩
                            case measure => exact HM5.out
                          | false =>
                            have HK1 : Hid (¬ (s c).d.k = 1) := hid (by simpa using hk1)
                            have HG2 := hid HRun.out.1
                            have HDo : Hid (∀ W, Fr0 W1 W → Calls Try.prog 22 #[.pointer (some ⟨hp, 0, none⟩), .agg #[.int .i64 (s c).d.k, .int .i64 (s c).d.x.c, .int .i64 (s c).d.x.s, .int .i64 (s c).d.x.o]] W fun e w' => e = .returned (.int .i64 (hdo T' (s c).d.k (s c).d.x).1) ∧ LineAt w w' pm hp hb bb s p l.length σ (.slice (some ⟨g, 0, none⟩) σ.length cap1) out' (lheap s T' c)) := hid (fun W hW =>
                              (do_any hp hb T' (s c).d.x (HL1.out.wf c HX.out.1).1.2 (s c).d.k W (HL1.out.fr0 hW).heap).mono fun e w' ⟨he, hf, hh⟩ => ⟨he, (HL1.out.fr0 hW).deed hf hh⟩)
                            have q0 := HL1.out.cell0
                            obtain ⟨q1, q2, q3, q4, -, -, -⟩ := HL1.out.callc c HX.out.1
                            go_wp2_with fail
                            go_still_tail 9, (by kernel_rfl)
                            change wpList _ _ _ _ _ (W1).drew
                            have HDD := hid (HDo.out _ (Fr.refl _ _).drew)
                            clear q0 q1 q2 q3 q4 HDo
                            generalize (W1).drew = wD at HDD ⊢
                            go_wp2_with fail
                            refine HDD.out.mono ?_
                            rintro e wA ⟨rfl, hA⟩
                            have HA := hid hA
                            clear hA HDD
                            go_wp2_with fail
                            refine (next_any HA.out c HX.out.1 (by have := HG2.out.len; have := hln.out; omega)).mono ?_
                            rintro e w5 ⟨rfl, hL5, -⟩
                            have HE5 : Hid (LineAt w w5 pm hp hb bb s p l.length σ (.slice (some ⟨g, 0, none⟩) σ.length cap1) (lout s σ out' c c) (lheap s T' c)) := hid (by
                              unfold lout
                              rw [if_neg HK1.out]
                              exact hL5)
                            have HS5 := hid (HRun.out.step HL'.out.sn HL'.out.nd hcn.out HCO.out HWho.out)
                            have HM5 : Hid (l.length - outLen w5 pm < l.length - outLen wr pm) := hid (by
                              rw [HE5.out.outLen_eq, HL'.out.outLen_eq]
                              have h1 := HS5.out.1.len
                              have h2 := lout_len (s := s) (σ := σ) (out := out') (c := c) (x := c)
                              omega)
                            clear hL5 HA
                            go_wp2
                            go_roundw
                            case rel => exact hid ⟨_, _, HE5.out, HS5.out⟩
                            case measure => exact HM5.out
            · have hkl : k = σ.length := by omega
              subst hkl
              obtain ⟨ov, hb1, hb2⟩ := HLG.out.1.box
              have c3 : wr.cell? ⟨pm, 3, none⟩ = some ov := cell_of_block hb1 3
              have HB2 := hid hb2
              clear hb1 hb2
              go_wp2
              go_ret2
              exact ⟨HLG.out.1.fr, σ, HSG.out.1, HSG.out.2, by rw [HLG.out.2.2, List.drop_length, lall]; exact ⟨ov, rfl, HB2.out⟩⟩
end Go.Proofs.Ytjaabbjobnfmmaa

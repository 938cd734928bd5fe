/-
  slices.symMergeCmpFunc at a row of pointers to calls. The plain law of the stable sort: blocks in order. slices.SortStableFunc at a row of pointers to calls. slices.SortStableFunc of no calls.
-/
import Derived.Test.YtjaabbjobnfmmaaGSort
import Derived.Deep.RegionHeld3
import Derived.Deep.DeepCutAuto
namespace Go.Proofs.Ytjaabbjobnfmmaa
open Go.RowKit

theorem rotate_int (g cap : Nat) (p : Nat → Nat) (X U V Y : List Nat) (hU : 0 < U.length) (hV : 0 < V.length) (cmp : Value) (a m b : Int) (len : Nat) (ha : a = X.length) (hm : m = X.length + U.length) (hb : b = X.length + U.length + V.length)
    (hlen : len = X.length + U.length + V.length + Y.length) (hcap : len ≤ 4398046511104) (w : World) (h : PRow w g p (X ++ U ++ V ++ Y)) :
    Calls Try.prog 91 #[.slice (some ⟨g, 0, none⟩) len cap, .int .i64 a, .int .i64 m, .int .i64 b, cmp] w fun e w' => e = .returned (.tuple #[]) ∧ Fr (· = g) w w' ∧ PRow w' g p (X ++ V ++ U ++ Y) := by
  have hm2 : m = ((X.length + U.length : Nat) : Int) := by rw [hm]; omega
  have hb2 : b = ((X.length + U.length + V.length : Nat) : Int) := by rw [hb]; omega
  rw [ha, hm2, hb2]
  exact rotate_any g cap p X U V Y hU hV cmp _ _ _ len rfl rfl rfl hlen hcap w h

/-- symMerge at rows of at most k calls. -/
def SymSpec (g cap : Nat) (p : Nat → Nat) (t : Nat → Int) (N len k : Nat) : Prop :=
  ∀ (X A B Y : List Nat) (a m b : Int) (w : World), A.length + B.length ≤ k → 0 < A.length → 0 < B.length → SymPre t N A B → a = X.length → m = X.length + A.length → b = X.length + A.length + B.length →
    len = X.length + A.length + B.length + Y.length → PRow w g p (X ++ A ++ B ++ Y) → Tos w g p t N →
    Calls Try.prog 80 #[.slice (some ⟨g, 0, none⟩) len cap, .int .i64 a, .int .i64 m, .int .i64 b, .func (.func 55) #[] #[]] w fun e w' => e = .returned (.tuple #[]) ∧ Fr (· = g) w w' ∧ ∃ C, C.Perm (A ++ B) ∧ Srt t C ∧ PRow w' g p (X ++ C ++ Y)

set_option maxRecDepth 100000 in
set_option maxHeartbeats 8000000 in
theorem symC_any (g cap : Nat) (p : Nat → Nat) (t : Nat → Int) (N len k : Nat) (ht : ∀ i, i < N → -1 ≤ t i) (hcap : len ≤ 4398046511104) (IH : SymSpec g cap p t N len k) (X A B Y : List Nat) (hA : 1 < A.length) (hB : 1 < B.length) (hk : A.length + B.length ≤ k + 1) (hP : SymPre t N A B)
    (a m b : Nat) (ha : a = X.length) (hm : m = a + A.length) (hb : b = m + B.length) (hlen : len = b + Y.length) (w : World) (h : PRow w g p (X ++ A ++ B ++ Y)) (hT : Tos w g p t N) :
    Calls Try.prog 80 #[.slice (some ⟨g, 0, none⟩) len cap, .int .i64 a, .int .i64 m, .int .i64 b, .func (.func 55) #[] #[]] w fun e w' => e = .returned (.tuple #[]) ∧ Fr (· = g) w w' ∧ ∃ C, C.Perm (A ++ B) ∧ Srt t C ∧ PRow w' g p (X ++ C ++ Y) := by
  obtain ⟨d, hd⟩ : ∃ d, d = (A.length + B.length) / 2 := ⟨_, rfl⟩
  have hlo : d ≤ symLo A B d + B.length := by unfold symLo; split <;> omega
  have hhi1 : symHi A d ≤ A.length := by unfold symHi; split <;> omega
  have hhi2 : symHi A d ≤ d := by unfold symHi; split <;> omega
  have hlh : symLo A B d ≤ symHi A d := by unfold symLo symHi; split <;> omega
  have hcase : (d < A.length ∧ symLo A B d = d - B.length ∧ symHi A d = d ∧ B.length ≤ d) ∨ (¬ d < A.length ∧ symLo A B d = 0 ∧ symHi A d = A.length) := by
    unfold symLo symHi
    by_cases hdA : d < A.length
    · left; rw [if_pos hdA, if_pos hdA]; exact ⟨hdA, rfl, rfl, by omega⟩
    · right; rw [if_neg hdA, if_neg hdA]; exact ⟨hdA, rfl, rfl⟩
  have HQ : Hid (∀ s, symLo A B d ≤ s → s ≤ symHi A d → (∀ c, symLo A B d ≤ c → c < s → SymQ t A B d c) → (∀ c, s ≤ c → c < symHi A d → ¬ SymQ t A B d c) → SymCut t A B d s) := hid (fun s h0 h1 h2 h3 => symCut hP.a hP.b d s hd h0 h1 h2 h3)
  have H := hid (And.intro h hT)
  have HP := hid (And.intro hP (And.intro hd hk))
  have HL := hid (And.intro ha (And.intro hm (And.intro hb hlen)))
  have hma : ((m : Int) - (a : Int) == 1) = false := by simp; omega
  have hbm : ((b : Int) - (m : Int) == 1) = false := by simp; omega
  have hmid : ((a : Int) + (b : Int)) / 2 = (a : Int) + d := by omega
  have hmA : m = a + A.length := hm
  have hbB : b = m + B.length := hb
  have hdd : a + d < b := by omega
  have hdA : a < m := by omega
  have hdB : m < b := by omega
  have hbl : b ≤ len := by omega
  have HIH := hid IH
  generalize symLo A B d = lo at hlo hlh hcase HQ
  generalize symHi A d = hi at hhi1 hhi2 hlh hcase HQ
  have HC := hid hcase
  have HD := hid (And.intro hlo (And.intro hhi1 hhi2))
  have HM := hid (And.intro hmA hbB)
  clear h hT hP hA hB hk ha hm hb hlen hd IH hcase hmA hbB
  go_enter Try.func80, Try.ntmps80
  go_upto_if 140 with (fail)
  clear hma hbm
  go_cut [20, 21] (fun t20 t21 wx => t20 = .int .i64 ((a : Int) + lo) ∧ t21 = .int .i64 ((a : Int) + hi) ∧ w = wx)
  case first => as_aux_lemma =>
    rcases HC.out with ⟨h1, h2, h3, h4⟩ | ⟨h1, h2, h3⟩
    · have hc : (a : Int) + (d : Int) < (m : Int) := by have := HM.out; omega
      go_wp2_with fail
      go_meet
      exact ⟨vi (by have := HM.out; omega), vi (by omega), rfl⟩
    · have hc : ¬ (a : Int) + (d : Int) < (m : Int) := by have := HM.out; omega
      go_wp2_with fail
      go_meet
      exact ⟨vi (by omega), vi (by have := HM.out; omega), rfl⟩
  case rest => as_aux_lemma =>
    obtain ⟨rfl, rfl, rfl⟩ := hcut
    go_wp2_with fail
    go_loopw [20, 21] (fun t20 t21 wr => ∃ s q : Nat, t20 = .int .i64 ((a : Int) + s) ∧ t21 = .int .i64 ((a : Int) + q) ∧ lo ≤ s ∧ s ≤ q ∧ q ≤ hi ∧
      Hid ((∀ c, lo ≤ c → c < s → SymQ t A B d c) ∧ (∀ c, q ≤ c → c < hi → ¬ SymQ t A B d c) ∧ Fr0 w wr)) (fun i j _ => (intOf j).toNat - (intOf i).toNat)
    case atStart => exact ⟨lo, hi, rfl, rfl, Nat.le_refl _, hlh, Nat.le_refl _, hid ⟨by omega, by omega, Fr.refl _ _⟩⟩
    case round =>
      obtain ⟨s, q, rfl, rfl, hls, hsq, hqh, hR⟩ := hrel
      rcases Nat.lt_or_ge s q with hlt | hge
      · have hltI : (a : Int) + (s : Int) < (a : Int) + (q : Int) := by omega
        obtain ⟨cc, hcc⟩ : ∃ cc, cc = (s + q) / 2 := ⟨_, rfl⟩
        have ecc : ((a : Int) + s + ((a : Int) + q)) / 2 = (a : Int) + cc := by omega
        have hc1 : s ≤ cc := by omega
        have hc2 : cc < q := by omega
        have hcA : cc < A.length := by omega
        have hcB : d - 1 - cc < B.length := by omega
        have hcd0 : cc < d := by omega
        clear hcc
        have hrow := (H.out.1.fr hR.out.2.2 (fun h => h))
        have hpa : wr.cell? ⟨g, a + cc, none⟩ = some (pv p A[cc]) := by
          have h1 : PRow wr g p (X ++ (A ++ (B ++ Y))) := by simpa using hrow
          have h2 := h1.cellR cc (by simp; omega)
          rw [← HL.out.1, List.getElem_append_left hcA] at h2
          exact h2
        have hpb : wr.cell? ⟨g, m + (d - 1 - cc), none⟩ = some (pv p B[d - 1 - cc]) := by
          have h1 : PRow wr g p ((X ++ A) ++ (B ++ Y)) := by simpa using hrow
          have h2 := h1.cellR (d - 1 - cc) (by simp; omega)
          have h3 : (X ++ A).length = m := by have := HL.out; simp; omega
          rw [h3, List.getElem_append_left hcB] at h2
          exact h2
        have i1 := index75 g len cap (a + cc) (by have := HM.out; omega)
        rw [show ((a + cc : Nat) : Int) = (a : Int) + cc by omega] at i1
        have i2 := index75 g len cap (m + (d - 1 - cc)) (by have := HM.out; omega)
        rw [show ((m + (d - 1 - cc) : Nat) : Int) = (a : Int) + d + m - 1 - ((a : Int) + cc) by omega] at i2
        have hw := wrap_in ((a : Int) + d + m - 1 - ((a : Int) + cc)) (by omega) (by have := HM.out; omega)
        have hyN := HP.out.1.bn _ (List.getElem_mem hcB)
        have hxN := HP.out.1.an _ (List.getElem_mem hcA)
        have hS := fun (qx : Ext wr) => sooner_any ((H.out.2.fr0 hR.out.2.2).fr0 qx.fr) B[d - 1 - cc] A[cc] hyN hxN
        obtain ⟨c, hc⟩ : ∃ c, c = snr (t B[d - 1 - cc]) (t A[cc]) := ⟨_, rfl⟩
        rw [← hc] at hS
        have hcn : c < 0 ↔ ¬ SymQ t A B d cc := by
          rw [hc, snr_neg (ht _ hyN) (ht _ hxN)]
          unfold SymQ
          rw [getD_eq hcA, getD_eq hcB, Classical.not_not]
        simp only [pv] at hS hpa hpb
        have HN := hid hcn
        have HS := hid hS
        have e1 : ∀ qx : Ext wr, qx.out.cell? ⟨g, m + (d - 1 - cc), none⟩ = some (.pointer (some ⟨p B[d - 1 - cc], 0, none⟩)) := fun qx => qx.cell hpb
        have e2 : ∀ qx : Ext wr, qx.out.cell? ⟨g, a + cc, none⟩ = some (.pointer (some ⟨p A[cc], 0, none⟩)) := fun qx => qx.cell hpa
        clear hS hpa hpb hcn hc hyN hxN hrow
        have hcs : c < 0 ∨ ¬ c < 0 := by omega
        rcases hcs with hc | hc
        · as_aux_lemma =>
          have hcd : decide (c < 0) = true := by simp [hc]
          have HU := hid (HN.out.1 hc)
          clear hc
          go_wp2_with fail
          refine wp_region_ext (by kernel_rfl) (by kernel_rfl) ?_
          repeat (refine wpQuiet_step (fun K hK => ?_); go_simp; first | (refine hK _ ?_; clear hK K) | (apply Exists.intro; refine ⟨fun _ => ?_, hK _ ?_⟩; (go_at_call 55; refine calls_ext (HS.out _)); clear hK K))
          refine wpQuiet_nil ?_
          intro _ hw'
          obtain ⟨qx, hw''⟩ := hw'
          subst hw''
          have hW1 := qx.fr
          generalize qx.out = W1 at hW1 ⊢
          clear qx e1 e2 i1 i2 hw
          have HE : Hid ((∀ c, lo ≤ c → c < s → SymQ t A B d c) ∧ (∀ c, cc ≤ c → c < hi → ¬ SymQ t A B d c) ∧ Fr0 w W1) := hid ⟨hR.out.1, fun c' h1 h2 h3 => HU.out (symQ_down HP.out.1.a HP.out.1.b (by omega) h1 hcB h3), hR.out.2.2.trans0 hW1⟩
          clear hW1 hR HU
          go_wp2
          go_roundw
          case rel => exact ⟨s, cc, rfl, rfl, by omega, by omega, by omega, HE⟩
          case measure => simp [intOf]; omega
        · as_aux_lemma =>
          have hcd : decide (c < 0) = false := by simp; omega
          have HU := hid (Classical.not_not.1 (fun h => hc (HN.out.2 h)))
          clear hc
          go_wp2_with fail
          refine wp_region_ext (by kernel_rfl) (by kernel_rfl) ?_
          repeat (refine wpQuiet_step (fun K hK => ?_); go_simp; first | (refine hK _ ?_; clear hK K) | (apply Exists.intro; refine ⟨fun _ => ?_, hK _ ?_⟩; (go_at_call 55; refine calls_ext (HS.out _)); clear hK K))
          refine wpQuiet_nil ?_
          intro _ hw'
          obtain ⟨qx, hw''⟩ := hw'
          subst hw''
          have hW1 := qx.fr
          generalize qx.out = W1 at hW1 ⊢
          clear qx e1 e2 i1 i2 hw
          have HE : Hid ((∀ c, lo ≤ c → c < cc + 1 → SymQ t A B d c) ∧ (∀ c, q ≤ c → c < hi → ¬ SymQ t A B d c) ∧ Fr0 w W1) := hid ⟨fun c' h1 h2 => symQ_down HP.out.1.a HP.out.1.b hcA (by omega) (by omega) HU.out, hR.out.2.1, hR.out.2.2.trans0 hW1⟩
          clear hW1 hR HU
          go_wp2
          go_roundw
          case rel => exact ⟨cc + 1, q, vi (by omega), rfl, by omega, by omega, by omega, HE⟩
          case measure => simp [intOf]; omega
      · obtain rfl : s = q := by omega
        have HS := hid (HQ.out s hls hqh hR.out.1 hR.out.2.1)
        have HF := hid hR.out.2.2
        clear hR HQ
        have hsA := HS.out.sa
        have hsd := HS.out.sd
        have hsB := HS.out.eb
        have hA1 : (A.take s).length = s := by simp; omega
        have hA2 : (A.drop s).length = A.length - s := by simp
        have hB1 : (B.take (d - s)).length = d - s := by simp; omega
        have hB2 : (B.drop (d - s)).length = B.length - (d - s) := by simp
        have HN := hid (And.intro hA1 (And.intro hA2 (And.intro hB1 hB2)))
        have hrow0 : PRow wr g p (X ++ A.take s ++ A.drop s ++ B.take (d - s) ++ (B.drop (d - s) ++ Y)) := by
          have h1 := H.out.1.fr HF.out (fun h => h)
          have e1 := List.take_append_drop s A
          have e2 := List.take_append_drop (d - s) B
          have e3 : X ++ A.take s ++ A.drop s ++ B.take (d - s) ++ (B.drop (d - s) ++ Y) = X ++ (A.take s ++ A.drop s) ++ (B.take (d - s) ++ B.drop (d - s)) ++ Y := by simp only [List.append_assoc]
          rw [e3, e1, e2]
          exact h1
        have HR0 := hid hrow0
        clear hA1 hA2 hB1 hB2 hrow0
        go_upto_region 39 with (fail)
        obtain ⟨bb, hbb⟩ : ∃ bb : Bool, bb = decide (s < A.length ∧ s < d) := ⟨_, rfl⟩
        have HBB := hid hbb
        clear hbb
        go_cut [185] (fun tt wx => tt = .bool bb ∧ wr = wx)
        case first => as_aux_lemma =>
          rcases (by omega : (s < A.length ∧ s < d) ∨ (s < A.length ∧ ¬ s < d) ∨ ¬ s < A.length) with ⟨h1, h2⟩ | ⟨h1, h2⟩ | h1
          · have q1 : (a : Int) + s < (m : Int) := by have := HM.out; omega
            have q2 : (m : Int) < (a : Int) + d + m - ((a : Int) + s) := by omega
            have hv : bb = true := by rw [HBB.out]; simp; omega
            subst hv
            go_wp2_with fail
            go_meet
            exact ⟨rfl, rfl⟩
          · have q1 : (a : Int) + s < (m : Int) := by have := HM.out; omega
            have q2 : ¬ (m : Int) < (a : Int) + d + m - ((a : Int) + s) := by omega
            have hv : bb = false := by rw [HBB.out]; simp; omega
            subst hv
            go_wp2_with fail
            go_meet
            exact ⟨rfl, rfl⟩
          · have q1 : ¬ (a : Int) + s < (m : Int) := by have := HM.out; omega
            have hv : bb = false := by rw [HBB.out]; simp; omega
            subst hv
            go_wp2_with fail
            go_meet
            exact ⟨rfl, rfl⟩
        case rest => as_aux_lemma =>
          obtain ⟨rfl, rfl⟩ := hcut
          go_upto_if 185 with (fail)
          go_cut [] (fun wx => Hid (PRow wx g p (X ++ A.take s ++ B.take (d - s) ++ A.drop s ++ (B.drop (d - s) ++ Y)) ∧ Fr (· = g) w wx))
          case first => as_aux_lemma =>
            have hcs : (s < A.length ∧ s < d) ∨ (s < A.length ∧ ¬ s < d) ∨ ¬ s < A.length := by omega
            rcases hcs with ⟨h1, h2⟩ | ⟨h1, h2⟩ | h1
            · have hv : bb = true := by rw [HBB.out]; simp; omega
              subst hv
              go_wp2_with fail
              refine (rotate_int g cap p (X ++ A.take s) (A.drop s) (B.take (d - s)) (B.drop (d - s) ++ Y) (by have := HN.out; omega) (by have := HN.out; omega) _ _ _ _ len (by have := HN.out; have := HL.out; simp; omega) (by have := HN.out; have := HL.out; simp; omega) (by have := HN.out; have := HL.out; simp; omega)
                (by have := HN.out; have := HL.out; simp; omega) hcap _ HR0.out).mono ?_
              rintro e w1 ⟨rfl, hf1, hr1⟩
              have HE := hid (And.intro hr1 ((HF.out.mono (fun _ _ h => h.elim)).trans' hf1))
              clear hf1 hr1
              go_wp2_with fail
              go_meet
              exact HE
            · have hv : bb = false := by rw [HBB.out]; simp; omega
              subst hv
              have HE : Hid (PRow wr g p (X ++ A.take s ++ B.take (d - s) ++ A.drop s ++ (B.drop (d - s) ++ Y)) ∧ Fr (· = g) w wr) := hid ⟨by
                have h3 : B.take (d - s) = [] := List.eq_nil_of_length_eq_zero (by have := HN.out; omega)
                have h4 := HR0.out
                rw [h3] at h4 ⊢
                simpa using h4, HF.out.mono (fun _ _ h => h.elim)⟩
              go_wp2_with fail
              go_meet
              exact HE
            · have hv : bb = false := by rw [HBB.out]; simp; omega
              subst hv
              have HE : Hid (PRow wr g p (X ++ A.take s ++ B.take (d - s) ++ A.drop s ++ (B.drop (d - s) ++ Y)) ∧ Fr (· = g) w wr) := hid ⟨by
                have h3 : A.drop s = [] := List.eq_nil_of_length_eq_zero (by have := HN.out; omega)
                have h4 := HR0.out
                rw [h3] at h4 ⊢
                simpa using h4, HF.out.mono (fun _ _ h => h.elim)⟩
              go_wp2_with fail
              go_meet
              exact HE
          case rest => as_aux_lemma =>
            have HR1 := hcut
            clear hcut HR0 HF
            go_upto_region 41 with (fail)
            obtain ⟨bb, hbb⟩ : ∃ bb : Bool, bb = decide (0 < s ∧ s < d) := ⟨_, rfl⟩
            have HBB := hid hbb
            clear hbb
            go_cut [199] (fun tt wx => tt = .bool bb ∧ wc = wx)
            case first => as_aux_lemma =>
              rcases (by omega : (0 < s ∧ s < d) ∨ (0 < s ∧ ¬ s < d) ∨ ¬ 0 < s) with ⟨h1, h2⟩ | ⟨h1, h2⟩ | h1
              · have q1 : (a : Int) < (a : Int) + s := by omega
                have q2 : (a : Int) + s < (a : Int) + d := by omega
                have hv : bb = true := by rw [HBB.out]; simp; omega
                subst hv
                go_wp2_with fail
                go_meet
                exact ⟨rfl, rfl⟩
              · have q1 : (a : Int) < (a : Int) + s := by omega
                have q2 : ¬ (a : Int) + s < (a : Int) + d := by omega
                have hv : bb = false := by rw [HBB.out]; simp; omega
                subst hv
                go_wp2_with fail
                go_meet
                exact ⟨rfl, rfl⟩
              · have q1 : ¬ (a : Int) < (a : Int) + s := by omega
                have hv : bb = false := by rw [HBB.out]; simp; omega
                subst hv
                go_wp2_with fail
                go_meet
                exact ⟨rfl, rfl⟩
            case rest => as_aux_lemma =>
              obtain ⟨rfl, rfl⟩ := hcut
              go_upto_if 199 with (fail)
              go_cut [] (fun wx => Hid (∃ C, C.Perm (A.take s ++ B.take (d - s)) ∧ Srt t C ∧ PRow wx g p (X ++ C ++ A.drop s ++ B.drop (d - s) ++ Y) ∧ Fr (· = g) w wx))
              case first => as_aux_lemma =>
                have hcs : (0 < s ∧ s < d) ∨ (0 < s ∧ ¬ s < d) ∨ ¬ 0 < s := by omega
                rcases hcs with ⟨h1, h2⟩ | ⟨h1, h2⟩ | h1
                · have hv : bb = true := by rw [HBB.out]; simp; omega
                  subst hv
                  go_wp2_with fail
                  refine (HIH.out X (A.take s) (B.take (d - s)) (A.drop s ++ (B.drop (d - s) ++ Y)) _ _ _ _ (by have := HN.out; have := HP.out.2; omega) (by have := HN.out; omega) (by have := HN.out; omega) HP.out.1.one (by have := HL.out; omega) (by have := HN.out; have := HL.out; omega) (by have := HN.out; have := HL.out; omega)
                    (by have := HN.out; have := HL.out; simp; omega) (by have := HR1.out.1; simpa using this) (H.out.2.fr HR1.out.2)).mono ?_
                  rintro e w1 ⟨rfl, hf1, C, hC1, hC2, hC3⟩
                  have HE : Hid (∃ C, C.Perm (A.take s ++ B.take (d - s)) ∧ Srt t C ∧ PRow w1 g p (X ++ C ++ A.drop s ++ B.drop (d - s) ++ Y) ∧ Fr (· = g) w w1) := hid ⟨C, hC1, hC2, by simpa using hC3, HR1.out.2.trans' hf1⟩
                  clear hf1 hC1 hC2 hC3
                  go_wp2_with fail
                  go_meet
                  exact HE
                · have hv : bb = false := by rw [HBB.out]; simp; omega
                  subst hv
                  have HE : Hid (∃ C, C.Perm (A.take s ++ B.take (d - s)) ∧ Srt t C ∧ PRow wc g p (X ++ C ++ A.drop s ++ B.drop (d - s) ++ Y) ∧ Fr (· = g) w wc) := hid ⟨A.take s ++ B.take (d - s), List.Perm.refl _, srt_of_empty (HP.out.1.a.take _) (HP.out.1.b.take _) (.inr (List.eq_nil_of_length_eq_zero (by have := HN.out; omega))), by have := HR1.out.1; simpa using this, HR1.out.2⟩
                  go_wp2_with fail
                  go_meet
                  exact HE
                · have hv : bb = false := by rw [HBB.out]; simp; omega
                  subst hv
                  have HE : Hid (∃ C, C.Perm (A.take s ++ B.take (d - s)) ∧ Srt t C ∧ PRow wc g p (X ++ C ++ A.drop s ++ B.drop (d - s) ++ Y) ∧ Fr (· = g) w wc) := hid ⟨A.take s ++ B.take (d - s), List.Perm.refl _, srt_of_empty (HP.out.1.a.take _) (HP.out.1.b.take _) (.inl (List.eq_nil_of_length_eq_zero (by have := HN.out; omega))), by have := HR1.out.1; simpa using this, HR1.out.2⟩
                  go_wp2_with fail
                  go_meet
                  exact HE
              case rest => as_aux_lemma =>
                obtain ⟨C, hC⟩ := hcut.out
                have HC2 := hid hC
                have hCl : C.length = d := by
                  have h1 := HC2.out.1.length_eq
                  have h2 := HN.out
                  rw [List.length_append] at h1
                  omega
                have HCl := hid hCl
                clear hcut hC HR1 hCl
                have hcs : (s < A.length ∧ d - s < B.length) ∨ (s < A.length ∧ ¬ d - s < B.length) ∨ ¬ s < A.length := by omega
                rcases hcs with ⟨h1, h2⟩ | ⟨h1, h2⟩ | h1
                · have q1 : (a : Int) + d < (a : Int) + d + m - ((a : Int) + s) := by have := HM.out; omega
                  have q2 : (a : Int) + d + m - ((a : Int) + s) < (b : Int) := by have := HM.out; omega
                  go_wp2_with fail
                  refine (HIH.out (X ++ C) (A.drop s) (B.drop (d - s)) Y _ _ _ _ (by have := HN.out; have := HP.out.2; omega) (by have := HN.out; omega) (by have := HN.out; omega) HP.out.1.two (by have := HL.out; have := HCl.out; simp; omega) (by have := HN.out; have := HL.out; have := HCl.out; simp; omega) (by have := HN.out; have := HL.out; have := HCl.out; simp; omega)
                    (by have := HN.out; have := HL.out; have := HCl.out; simp; omega) (by have := HC2.out.2.2.1; simpa using this) (H.out.2.fr HC2.out.2.2.2)).mono ?_
                  rintro e w1 ⟨rfl, hf1, D, hD1, hD2, hD3⟩
                  have HE : Hid (Fr (· = g) w w1 ∧ ∃ C, C.Perm (A ++ B) ∧ Srt t C ∧ PRow w1 g p (X ++ C ++ Y)) := hid (by
                    obtain ⟨j1, j2⟩ := sym_join ht HP.out.1 HS.out HC2.out.1 HC2.out.2.1 hD1 hD2
                    exact ⟨HC2.out.2.2.2.trans' hf1, C ++ D, j1, j2, by simpa using hD3⟩)
                  clear hf1 hD1 hD2 hD3
                  go_wp2
                  go_end0
                  exact ⟨rfl, by simpa using HE.out⟩
                · have q1 : (a : Int) + d < (a : Int) + d + m - ((a : Int) + s) := by have := HM.out; omega
                  have q2 : ¬ (a : Int) + d + m - ((a : Int) + s) < (b : Int) := by have := HM.out; omega
                  have HE : Hid (Fr (· = g) w wc ∧ ∃ C, C.Perm (A ++ B) ∧ Srt t C ∧ PRow wc g p (X ++ C ++ Y)) := hid (by
                    obtain ⟨j1, j2⟩ := sym_join ht HP.out.1 HS.out HC2.out.1 HC2.out.2.1 (List.Perm.refl _) (srt_of_empty (HP.out.1.a.drop _) (HP.out.1.b.drop _) (.inr (List.eq_nil_of_length_eq_zero (by have := HN.out; omega))))
                    exact ⟨HC2.out.2.2.2, _, j1, j2, by have := HC2.out.2.2.1; simpa using this⟩)
                  go_wp2
                  go_end0
                  exact ⟨rfl, by simpa using HE.out⟩
                · have q1 : ¬ (a : Int) + d < (a : Int) + d + m - ((a : Int) + s) := by have := HM.out; omega
                  have HE : Hid (Fr (· = g) w wc ∧ ∃ C, C.Perm (A ++ B) ∧ Srt t C ∧ PRow wc g p (X ++ C ++ Y)) := hid (by
                    obtain ⟨j1, j2⟩ := sym_join ht HP.out.1 HS.out HC2.out.1 HC2.out.2.1 (List.Perm.refl _) (srt_of_empty (HP.out.1.a.drop _) (HP.out.1.b.drop _) (.inl (List.eq_nil_of_length_eq_zero (by have := HN.out; omega))))
                    exact ⟨HC2.out.2.2.2, _, j1, j2, by have := HC2.out.2.2.1; simpa using this⟩)
                  go_wp2
                  go_end0
                  exact ⟨rfl, by simpa using HE.out⟩

/-- slices.symMergeCmpFunc. -/
theorem sym_any (g cap : Nat) (p : Nat → Nat) (t : Nat → Int) (N len : Nat) (ht : ∀ i, i < N → -1 ≤ t i) (hcap : len ≤ 4398046511104) : ∀ k, SymSpec g cap p t N len k
  | 0 => fun X A B Y a m b w hk hA hB => by omega
  | k + 1 => fun X A B Y a m b w hk hA hB hP ha hm hb hlen h hT => by
    have hm2 : m = ((X.length + A.length : Nat) : Int) := by rw [hm]; omega
    have hb2 : b = ((X.length + A.length + B.length : Nat) : Int) := by rw [hb]; omega
    rw [ha, hm2, hb2]
    by_cases h1 : A.length = 1
    · obtain ⟨x, rfl⟩ := List.length_eq_one_iff.1 h1
      exact symA_any g cap p t N ht X B Y x hB hP X.length _ _ len rfl (by simp) (by simp) (by simp at hlen ⊢; omega) hcap w h hT
    · by_cases h2 : B.length = 1
      · obtain ⟨y, rfl⟩ := List.length_eq_one_iff.1 h2
        exact symB_any g cap p t N ht X A Y y (by omega) hP X.length _ _ len rfl rfl (by simp) (by simp at hlen ⊢; omega) hcap w h hT
      · exact symC_any g cap p t N len k ht hcap (sym_any g cap p t N len ht hcap k) X A B Y (by omega) (by omega) hk hP X.length _ _ rfl rfl rfl hlen w h hT
end Go.Proofs.Ytjaabbjobnfmmaa

namespace Go.Proofs.Ytjaabbjobnfmmaa

/-- Block i of bs elements of a row. -/
def blk (M : List Nat) (i bs : Nat) : List Nat := (M.drop (i * bs)).take bs
/-- Block i of M holds what block i of L held, in order. -/
def GB (t : Nat → Int) (L M : List Nat) (i bs : Nat) : Prop := (blk M i bs).Perm (blk L i bs) ∧ Srt t (blk M i bs)

section
variable {t : Nat → Int} {L M P Q C : List Nat} {i bs k n : Nat}

theorem GB.empty (hl : L.length ≤ i * bs) (hm : M.length ≤ i * bs) : GB t L M i bs := by
  unfold GB blk
  rw [List.drop_of_length_le hl, List.drop_of_length_le hm]
  simp [Srt]

/-- A block that lies before the place where two rows part. -/
theorem blk_left (P Q Q' : List Nat) (i bs : Nat) (h : i * bs + bs ≤ P.length) : blk (P ++ Q) i bs = blk (P ++ Q') i bs := by
  unfold blk
  rw [List.drop_append_of_le_length (by omega), List.drop_append_of_le_length (by omega), List.take_append_of_le_length (by simp; omega), List.take_append_of_le_length (by simp; omega)]
/-- A block that lies behind a piece that is as long as before. -/
theorem blk_right (P P' Q : List Nat) (i bs : Nat) (h : P.length = P'.length) (h2 : P.length ≤ i * bs) : blk (P ++ Q) i bs = blk (P' ++ Q) i bs := by
  unfold blk
  have e1 : P.drop (i * bs) = [] := List.drop_of_length_le h2
  have e2 : P'.drop (i * bs) = [] := List.drop_of_length_le (h ▸ h2)
  rw [List.drop_append, List.drop_append, e1, e2, h]

theorem blk_mid (P C Q : List Nat) (i bs : Nat) (h : P.length = i * bs) (h2 : C.length = bs ∨ (C.length ≤ bs ∧ Q = [])) : blk (P ++ C ++ Q) i bs = C := by
  unfold blk
  rw [List.append_assoc, ← h, List.drop_left]
  rcases h2 with h2 | ⟨h2, rfl⟩
  · rw [← h2, List.take_left]
  · rw [List.append_nil, List.take_of_length_le h2]

/-- The two halves of a block. -/
theorem blk_two (M : List Nat) (k bs : Nat) : blk M k (2 * bs) = blk M (2 * k) bs ++ blk M (2 * k + 1) bs := by
  unfold blk
  have e1 : k * (2 * bs) = 2 * k * bs := by rw [Nat.mul_comm 2 k, Nat.mul_assoc]
  have e2 : (2 * k + 1) * bs = 2 * k * bs + bs := by rw [Nat.add_mul]; omega
  rw [e1, e2, ← List.drop_drop, show 2 * bs = bs + bs by omega, List.take_add]

/-- A row cut at a block. -/
theorem cut_blk (M : List Nat) (i bs : Nat) : M = M.take (i * bs) ++ blk M i bs ++ M.drop (i * bs + bs) := by
  unfold blk
  rw [← List.drop_drop, List.append_assoc, List.take_append_drop, List.take_append_drop]

theorem blk_len (M : List Nat) (i bs : Nat) (h : i * bs + bs ≤ M.length) : (blk M i bs).length = bs := by
  unfold blk; simp; omega
theorem blk_len_le (M : List Nat) (i bs : Nat) : (blk M i bs).length ≤ bs := by
  unfold blk; simp; omega

/-- Of an ascending row the elements of an earlier block are lower. -/
theorem blk_lt (hL : L.Pairwise (· < ·)) (i bs : Nat) : ∀ x ∈ blk L i bs, ∀ y ∈ blk L (i + 1) bs, x < y := by
  intro x hx y hy
  have e : (i + 1) * bs = i * bs + bs := by rw [Nat.add_mul]; omega
  unfold blk at hx hy
  rw [e, ← List.drop_drop] at hy
  have h2 := List.Pairwise.sublist (List.drop_sublist (i * bs) L) hL
  rw [← List.take_append_drop bs (L.drop (i * bs)), List.pairwise_append] at h2
  exact h2.2.2 x hx y (List.mem_of_mem_take hy)
theorem mem_blk {x : Nat} (h : x ∈ blk L i bs) : x ∈ L := List.mem_of_mem_drop (List.mem_of_mem_take h)

/-- What a merge of two blocks asks. -/
theorem pre_of_blk {N : Nat} (hL : L.Pairwise (· < ·)) (hN : ∀ x ∈ L, x < N) (h1 : GB t L M i bs) (h2 : GB t L M (i + 1) bs) : SymPre t N (blk M i bs) (blk M (i + 1) bs) :=
  ⟨h1.2, h2.2, fun x hx y hy => blk_lt hL i bs x (h1.1.mem_iff.1 hx) y (h2.1.mem_iff.1 hy), fun x hx => hN x (mem_blk (h1.1.mem_iff.1 hx)), fun y hy => hN y (mem_blk (h2.1.mem_iff.1 hy))⟩

/-- How the merging stands: k double blocks are merged. -/
structure MrgAt (t : Nat → Int) (L M : List Nat) (bs k : Nat) : Prop where
  len : M.length = L.length
  done : ∀ i, i < k → GB t L M i (2 * bs)
  rest : ∀ i, 2 * k ≤ i → GB t L M i bs

theorem MrgAt.step (h : MrgAt t L M bs k) (hC : C.Perm (blk M (2 * k) bs ++ blk M (2 * k + 1) bs)) (hs : Srt t C) :
    MrgAt t L (M.take (k * (2 * bs)) ++ C ++ M.drop (k * (2 * bs) + 2 * bs)) bs (k + 1) := by
  have hC2 : C.Perm (blk M k (2 * bs)) := by rw [blk_two]; exact hC
  have hCl : C.length = (blk M k (2 * bs)).length := hC2.length_eq
  have hM := cut_blk M k (2 * bs)
  have hml : (M.take (k * (2 * bs)) ++ blk M k (2 * bs)).length = (M.take (k * (2 * bs)) ++ C).length := by simp [hCl]
  have hLb : (blk M k (2 * bs)).Perm (blk L k (2 * bs)) := by
    rw [blk_two, blk_two L]
    exact (h.rest (2 * k) (Nat.le_refl _)).1.append (h.rest (2 * k + 1) (by omega)).1
  refine ⟨?_, fun i hi => ?_, fun i hi => ?_⟩
  · rw [← h.len]
    conv => rhs; rw [hM]
    simp only [List.length_append, hCl]
  · by_cases e : i = k
    · subst e
      by_cases hfull : i * (2 * bs) ≤ M.length
      · have hb : blk (M.take (i * (2 * bs)) ++ C ++ M.drop (i * (2 * bs) + 2 * bs)) i (2 * bs) = C := by
          refine blk_mid _ _ _ _ _ (by simp; omega) ?_
          by_cases hfb : i * (2 * bs) + 2 * bs ≤ M.length
          · left; rw [hCl, blk_len _ _ _ hfb]
          · right; exact ⟨by rw [hCl]; exact blk_len_le _ _ _, List.drop_of_length_le (by omega)⟩
        unfold GB
        rw [hb]
        exact ⟨hC2.trans hLb, hs⟩
      · refine GB.empty (by rw [← h.len]; omega) ?_
        have : C = [] := List.eq_nil_of_length_eq_zero (by rw [hCl]; unfold blk; simp; omega)
        rw [this]; simp; omega
    · have hik : i < k := by omega
      have hmul : i * (2 * bs) + 2 * bs ≤ k * (2 * bs) := by
        have := Nat.mul_le_mul_right (2 * bs) (show i + 1 ≤ k by omega)
        rw [Nat.add_mul] at this; omega
      have hd := h.done i hik
      by_cases hfull : k * (2 * bs) ≤ M.length
      · have e1 : blk (M.take (k * (2 * bs)) ++ C ++ M.drop (k * (2 * bs) + 2 * bs)) i (2 * bs) = blk M i (2 * bs) := by
          rw [List.append_assoc, blk_left _ _ (M.drop (k * (2 * bs))) _ _ (by simp; omega), List.take_append_drop]
        unfold GB at *
        rw [e1]
        exact hd
      · have hCn : C = [] := List.eq_nil_of_length_eq_zero (by rw [hCl]; unfold blk; simp; omega)
        have e1 : M.take (k * (2 * bs)) ++ C ++ M.drop (k * (2 * bs) + 2 * bs) = M := by
          rw [hCn, List.take_of_length_le (by omega), List.drop_of_length_le (by omega)]; simp
        rw [e1]
        exact hd
  · have hr := h.rest i (by omega)
    have hmul : k * (2 * bs) + 2 * bs ≤ i * bs := by
      have := Nat.mul_le_mul_right bs (show 2 * k + 2 ≤ i by omega)
      rw [Nat.add_mul, Nat.mul_comm 2 k, Nat.mul_assoc] at this
      omega
    by_cases hfb : i * bs ≤ M.length
    · have e1 : blk (M.take (k * (2 * bs)) ++ C ++ M.drop (k * (2 * bs) + 2 * bs)) i bs = blk M i bs := by
        rw [blk_right _ (M.take (k * (2 * bs)) ++ blk M k (2 * bs)) _ _ _ hml.symm (by rw [← hml]; have := blk_len_le M k (2 * bs); simp; omega), ← hM]
      unfold GB at *
      rw [e1]
      exact hr
    · refine GB.empty (by rw [← h.len]; omega) ?_
      have : (M.take (k * (2 * bs)) ++ C ++ M.drop (k * (2 * bs) + 2 * bs)).length = M.length := by
        conv => rhs; rw [hM]
        simp only [List.length_append, hCl]
      omega

/-- The last double block, where it is no more than one block. -/
theorem MrgAt.last (h : MrgAt t L M bs k) (hk : M.length ≤ k * (2 * bs) + bs) : ∀ i, GB t L M i (2 * bs) := by
  intro i
  by_cases hik : i < k
  · exact h.done i hik
  · by_cases e : i = k
    · subst e
      have h0 := h.rest (2 * i) (Nat.le_refl _)
      have e1 : i * (2 * bs) = 2 * i * bs := by rw [Nat.mul_comm 2 i, Nat.mul_assoc]
      have hb : ∀ X : List Nat, X.length ≤ i * (2 * bs) + bs → blk X i (2 * bs) = blk X (2 * i) bs := by
        intro X hX
        unfold blk
        rw [← e1, List.take_of_length_le (by simp; omega), List.take_of_length_le (by simp; omega)]
      unfold GB at *
      rw [hb M hk, hb L (by rw [← h.len]; exact hk)]
      exact h0
    · have hmul : k * (2 * bs) + 2 * bs ≤ i * (2 * bs) := by
        have := Nat.mul_le_mul_right (2 * bs) (show k + 1 ≤ i by omega)
        rw [Nat.add_mul] at this; omega
      exact GB.empty (by rw [← h.len]; omega) (by omega)
/-- All double blocks are merged. -/
theorem MrgAt.all (h : MrgAt t L M bs (k + 1)) (hk : M.length ≤ k * (2 * bs) + 2 * bs) : ∀ i, GB t L M i (2 * bs) := by
  intro i
  by_cases hik : i < k + 1
  · exact h.done i hik
  · have hmul : k * (2 * bs) + 2 * bs ≤ i * (2 * bs) := by
      have := Nat.mul_le_mul_right (2 * bs) (show k + 1 ≤ i by omega)
      rw [Nat.add_mul] at this; omega
    exact GB.empty (by rw [← h.len]; omega) (by omega)
theorem MrgAt.start (hl : M.length = L.length) (h : ∀ i, GB t L M i bs) : MrgAt t L M bs 0 := ⟨hl, fun i hi => by omega, fun i _ => h i⟩

/-- How the sorting of blocks stands: k blocks are sorted. -/
structure InsAt (t : Nat → Int) (L M : List Nat) (bs k : Nat) : Prop where
  len : M.length = L.length
  done : ∀ i, i < k → GB t L M i bs
  rest : M.drop (k * bs) = L.drop (k * bs)

theorem InsAt.step (h : InsAt t L M bs k) (hC : C.Perm (blk L k bs)) (hs : Srt t C) (hk : k * bs ≤ M.length) :
    InsAt t L (M.take (k * bs) ++ C ++ M.drop (k * bs + bs)) bs (k + 1) := by
  have hbM : blk M k bs = blk L k bs := by unfold blk; rw [h.rest]
  have hCl : C.length = (blk M k bs).length := by rw [hbM]; exact hC.length_eq
  have hM := cut_blk M k bs
  refine ⟨?_, fun i hi => ?_, ?_⟩
  · rw [← h.len]
    conv => rhs; rw [hM]
    simp only [List.length_append, hCl]
  · by_cases e : i = k
    · subst e
      have hb : blk (M.take (i * bs) ++ C ++ M.drop (i * bs + bs)) i bs = C := by
        refine blk_mid _ _ _ _ _ (by simp; omega) ?_
        by_cases hfb : i * bs + bs ≤ M.length
        · left; rw [hCl, blk_len _ _ _ hfb]
        · right; exact ⟨by rw [hCl]; exact blk_len_le _ _ _, List.drop_of_length_le (by omega)⟩
      unfold GB
      rw [hb]
      exact ⟨hC, hs⟩
    · have hmul : i * bs + bs ≤ k * bs := by
        have := Nat.mul_le_mul_right bs (show i + 1 ≤ k by omega)
        rw [Nat.add_mul] at this; omega
      have hd := h.done i (by omega)
      have e1 : blk (M.take (k * bs) ++ C ++ M.drop (k * bs + bs)) i bs = blk M i bs := by
        rw [List.append_assoc, blk_left _ _ (M.drop (k * bs)) _ _ (by simp; omega), List.take_append_drop]
      unfold GB at *
      rw [e1]
      exact hd
  · have hl : (M.take (k * bs) ++ C).length = min (k * bs + bs) M.length := by
      rw [List.length_append, hCl]; unfold blk; simp; omega
    rw [Nat.add_mul, Nat.one_mul]
    by_cases hfb : k * bs + bs ≤ M.length
    · rw [List.drop_append_of_le_length (by omega), List.drop_of_length_le (by omega), List.nil_append, ← List.drop_drop, h.rest, List.drop_drop]
    · rw [List.drop_of_length_le, List.drop_of_length_le]
      · rw [← h.len]; omega
      · rw [List.length_append, hl]; simp; omega
theorem InsAt.all (h : InsAt t L M bs (k + 1)) (hk : M.length ≤ k * bs + bs) : ∀ i, GB t L M i bs := by
  intro i
  by_cases hik : i < k + 1
  · exact h.done i hik
  · have hmul : k * bs + bs ≤ i * bs := by
      have := Nat.mul_le_mul_right bs (show k + 1 ≤ i by omega)
      rw [Nat.add_mul] at this; omega
    exact GB.empty (by rw [← h.len]; omega) (by omega)
theorem blk_asc (hL : L.Pairwise (· < ·)) (i bs : Nat) : (blk L i bs).Pairwise (· < ·) := List.Pairwise.sublist ((List.take_sublist _ _).trans (List.drop_sublist _ _)) hL
/-- One block is all. -/
theorem all_of_blk (hl : M.length = L.length) (h : GB t L M 0 bs) (hb : L.length ≤ bs) : M.Perm L ∧ Srt t M := by
  unfold GB blk at h
  rw [Nat.zero_mul, List.drop_zero, List.drop_zero, List.take_of_length_le (by omega), List.take_of_length_le hb] at h
  exact h
end
end Go.Proofs.Ytjaabbjobnfmmaa

namespace Go.Proofs.Ytjaabbjobnfmmaa
open Go.RowKit

/-- slices.insertionSortCmpFunc at one block of the row M. -/
theorem ins_blk (g cap : Nat) (p : Nat → Nat) (t : Nat → Int) (N : Nat) (ht : ∀ i, i < N → -1 ≤ t i) (L : List Nat) (hL : L.Pairwise (· < ·)) (hN : ∀ i ∈ L, i < N) (M : List Nat) (k bs len : Nat) (h : InsAt t L M bs k) (a b : Int) (hk : k * bs ≤ len) (ha : a = (k * bs : Nat)) (hb : b = (min (k * bs + bs) len : Nat))
    (hlen : len = M.length) (hcap : len ≤ 4398046511104) (w : World) (hr : PRow w g p M) (hT : Tos w g p t N) :
    Calls Try.prog 79 #[.slice (some ⟨g, 0, none⟩) len cap, .int .i64 a, .int .i64 b, .func (.func 55) #[] #[]] w fun e w' => e = .returned (.tuple #[]) ∧ Fr (· = g) w w' ∧ ∃ M', InsAt t L M' bs (k + 1) ∧ PRow w' g p M' := by
  have hM := cut_blk M k bs
  have hbM : blk M k bs = blk L k bs := by unfold blk; rw [h.rest]
  have hbl : (blk M k bs).length = min (k * bs + bs) len - k * bs := by unfold blk; simp; omega
  rw [ha, hb]
  refine (insertion_any g cap p t N ht (M.take (k * bs)) (blk M k bs) (M.drop (k * bs + bs)) (by rw [hbM]; exact blk_asc hL k bs) (fun i hi => by rw [hbM] at hi; exact hN i (mem_blk hi)) _ _ len (by simp; omega) (by rw [hbl]; simp; omega)
    (by rw [hbl]; simp; omega) hcap w (by rw [← hM]; exact hr) hT).mono ?_
  rintro e w' ⟨he, hf, C, hC1, hC2, hC3⟩
  exact ⟨he, hf, _, h.step (hbM ▸ hC1) hC2 (by omega), hC3⟩

/-- slices.symMergeCmpFunc at two neighbouring blocks of the row M. -/
theorem sym_blk (g cap : Nat) (p : Nat → Nat) (t : Nat → Int) (N : Nat) (ht : ∀ i, i < N → -1 ≤ t i) (L : List Nat) (hL : L.Pairwise (· < ·)) (hN : ∀ i ∈ L, i < N) (M : List Nat) (k bs len : Nat) (h : MrgAt t L M bs k) (hbs : 0 < bs) (a m b : Int) (hk : k * (2 * bs) + bs < len) (ha : a = (k * (2 * bs) : Nat)) (hm : m = (k * (2 * bs) + bs : Nat)) (hb : b = (min (k * (2 * bs) + 2 * bs) len : Nat))
    (hlen : len = M.length) (hcap : len ≤ 4398046511104) (w : World) (hr : PRow w g p M) (hT : Tos w g p t N) :
    Calls Try.prog 80 #[.slice (some ⟨g, 0, none⟩) len cap, .int .i64 a, .int .i64 m, .int .i64 b, .func (.func 55) #[] #[]] w fun e w' => e = .returned (.tuple #[]) ∧ Fr (· = g) w w' ∧ ∃ M', MrgAt t L M' bs (k + 1) ∧ PRow w' g p M' := by
  have hM := cut_blk M k (2 * bs)
  have e1 : 2 * k * bs = k * (2 * bs) := by rw [Nat.mul_comm 2 k, Nat.mul_assoc]
  have e2 : (2 * k + 1) * bs = k * (2 * bs) + bs := by rw [Nat.add_mul, e1]; omega
  have l1 : (blk M (2 * k) bs).length = bs := blk_len _ _ _ (by omega)
  have l2 : (blk M (2 * k + 1) bs).length = min (k * (2 * bs) + 2 * bs) len - (k * (2 * bs) + bs) := by unfold blk; rw [e2]; simp; omega
  have l3 : (M.take (k * (2 * bs))).length = k * (2 * bs) := by simp; omega
  have hrow : PRow w g p (M.take (k * (2 * bs)) ++ blk M (2 * k) bs ++ blk M (2 * k + 1) bs ++ M.drop (k * (2 * bs) + 2 * bs)) := by
    rw [List.append_assoc (M.take _), ← blk_two, ← hM]; exact hr
  refine (sym_any g cap p t N len ht hcap ((blk M (2 * k) bs).length + (blk M (2 * k + 1) bs).length) (M.take (k * (2 * bs))) (blk M (2 * k) bs) (blk M (2 * k + 1) bs) (M.drop (k * (2 * bs) + 2 * bs)) a m b w (Nat.le_refl _) (by omega) (by omega)
    (pre_of_blk hL hN (h.rest _ (Nat.le_refl _)) (h.rest _ (by omega))) (by rw [l3]; exact ha) (by rw [l3, l1, hm]; omega) (by rw [l3, l1, l2, hb]; omega) (by rw [l3, l1, l2]; simp; omega) hrow hT).mono ?_
  rintro e w' ⟨he, hf, C, hC1, hC2, hC3⟩
  exact ⟨he, hf, _, h.step hC1 hC2, hC3⟩

set_option maxRecDepth 100000 in
set_option maxHeartbeats 4000000 in
theorem stable_any (g cap : Nat) (p : Nat → Nat) (t : Nat → Int) (N : Nat) (ht : ∀ i, i < N → -1 ≤ t i) (L : List Nat) (hL : L.Pairwise (· < ·)) (hN : ∀ i ∈ L, i < N) (len : Nat) (hlen : len = L.length) (hcap : len ≤ 100000) (w : World) (h : PRow w g p L) (hT : Tos w g p t N) :
    Calls Try.prog 73 #[.slice (some ⟨g, 0, none⟩) len cap, .int .i64 len, .func (.func 55) #[] #[]] w fun e w' => e = .returned (.tuple #[]) ∧ Fr (· = g) w w' ∧ ∃ M, M.Perm L ∧ Srt t M ∧ PRow w' g p M := by
  have H := hid (And.intro h hT)
  have HL := hid (And.intro hlen (And.intro hL hN))
  clear h hT hlen hL hN
  go_enter Try.func73, Try.ntmps73
  go_wp2_with fail
  go_loopw [7, 8] (fun a b wr => ∃ k A : Nat, a = .int .i64 A ∧ b = .int .i64 ((A : Int) + 20) ∧ A ≤ len ∧ Hid (A = k * 20 ∧ Fr (· = g) w wr ∧ ∃ M, InsAt t L M 20 k ∧ PRow wr g p M)) (fun a _ _ => len + 1 - (intOf a).toNat)
  case atStart => exact ⟨0, 0, rfl, rfl, by omega, hid ⟨rfl, Fr.refl _ _, L, ⟨rfl, fun i hi => by omega, rfl⟩, H.out.1⟩⟩
  case round =>
    obtain ⟨k, A, rfl, rfl, hk, hR⟩ := hrel
    obtain ⟨hA, hf, M, hI, hM⟩ := hR.out
    have HR := hid (And.intro hf (And.intro hI hM))
    have HA := hid hA
    have HML : Hid (len = M.length) := hid (by rw [hI.len]; exact HL.out.1)
    clear hR hf hI hM hA
    by_cases hlt : A + 20 ≤ len
    · have hltI : (A : Int) + 20 ≤ (len : Int) := by omega
      have hC := ins_blk g cap p t N ht L HL.out.2.1 HL.out.2.2 M k 20 len HR.out.2.1 A ((A : Int) + 20) (by rw [← HA.out]; omega) (by rw [← HA.out]) (by rw [← HA.out]; omega) HML.out (by omega) wr HR.out.2.2 (H.out.2.fr HR.out.1)
      go_wp2_with fail
      refine hC.mono ?_
      rintro e w2 ⟨rfl, hf2, M', hI', hM'⟩
      have HE := hid (show A + 20 = (k + 1) * 20 ∧ Fr (· = g) w w2 ∧ ∃ M, InsAt t L M 20 (k + 1) ∧ PRow w2 g p M from ⟨by have := HA.out; omega, HR.out.1.trans' hf2, M', hI', hM'⟩)
      clear hf2 hI' hM' hC
      go_wp2
      go_roundw
      case rel => exact ⟨k + 1, A + 20, vi (by omega), vi (by omega), by omega, HE⟩
      case measure => simp [intOf]; omega
    · have hnI : ¬ (A : Int) + 20 ≤ (len : Int) := by omega
      have hC := ins_blk g cap p t N ht L HL.out.2.1 HL.out.2.2 M k 20 len HR.out.2.1 A len (by rw [← HA.out]; omega) (by rw [← HA.out]) (by rw [← HA.out]; omega) HML.out (by omega) wr HR.out.2.2 (H.out.2.fr HR.out.1)
      go_wp2_with fail
      refine hC.mono ?_
      rintro e w2 ⟨rfl, hf2, M', hI', hM'⟩
      have HE := hid (show Fr (· = g) w w2 ∧ ∃ M, M.length = L.length ∧ (∀ i, GB t L M i 20) ∧ PRow w2 g p M from ⟨HR.out.1.trans' hf2, M', hI'.len, hI'.all (by rw [hI'.len, ← HL.out.1, ← HA.out]; omega), hM'⟩)
      clear hf2 hI' hM' hC HR HML HA hlt hnI hk
      go_wp2_with fail
      go_loopw [6] (fun t6 wr => ∃ bs : Nat, t6 = .int .i64 bs ∧ 20 ≤ bs ∧ bs ≤ 2 * len + 20 ∧ Hid (Fr (· = g) w wr ∧ ∃ M, M.length = L.length ∧ (∀ i, GB t L M i bs) ∧ PRow wr g p M)) (fun t6 _ => 2 * len + 21 - (intOf t6).toNat)
      case atStart => exact ⟨20, rfl, by omega, by omega, HE⟩
      case round =>
        obtain ⟨bs, rfl, hb0, hb1, hR⟩ := hrel
        clear HE
        by_cases hbl : bs < len
        · have hbI : (bs : Int) < (len : Int) := by omega
          go_wp2_with fail
          obtain ⟨wo, rfl⟩ : ∃ wo : World, wo = wr := ⟨_, rfl⟩
          go_loopw [7, 8] (fun a b wr => ∃ k A : Nat, a = .int .i64 A ∧ b = .int .i64 ((A : Int) + 2 * bs) ∧ A ≤ len ∧ Hid (A = k * (2 * bs) ∧ Fr (· = g) w wr ∧ ∃ M, MrgAt t L M bs k ∧ PRow wr g p M)) (fun a _ _ => len + 1 - (intOf a).toNat)
          case atStart => exact ⟨0, 0, rfl, vi (by omega), by omega, hid (by
            obtain ⟨f1, M, m1, m2, m3⟩ := hR.out
            exact ⟨by omega, f1, M, MrgAt.start m1 m2, m3⟩)⟩
          case round =>
            obtain ⟨k, A, rfl, rfl, hk, hR2⟩ := hrel
            obtain ⟨hA, hf, M, hI, hM⟩ := hR2.out
            have HR := hid (And.intro hf (And.intro hI hM))
            have HA := hid hA
            have HML : Hid (len = M.length) := hid (by rw [hI.len]; exact HL.out.1)
            clear hR2 hf hI hM hA
            by_cases hlt : A + 2 * bs ≤ len
            · have hltI : (A : Int) + 2 * (bs : Int) ≤ (len : Int) := by omega
              have hC := sym_blk g cap p t N ht L HL.out.2.1 HL.out.2.2 M k bs len HR.out.2.1 (by omega) A ((A : Int) + bs) ((A : Int) + 2 * bs) (by rw [← HA.out]; omega) (by rw [← HA.out]) (by rw [← HA.out]; omega) (by rw [← HA.out]; omega) HML.out (by omega) wr HR.out.2.2 (H.out.2.fr HR.out.1)
              go_wp2_with fail
              refine hC.mono ?_
              rintro e w3 ⟨rfl, hf3, M', hI', hM'⟩
              have HE := hid (show A + 2 * bs = (k + 1) * (2 * bs) ∧ Fr (· = g) w w3 ∧ ∃ M, MrgAt t L M bs (k + 1) ∧ PRow w3 g p M from ⟨by rw [Nat.add_mul, Nat.one_mul, ← HA.out], HR.out.1.trans' hf3, M', hI', hM'⟩)
              clear hf3 hI' hM' hC
              go_wp2
              go_roundw
              case rel => exact ⟨k + 1, A + 2 * bs, vi (by omega), vi (by omega), by omega, HE⟩
              case measure => simp [intOf]; omega
            · have hnI : ¬ (A : Int) + 2 * (bs : Int) ≤ (len : Int) := by omega
              by_cases hm : A + bs < len
              · have hmI : (A : Int) + (bs : Int) < (len : Int) := by omega
                have hC := sym_blk g cap p t N ht L HL.out.2.1 HL.out.2.2 M k bs len HR.out.2.1 (by omega) A ((A : Int) + bs) len (by rw [← HA.out]; omega) (by rw [← HA.out]) (by rw [← HA.out]; omega) (by rw [← HA.out]; omega) HML.out (by omega) wr HR.out.2.2 (H.out.2.fr HR.out.1)
                go_wp2_with fail
                refine hC.mono ?_
                rintro e w3 ⟨rfl, hf3, M', hI', hM'⟩
                have HE := hid (show Fr (· = g) w w3 ∧ ∃ M, M.length = L.length ∧ (∀ i, GB t L M i (2 * bs)) ∧ PRow w3 g p M from ⟨HR.out.1.trans' hf3, M', hI'.len, hI'.all (by rw [hI'.len, ← HL.out.1, ← HA.out]; omega), hM'⟩)
                clear hf3 hI' hM' hC
                go_wp2
                go_roundw
                case rel => exact ⟨2 * bs, vi (by omega), by omega, by omega, HE⟩
                case measure => simp [intOf]; omega
              · have hmI : ¬ (A : Int) + (bs : Int) < (len : Int) := by omega
                have HE := hid (show Fr (· = g) w wr ∧ ∃ M, M.length = L.length ∧ (∀ i, GB t L M i (2 * bs)) ∧ PRow wr g p M from ⟨HR.out.1, M, HR.out.2.1.len, HR.out.2.1.last (by rw [← HML.out, ← HA.out]; omega), HR.out.2.2⟩)
                go_wp2
                go_roundw
                case rel => exact ⟨2 * bs, vi (by omega), by omega, by omega, HE⟩
                case measure => simp [intOf]; omega
        · have hbI : ¬ (bs : Int) < (len : Int) := by omega
          have HE := hid (show Fr (· = g) w wr ∧ ∃ M, M.Perm L ∧ Srt t M ∧ PRow wr g p M from by
            obtain ⟨f1, M, m1, m2, m3⟩ := hR.out
            obtain ⟨j1, j2⟩ := all_of_blk m1 (m2 0) (by have := HL.out.1; omega)
            exact ⟨f1, M, j1, j2, m3⟩)
          go_wp2
          go_end0
          exact ⟨rfl, HE.out⟩

theorem sortStable_any (g cap : Nat) (p : Nat → Nat) (t : Nat → Int) (N : Nat) (ht : ∀ i, i < N → -1 ≤ t i) (L : List Nat) (hL : L.Pairwise (· < ·)) (hN : ∀ i ∈ L, i < N) (len : Nat) (hlen : len = L.length) (hcap : len ≤ 100000) (w : World) (h : PRow w g p L) (hT : Tos w g p t N) :
    Calls Try.prog 54 #[.slice (some ⟨g, 0, none⟩) len cap, .func (.func 55) #[] #[]] w fun e w' => e = .returned (.tuple #[]) ∧ Fr (· = g) w w' ∧ ∃ M, M.Perm L ∧ Srt t M ∧ PRow w' g p M := by
  have H := stable_any g cap p t N ht L hL hN len hlen hcap w h hT
  clear h hT hL hN hlen
  go_enter Try.func54, Try.ntmps54
  go_wp2_with fail
  refine H.mono ?_
  rintro e w1 ⟨rfl, hE⟩
  have HE := hid hE
  clear hE H
  go_wp2
  go_end0
  exact ⟨rfl, HE.out⟩
end Go.Proofs.Ytjaabbjobnfmmaa

namespace Go.Proofs.Ytjaabbjobnfmmaa
open Go.RowKit

set_option maxHeartbeats 1000000 in
theorem ins_nil (w : World) : Calls Try.prog 79 #[.slice none 0 0, .int .i64 0, .int .i64 0, .func (.func 55) #[] #[]] w fun e w' => e = .returned (.tuple #[]) ∧ Fr0 w w' := by
  go_enter Try.func79, Try.ntmps79
  go_wp2_with fail
  go_loopw [8] (fun a wr => a = .int .i64 1 ∧ Fr0 w wr) (fun _ _ => 0)
  case atStart => exact ⟨rfl, Fr.refl _ _⟩
  case round =>
    obtain ⟨rfl, hF⟩ := hrel
    go_wp2
    go_end0
    exact ⟨rfl, hF⟩

set_option maxHeartbeats 1000000 in
theorem stable_nil (w : World) : Calls Try.prog 73 #[.slice none 0 0, .int .i64 0, .func (.func 55) #[] #[]] w fun e w' => e = .returned (.tuple #[]) ∧ Fr0 w w' := by
  go_enter Try.func73, Try.ntmps73
  go_wp2_with fail
  go_loopw [7, 8] (fun a b wr => a = .int .i64 0 ∧ b = .int .i64 20 ∧ Fr0 w wr) (fun _ _ _ => 0)
  case atStart => exact ⟨rfl, rfl, Fr.refl _ _⟩
  case round =>
    obtain ⟨rfl, rfl, hF⟩ := hrel
    have HF := hid hF
    clear hF
    go_wp2_with fail
    refine (ins_nil _).mono ?_
    rintro e w1 ⟨rfl, hf1⟩
    have HG := hid (HF.out.trans0 hf1)
    clear hf1 HF
    go_wp2_with fail
    go_loopw [6] (fun a wr => a = .int .i64 20 ∧ Fr0 w wr) (fun _ _ => 0)
    case atStart => exact ⟨rfl, HG.out⟩
    case round =>
      obtain ⟨rfl, hF⟩ := hrel
      go_wp2
      go_end0
      exact ⟨rfl, hF⟩

theorem sort_nil (w : World) : Calls Try.prog 54 #[.slice none 0 0, .func (.func 55) #[] #[]] w fun e w' => e = .returned (.tuple #[]) ∧ Fr0 w w' := by
  have H := stable_nil w
  go_enter Try.func54, Try.ntmps54
  go_wp2_with fail
  refine H.mono ?_
  rintro e w1 ⟨rfl, hE⟩
  clear H
  go_wp2
  go_end0
  exact ⟨rfl, hE⟩
end Go.Proofs.Ytjaabbjobnfmmaa

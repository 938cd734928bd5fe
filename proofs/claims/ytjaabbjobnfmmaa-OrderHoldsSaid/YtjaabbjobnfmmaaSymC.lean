/-
  slices.symMergeCmpFunc at a row of pointers to calls.
-/
import Derived.Test.YtjaabbjobnfmmaaSymP
import Derived.Deep.RegionHeld3
import Derived.Deep.DeepCutAuto
namespace Go.Proofs.Ytjaabbjobnfmmaa
open Go.RowKit

theorem rotate_int (g cap : Nat) (p : Nat → Nat) (X U V Y : List Nat) (hU : 0 < U.length) (hV : 0 < V.length) (cmp : Value) (a m b : Int) (len : Nat) (ha : a = X.length) (hm : m = X.length + U.length) (hb : b = X.length + U.length + V.length)
    (hlen : len = X.length + U.length + V.length + Y.length) (hcap : len ≤ 4398046511104) (w : World) (h : PRow w g p (X ++ U ++ V ++ Y)) :
    Calls Try.prog 91 #[.slice (some ⟨g, 0, none⟩) len cap, .int .i64 a, .int .i64 m, .int .i64 b, cmp] w fun e w' => e = .returned (.tuple #[]) ∧ Fr (· = g) w w' ∧ PRow w' g p (X ++ V ++ U ++ Y) := by
  have hm2 : m = ((X.length + U.length : Nat) : Int) := by rw [hm]; omega
  have hb2 : b = ((X.length + U.length + V.length : Nat) : Int) := by rw [hb]; omega
  rw [ha, hm2, hb2]
  exact rotate_any g cap p X U V Y hU hV cmp _ _ _ len rfl rfl rfl hlen hcap w h

/-- symMerge at rows of at most k calls. -/
def SymSpec (g cap : Nat) (p : Nat → Nat) (t : Nat → Int) (N len k : Nat) : Prop :=
  ∀ (X A B Y : List Nat) (a m b : Int) (w : World), A.length + B.length ≤ k → 0 < A.length → 0 < B.length → SymPre t N A B → a = X.length → m = X.length + A.length → b = X.length + A.length + B.length →
    len = X.length + A.length + B.length + Y.length → PRow w g p (X ++ A ++ B ++ Y) → Tos w g p t N →
    Calls Try.prog 80 #[.slice (some ⟨g, 0, none⟩) len cap, .int .i64 a, .int .i64 m, .int .i64 b, .func (.func 55) #[] #[]] w fun e w' => e = .returned (.tuple #[]) ∧ Fr (· = g) w w' ∧ ∃ C, C.Perm (A ++ B) ∧ Srt t C ∧ PRow w' g p (X ++ C ++ Y)

set_option maxRecDepth 100000 in
set_option maxHeartbeats 8000000 in
theorem symC_any (g cap : Nat) (p : Nat → Nat) (t : Nat → Int) (N len k : Nat) (ht : ∀ i, i < N → -1 ≤ t i) (hcap : len ≤ 4398046511104) (IH : SymSpec g cap p t N len k) (X A B Y : List Nat) (hA : 1 < A.length) (hB : 1 < B.length) (hk : A.length + B.length ≤ k + 1) (hP : SymPre t N A B)
    (a m b : Nat) (ha : a = X.length) (hm : m = a + A.length) (hb : b = m + B.length) (hlen : len = b + Y.length) (w : World) (h : PRow w g p (X ++ A ++ B ++ Y)) (hT : Tos w g p t N) :
    Calls Try.prog 80 #[.slice (some ⟨g, 0, none⟩) len cap, .int .i64 a, .int .i64 m, .int .i64 b, .func (.func 55) #[] #[]] w fun e w' => e = .returned (.tuple #[]) ∧ Fr (· = g) w w' ∧ ∃ C, C.Perm (A ++ B) ∧ Srt t C ∧ PRow w' g p (X ++ C ++ Y) := by
  obtain ⟨d, hd⟩ : ∃ d, d = (A.length + B.length) / 2 := ⟨_, rfl⟩
  have hlo : d ≤ symLo A B d + B.length := by unfold symLo; split <;> omega
  have hhi1 : symHi A d ≤ A.length := by unfold symHi; split <;> omega
  have hhi2 : symHi A d ≤ d := by unfold symHi; split <;> omega
  have hlh : symLo A B d ≤ symHi A d := by unfold symLo symHi; split <;> omega
  have hcase : (d < A.length ∧ symLo A B d = d - B.length ∧ symHi A d = d ∧ B.length ≤ d) ∨ (¬ d < A.length ∧ symLo A B d = 0 ∧ symHi A d = A.length) := by
    unfold symLo symHi
    by_cases hdA : d < A.length
    · left; rw [if_pos hdA, if_pos hdA]; exact ⟨hdA, rfl, rfl, by omega⟩
    · right; rw [if_neg hdA, if_neg hdA]; exact ⟨hdA, rfl, rfl⟩
  have HQ : Hid (∀ s, symLo A B d ≤ s → s ≤ symHi A d → (∀ c, symLo A B d ≤ c → c < s → SymQ t A B d c) → (∀ c, s ≤ c → c < symHi A d → ¬ SymQ t A B d c) → SymCut t A B d s) := hid (fun s h0 h1 h2 h3 => symCut hP.a hP.b d s hd h0 h1 h2 h3)
  have H := hid (And.intro h hT)
  have HP := hid (And.intro hP (And.intro hd hk))
  have HL := hid (And.intro ha (And.intro hm (And.intro hb hlen)))
  have hma : ((m : Int) - (a : Int) == 1) = false := by simp; omega
  have hbm : ((b : Int) - (m : Int) == 1) = false := by simp; omega
  have hmid : ((a : Int) + (b : Int)) / 2 = (a : Int) + d := by omega
  have hmA : m = a + A.length := hm
  have hbB : b = m + B.length := hb
  have hdd : a + d < b := by omega
  have hdA : a < m := by omega
  have hdB : m < b := by omega
  have hbl : b ≤ len := by omega
  have HIH := hid IH
  generalize symLo A B d = lo at hlo hlh hcase HQ
  generalize symHi A d = hi at hhi1 hhi2 hlh hcase HQ
  have HC := hid hcase
  have HD := hid (And.intro hlo (And.intro hhi1 hhi2))
  have HM := hid (And.intro hmA hbB)
  clear h hT hP hA hB hk ha hm hb hlen hd IH hcase hmA hbB
  go_enter Try.func80, Try.ntmps80
  go_upto_if 140 with (fail)
  clear hma hbm
  go_cut [20, 21] (fun t20 t21 wx => t20 = .int .i64 ((a : Int) + lo) ∧ t21 = .int .i64 ((a : Int) + hi) ∧ w = wx)
  case first => as_aux_lemma =>
    rcases HC.out with ⟨h1, h2, h3, h4⟩ | ⟨h1, h2, h3⟩
    · have hc : (a : Int) + (d : Int) < (m : Int) := by have := HM.out; omega
      go_wp2_with fail
      go_meet
      exact ⟨vi (by have := HM.out; omega), vi (by omega), rfl⟩
    · have hc : ¬ (a : Int) + (d : Int) < (m : Int) := by have := HM.out; omega
      go_wp2_with fail
      go_meet
      exact ⟨vi (by omega), vi (by have := HM.out; omega), rfl⟩
  case rest => as_aux_lemma =>
    obtain ⟨rfl, rfl, rfl⟩ := hcut
    go_wp2_with fail
    go_loopw [20, 21] (fun t20 t21 wr => ∃ s q : Nat, t20 = .int .i64 ((a : Int) + s) ∧ t21 = .int .i64 ((a : Int) + q) ∧ lo ≤ s ∧ s ≤ q ∧ q ≤ hi ∧
      Hid ((∀ c, lo ≤ c → c < s → SymQ t A B d c) ∧ (∀ c, q ≤ c → c < hi → ¬ SymQ t A B d c) ∧ Fr0 w wr)) (fun i j _ => (intOf j).toNat - (intOf i).toNat)
    case atStart => exact ⟨lo, hi, rfl, rfl, Nat.le_refl _, hlh, Nat.le_refl _, hid ⟨by omega, by omega, Fr.refl _ _⟩⟩
    case round =>
      obtain ⟨s, q, rfl, rfl, hls, hsq, hqh, hR⟩ := hrel
      rcases Nat.lt_or_ge s q with hlt | hge
      · have hltI : (a : Int) + (s : Int) < (a : Int) + (q : Int) := by omega
        obtain ⟨cc, hcc⟩ : ∃ cc, cc = (s + q) / 2 := ⟨_, rfl⟩
        have ecc : ((a : Int) + s + ((a : Int) + q)) / 2 = (a : Int) + cc := by omega
        have hc1 : s ≤ cc := by omega
        have hc2 : cc < q := by omega
        have hcA : cc < A.length := by omega
        have hcB : d - 1 - cc < B.length := by omega
        have hcd0 : cc < d := by omega
        clear hcc
        have hrow := (H.out.1.fr hR.out.2.2 (fun h => h))
        have hpa : wr.cell? ⟨g, a + cc, none⟩ = some (pv p A[cc]) := by
          have h1 : PRow wr g p (X ++ (A ++ (B ++ Y))) := by simpa using hrow
          have h2 := h1.cellR cc (by simp; omega)
          rw [← HL.out.1, List.getElem_append_left hcA] at h2
          exact h2
        have hpb : wr.cell? ⟨g, m + (d - 1 - cc), none⟩ = some (pv p B[d - 1 - cc]) := by
          have h1 : PRow wr g p ((X ++ A) ++ (B ++ Y)) := by simpa using hrow
          have h2 := h1.cellR (d - 1 - cc) (by simp; omega)
          have h3 : (X ++ A).length = m := by have := HL.out; simp; omega
          rw [h3, List.getElem_append_left hcB] at h2
          exact h2
        have i1 := index75 g len cap (a + cc) (by have := HM.out; omega)
        rw [show ((a + cc : Nat) : Int) = (a : Int) + cc by omega] at i1
        have i2 := index75 g len cap (m + (d - 1 - cc)) (by have := HM.out; omega)
        rw [show ((m + (d - 1 - cc) : Nat) : Int) = (a : Int) + d + m - 1 - ((a : Int) + cc) by omega] at i2
        have hw := wrap_in ((a : Int) + d + m - 1 - ((a : Int) + cc)) (by omega) (by have := HM.out; omega)
        have hyN := HP.out.1.bn _ (List.getElem_mem hcB)
        have hxN := HP.out.1.an _ (List.getElem_mem hcA)
        have hS := fun (qx : Ext wr) => sooner_any ((H.out.2.fr0 hR.out.2.2).fr0 qx.fr) B[d - 1 - cc] A[cc] hyN hxN
        obtain ⟨c, hc⟩ : ∃ c, c = snr (t B[d - 1 - cc]) (t A[cc]) := ⟨_, rfl⟩
        rw [← hc] at hS
        have hcn : c < 0 ↔ ¬ SymQ t A B d cc := by
          rw [hc, snr_neg (ht _ hyN) (ht _ hxN)]
          unfold SymQ
          rw [getD_eq hcA, getD_eq hcB, Classical.not_not]
        simp only [pv] at hS hpa hpb
        have HN := hid hcn
        have HS := hid hS
        have e1 : ∀ qx : Ext wr, qx.out.cell? ⟨g, m + (d - 1 - cc), none⟩ = some (.pointer (some ⟨p B[d - 1 - cc], 0, none⟩)) := fun qx => qx.cell hpb
        have e2 : ∀ qx : Ext wr, qx.out.cell? ⟨g, a + cc, none⟩ = some (.pointer (some ⟨p A[cc], 0, none⟩)) := fun qx => qx.cell hpa
        clear hS hpa hpb hcn hc hyN hxN hrow
        have hcs : c < 0 ∨ ¬ c < 0 := by omega
        rcases hcs with hc | hc
        · as_aux_lemma =>
          have hcd : decide (c < 0) = true := by simp [hc]
          have HU := hid (HN.out.1 hc)
          clear hc
          go_wp2_with fail
          refine wp_region_ext (by kernel_rfl) (by kernel_rfl) ?_
          repeat (refine wpQuiet_step (fun K hK => ?_); go_simp; first | (refine hK _ ?_; clear hK K) | (apply Exists.intro; refine ⟨fun _ => ?_, hK _ ?_⟩; (go_at_call 55; refine calls_ext (HS.out _)); clear hK K))
          refine wpQuiet_nil ?_
          intro _ hw'
          obtain ⟨qx, hw''⟩ := hw'
          subst hw''
          have hW1 := qx.fr
          generalize qx.out = W1 at hW1 ⊢
          clear qx e1 e2 i1 i2 hw
          have HE : Hid ((∀ c, lo ≤ c → c < s → SymQ t A B d c) ∧ (∀ c, cc ≤ c → c < hi → ¬ SymQ t A B d c) ∧ Fr0 w W1) := hid ⟨hR.out.1, fun c' h1 h2 h3 => HU.out (symQ_down HP.out.1.a HP.out.1.b (by omega) h1 hcB h3), hR.out.2.2.trans0 hW1⟩
          clear hW1 hR HU
          go_wp2
          go_roundw
          case rel => exact ⟨s, cc, rfl, rfl, by omega, by omega, by omega, HE⟩
          case measure => simp [intOf]; omega
        · as_aux_lemma =>
          have hcd : decide (c < 0) = false := by simp; omega
          have HU := hid (Classical.not_not.1 (fun h => hc (HN.out.2 h)))
          clear hc
          go_wp2_with fail
          refine wp_region_ext (by kernel_rfl) (by kernel_rfl) ?_
          repeat (refine wpQuiet_step (fun K hK => ?_); go_simp; first | (refine hK _ ?_; clear hK K) | (apply Exists.intro; refine ⟨fun _ => ?_, hK _ ?_⟩; (go_at_call 55; refine calls_ext (HS.out _)); clear hK K))
          refine wpQuiet_nil ?_
          intro _ hw'
          obtain ⟨qx, hw''⟩ := hw'
          subst hw''
          have hW1 := qx.fr
          generalize qx.out = W1 at hW1 ⊢
          clear qx e1 e2 i1 i2 hw
          have HE : Hid ((∀ c, lo ≤ c → c < cc + 1 → SymQ t A B d c) ∧ (∀ c, q ≤ c → c < hi → ¬ SymQ t A B d c) ∧ Fr0 w W1) := hid ⟨fun c' h1 h2 => symQ_down HP.out.1.a HP.out.1.b hcA (by omega) (by omega) HU.out, hR.out.2.1, hR.out.2.2.trans0 hW1⟩
          clear hW1 hR HU
          go_wp2
          go_roundw
          case rel => exact ⟨cc + 1, q, vi (by omega), rfl, by omega, by omega, by omega, HE⟩
          case measure => simp [intOf]; omega
      · obtain rfl : s = q := by omega
        have HS := hid (HQ.out s hls hqh hR.out.1 hR.out.2.1)
        have HF := hid hR.out.2.2
        clear hR HQ
        have hsA := HS.out.sa
        have hsd := HS.out.sd
        have hsB := HS.out.eb
        have hA1 : (A.take s).length = s := by simp; omega
        have hA2 : (A.drop s).length = A.length - s := by simp
        have hB1 : (B.take (d - s)).length = d - s := by simp; omega
        have hB2 : (B.drop (d - s)).length = B.length - (d - s) := by simp
        have HN := hid (And.intro hA1 (And.intro hA2 (And.intro hB1 hB2)))
        have hrow0 : PRow wr g p (X ++ A.take s ++ A.drop s ++ B.take (d - s) ++ (B.drop (d - s) ++ Y)) := by
          have h1 := H.out.1.fr HF.out (fun h => h)
          have e1 := List.take_append_drop s A
          have e2 := List.take_append_drop (d - s) B
          have e3 : X ++ A.take s ++ A.drop s ++ B.take (d - s) ++ (B.drop (d - s) ++ Y) = X ++ (A.take s ++ A.drop s) ++ (B.take (d - s) ++ B.drop (d - s)) ++ Y := by simp only [List.append_assoc]
          rw [e3, e1, e2]
          exact h1
        have HR0 := hid hrow0
        clear hA1 hA2 hB1 hB2 hrow0
        go_upto_region 39 with (fail)
        obtain ⟨bb, hbb⟩ : ∃ bb : Bool, bb = decide (s < A.length ∧ s < d) := ⟨_, rfl⟩
        have HBB := hid hbb
        clear hbb
        go_cut [185] (fun tt wx => tt = .bool bb ∧ wr = wx)
        case first => as_aux_lemma =>
          rcases (by omega : (s < A.length ∧ s < d) ∨ (s < A.length ∧ ¬ s < d) ∨ ¬ s < A.length) with ⟨h1, h2⟩ | ⟨h1, h2⟩ | h1
          · have q1 : (a : Int) + s < (m : Int) := by have := HM.out; omega
            have q2 : (m : Int) < (a : Int) + d + m - ((a : Int) + s) := by omega
            have hv : bb = true := by rw [HBB.out]; simp; omega
            subst hv
            go_wp2_with fail
            go_meet
            exact ⟨rfl, rfl⟩
          · have q1 : (a : Int) + s < (m : Int) := by have := HM.out; omega
            have q2 : ¬ (m : Int) < (a : Int) + d + m - ((a : Int) + s) := by omega
            have hv : bb = false := by rw [HBB.out]; simp; omega
            subst hv
            go_wp2_with fail
            go_meet
            exact ⟨rfl, rfl⟩
          · have q1 : ¬ (a : Int) + s < (m : Int) := by have := HM.out; omega
            have hv : bb = false := by rw [HBB.out]; simp; omega
            subst hv
            go_wp2_with fail
            go_meet
            exact ⟨rfl, rfl⟩
        case rest => as_aux_lemma =>
          obtain ⟨rfl, rfl⟩ := hcut
          go_upto_if 185 with (fail)
          go_cut [] (fun wx => Hid (PRow wx g p (X ++ A.take s ++ B.take (d - s) ++ A.drop s ++ (B.drop (d - s) ++ Y)) ∧ Fr (· = g) w wx))
          case first => as_aux_lemma =>
            have hcs : (s < A.length ∧ s < d) ∨ (s < A.length ∧ ¬ s < d) ∨ ¬ s < A.length := by omega
            rcases hcs with ⟨h1, h2⟩ | ⟨h1, h2⟩ | h1
            · have hv : bb = true := by rw [HBB.out]; simp; omega
              subst hv
              go_wp2_with fail
              refine (rotate_int g cap p (X ++ A.take s) (A.drop s) (B.take (d - s)) (B.drop (d - s) ++ Y) (by have := HN.out; omega) (by have := HN.out; omega) _ _ _ _ len (by have := HN.out; have := HL.out; simp; omega) (by have := HN.out; have := HL.out; simp; omega) (by have := HN.out; have := HL.out; simp; omega)
                (by have := HN.out; have := HL.out; simp; omega) hcap _ HR0.out).mono ?_
              rintro e w1 ⟨rfl, hf1, hr1⟩
              have HE := hid (And.intro hr1 ((HF.out.mono (fun _ _ h => h.elim)).trans' hf1))
              clear hf1 hr1
              go_wp2_with fail
              go_meet
              exact HE
            · have hv : bb = false := by rw [HBB.out]; simp; omega
              subst hv
              have HE : Hid (PRow wr g p (X ++ A.take s ++ B.take (d - s) ++ A.drop s ++ (B.drop (d - s) ++ Y)) ∧ Fr (· = g) w wr) := hid ⟨by
                have h3 : B.take (d - s) = [] := List.eq_nil_of_length_eq_zero (by have := HN.out; omega)
                have h4 := HR0.out
                rw [h3] at h4 ⊢
                simpa using h4, HF.out.mono (fun _ _ h => h.elim)⟩
              go_wp2_with fail
              go_meet
              exact HE
            · have hv : bb = false := by rw [HBB.out]; simp; omega
              subst hv
              have HE : Hid (PRow wr g p (X ++ A.take s ++ B.take (d - s) ++ A.drop s ++ (B.drop (d - s) ++ Y)) ∧ Fr (· = g) w wr) := hid ⟨by
                have h3 : A.drop s = [] := List.eq_nil_of_length_eq_zero (by have := HN.out; omega)
                have h4 := HR0.out
                rw [h3] at h4 ⊢
                simpa using h4, HF.out.mono (fun _ _ h => h.elim)⟩
              go_wp2_with fail
              go_meet
              exact HE
          case rest => as_aux_lemma =>
            have HR1 := hcut
            clear hcut HR0 HF
            go_upto_region 41 with (fail)
            obtain ⟨bb, hbb⟩ : ∃ bb : Bool, bb = decide (0 < s ∧ s < d) := ⟨_, rfl⟩
            have HBB := hid hbb
            clear hbb
            go_cut [199] (fun tt wx => tt = .bool bb ∧ wc = wx)
            case first => as_aux_lemma =>
              rcases (by omega : (0 < s ∧ s < d) ∨ (0 < s ∧ ¬ s < d) ∨ ¬ 0 < s) with ⟨h1, h2⟩ | ⟨h1, h2⟩ | h1
              · have q1 : (a : Int) < (a : Int) + s := by omega
                have q2 : (a : Int) + s < (a : Int) + d := by omega
                have hv : bb = true := by rw [HBB.out]; simp; omega
                subst hv
                go_wp2_with fail
                go_meet
                exact ⟨rfl, rfl⟩
              · have q1 : (a : Int) < (a : Int) + s := by omega
                have q2 : ¬ (a : Int) + s < (a : Int) + d := by omega
                have hv : bb = false := by rw [HBB.out]; simp; omega
                subst hv
                go_wp2_with fail
                go_meet
                exact ⟨rfl, rfl⟩
              · have q1 : ¬ (a : Int) < (a : Int) + s := by omega
                have hv : bb = false := by rw [HBB.out]; simp; omega
                subst hv
                go_wp2_with fail
                go_meet
                exact ⟨rfl, rfl⟩
            case rest => as_aux_lemma =>
              obtain ⟨rfl, rfl⟩ := hcut
              go_upto_if 199 with (fail)
              go_cut [] (fun wx => Hid (∃ C, C.Perm (A.take s ++ B.take (d - s)) ∧ Srt t C ∧ PRow wx g p (X ++ C ++ A.drop s ++ B.drop (d - s) ++ Y) ∧ Fr (· = g) w wx))
              case first => as_aux_lemma =>
                have hcs : (0 < s ∧ s < d) ∨ (0 < s ∧ ¬ s < d) ∨ ¬ 0 < s := by omega
                rcases hcs with ⟨h1, h2⟩ | ⟨h1, h2⟩ | h1
                · have hv : bb = true := by rw [HBB.out]; simp; omega
                  subst hv
                  go_wp2_with fail
                  refine (HIH.out X (A.take s) (B.take (d - s)) (A.drop s ++ (B.drop (d - s) ++ Y)) _ _ _ _ (by have := HN.out; have := HP.out.2; omega) (by have := HN.out; omega) (by have := HN.out; omega) HP.out.1.one (by have := HL.out; omega) (by have := HN.out; have := HL.out; omega) (by have := HN.out; have := HL.out; omega)
                    (by have := HN.out; have := HL.out; simp; omega) (by have := HR1.out.1; simpa using this) (H.out.2.fr HR1.out.2)).mono ?_
                  rintro e w1 ⟨rfl, hf1, C, hC1, hC2, hC3⟩
                  have HE : Hid (∃ C, C.Perm (A.take s ++ B.take (d - s)) ∧ Srt t C ∧ PRow w1 g p (X ++ C ++ A.drop s ++ B.drop (d - s) ++ Y) ∧ Fr (· = g) w w1) := hid ⟨C, hC1, hC2, by simpa using hC3, HR1.out.2.trans' hf1⟩
                  clear hf1 hC1 hC2 hC3
                  go_wp2_with fail
                  go_meet
                  exact HE
                · have hv : bb = false := by rw [HBB.out]; simp; omega
                  subst hv
                  have HE : Hid (∃ C, C.Perm (A.take s ++ B.take (d - s)) ∧ Srt t C ∧ PRow wc g p (X ++ C ++ A.drop s ++ B.drop (d - s) ++ Y) ∧ Fr (· = g) w wc) := hid ⟨A.take s ++ B.take (d - s), List.Perm.refl _, srt_of_empty (HP.out.1.a.take _) (HP.out.1.b.take _) (.inr (List.eq_nil_of_length_eq_zero (by have := HN.out; omega))), by have := HR1.out.1; simpa using this, HR1.out.2⟩
                  go_wp2_with fail
                  go_meet
                  exact HE
                · have hv : bb = false := by rw [HBB.out]; simp; omega
                  subst hv
                  have HE : Hid (∃ C, C.Perm (A.take s ++ B.take (d - s)) ∧ Srt t C ∧ PRow wc g p (X ++ C ++ A.drop s ++ B.drop (d - s) ++ Y) ∧ Fr (· = g) w wc) := hid ⟨A.take s ++ B.take (d - s), List.Perm.refl _, srt_of_empty (HP.out.1.a.take _) (HP.out.1.b.take _) (.inl (List.eq_nil_of_length_eq_zero (by have := HN.out; omega))), by have := HR1.out.1; simpa using this, HR1.out.2⟩
                  go_wp2_with fail
                  go_meet
                  exact HE
              case rest => as_aux_lemma =>
                obtain ⟨C, hC⟩ := hcut.out
                have HC2 := hid hC
                have hCl : C.length = d := by
                  have h1 := HC2.out.1.length_eq
                  have h2 := HN.out
                  rw [List.length_append] at h1
                  omega
                have HCl := hid hCl
                clear hcut hC HR1 hCl
                have hcs : (s < A.length ∧ d - s < B.length) ∨ (s < A.length ∧ ¬ d - s < B.length) ∨ ¬ s < A.length := by omega
                rcases hcs with ⟨h1, h2⟩ | ⟨h1, h2⟩ | h1
                · have q1 : (a : Int) + d < (a : Int) + d + m - ((a : Int) + s) := by have := HM.out; omega
                  have q2 : (a : Int) + d + m - ((a : Int) + s) < (b : Int) := by have := HM.out; omega
                  go_wp2_with fail
                  refine (HIH.out (X ++ C) (A.drop s) (B.drop (d - s)) Y _ _ _ _ (by have := HN.out; have := HP.out.2; omega) (by have := HN.out; omega) (by have := HN.out; omega) HP.out.1.two (by have := HL.out; have := HCl.out; simp; omega) (by have := HN.out; have := HL.out; have := HCl.out; simp; omega) (by have := HN.out; have := HL.out; have := HCl.out; simp; omega)
                    (by have := HN.out; have := HL.out; have := HCl.out; simp; omega) (by have := HC2.out.2.2.1; simpa using this) (H.out.2.fr HC2.out.2.2.2)).mono ?_
                  rintro e w1 ⟨rfl, hf1, D, hD1, hD2, hD3⟩
                  have HE : Hid (Fr (· = g) w w1 ∧ ∃ C, C.Perm (A ++ B) ∧ Srt t C ∧ PRow w1 g p (X ++ C ++ Y)) := hid (by
                    obtain ⟨j1, j2⟩ := sym_join ht HP.out.1 HS.out HC2.out.1 HC2.out.2.1 hD1 hD2
                    exact ⟨HC2.out.2.2.2.trans' hf1, C ++ D, j1, j2, by simpa using hD3⟩)
                  clear hf1 hD1 hD2 hD3
                  go_wp2
                  go_end0
                  exact ⟨rfl, by simpa using HE.out⟩
                · have q1 : (a : Int) + d < (a : Int) + d + m - ((a : Int) + s) := by have := HM.out; omega
                  have q2 : ¬ (a : Int) + d + m - ((a : Int) + s) < (b : Int) := by have := HM.out; omega
                  have HE : Hid (Fr (· = g) w wc ∧ ∃ C, C.Perm (A ++ B) ∧ Srt t C ∧ PRow wc g p (X ++ C ++ Y)) := hid (by
                    obtain ⟨j1, j2⟩ := sym_join ht HP.out.1 HS.out HC2.out.1 HC2.out.2.1 (List.Perm.refl _) (srt_of_empty (HP.out.1.a.drop _) (HP.out.1.b.drop _) (.inr (List.eq_nil_of_length_eq_zero (by have := HN.out; omega))))
                    exact ⟨HC2.out.2.2.2, _, j1, j2, by have := HC2.out.2.2.1; simpa using this⟩)
                  go_wp2
                  go_end0
                  exact ⟨rfl, by simpa using HE.out⟩
                · have q1 : ¬ (a : Int) + d < (a : Int) + d + m - ((a : Int) + s) := by have := HM.out; omega
                  have HE : Hid (Fr (· = g) w wc ∧ ∃ C, C.Perm (A ++ B) ∧ Srt t C ∧ PRow wc g p (X ++ C ++ Y)) := hid (by
                    obtain ⟨j1, j2⟩ := sym_join ht HP.out.1 HS.out HC2.out.1 HC2.out.2.1 (List.Perm.refl _) (srt_of_empty (HP.out.1.a.drop _) (HP.out.1.b.drop _) (.inl (List.eq_nil_of_length_eq_zero (by have := HN.out; omega))))
                    exact ⟨HC2.out.2.2.2, _, j1, j2, by have := HC2.out.2.2.1; simpa using this⟩)
                  go_wp2
                  go_end0
                  exact ⟨rfl, by simpa using HE.out⟩

/-- slices.symMergeCmpFunc. -/
theorem sym_any (g cap : Nat) (p : Nat → Nat) (t : Nat → Int) (N len : Nat) (ht : ∀ i, i < N → -1 ≤ t i) (hcap : len ≤ 4398046511104) : ∀ k, SymSpec g cap p t N len k
  | 0 => fun X A B Y a m b w hk hA hB => by omega
  | k + 1 => fun X A B Y a m b w hk hA hB hP ha hm hb hlen h hT => by
    have hm2 : m = ((X.length + A.length : Nat) : Int) := by rw [hm]; omega
    have hb2 : b = ((X.length + A.length + B.length : Nat) : Int) := by rw [hb]; omega
    rw [ha, hm2, hb2]
    by_cases h1 : A.length = 1
    · obtain ⟨x, rfl⟩ := List.length_eq_one_iff.1 h1
      exact symA_any g cap p t N ht X B Y x hB hP X.length _ _ len rfl (by simp) (by simp) (by simp at hlen ⊢; omega) hcap w h hT
    · by_cases h2 : B.length = 1
      · obtain ⟨y, rfl⟩ := List.length_eq_one_iff.1 h2
        exact symB_any g cap p t N ht X A Y y (by omega) hP X.length _ _ len rfl rfl (by simp) (by simp at hlen ⊢; omega) hcap w h hT
      · exact symC_any g cap p t N len k ht hcap (sym_any g cap p t N len ht hcap k) X A B Y (by omega) (by omega) hk hP X.length _ _ rfl rfl rfl hlen w h hT
end Go.Proofs.Ytjaabbjobnfmmaa

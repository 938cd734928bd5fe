/-
  The runes of a text that is put behind another one.
-/
import Derived.Test.YthbcbnihghmniaaText
namespace Go.Proofs.Ythbcbnihghmniaa

theorem decN_no1 {n b0 b1 b2 b3 : Nat} (h : ¬(1 < n ∧ b1 / 64 = 2)) : Lib.decodeN n b0 b1 b2 b3 = if b0 < 128 then (b0, 1) else (65533, 1) := by
  unfold Lib.decodeN
  by_cases h0 : b0 < 128
  · rw [if_pos h0, if_pos h0]
  · rw [if_neg h0, if_neg h0, if_neg (fun hh => h hh.2), if_neg (fun hh => h hh.2.1), if_neg (fun hh => h hh.2.1)]

theorem decN_no2 {n b0 b1 b2 b3 : Nat} (h1 : 1 < n) (h : ¬(2 < n ∧ b2 / 64 = 2)) : Lib.decodeN n b0 b1 b2 b3 = if b0 < 128 then (b0, 1)
    else if b0 / 32 = 6 ∧ b1 / 64 = 2 then (if b0 % 32 * 64 + b1 % 64 ≥ 128 then (b0 % 32 * 64 + b1 % 64, 2) else (65533, 1)) else (65533, 1) := by
  unfold Lib.decodeN
  by_cases h0 : b0 < 128
  · rw [if_pos h0, if_pos h0]
  · rw [if_neg h0, if_neg h0]
    by_cases h2 : b0 / 32 = 6 ∧ b1 / 64 = 2
    · rw [if_pos ⟨h2.1, h1, h2.2⟩, if_pos h2]
    · rw [if_neg (fun hh => h2 ⟨hh.1, hh.2.2⟩), if_neg h2, if_neg (fun hh => h hh.2.2), if_neg (fun hh => h hh.2.2.1)]

theorem decN_no3 {n m b0 b1 b2 b3 c3 : Nat} (h1 : 2 < n) (h2 : 2 < m) (h : ¬(3 < n ∧ b3 / 64 = 2)) (h' : ¬(3 < m ∧ c3 / 64 = 2)) : Lib.decodeN n b0 b1 b2 b3 = Lib.decodeN m b0 b1 b2 c3 := by
  have a1 : (1 < n ∧ b1 / 64 = 2) = (1 < m ∧ b1 / 64 = 2) := by
    apply propext
    omega
  have a2 : (2 < n ∧ b2 / 64 = 2) = (2 < m ∧ b2 / 64 = 2) := by
    apply propext
    omega
  unfold Lib.decodeN
  simp only [a1, a2, h, h', and_false, if_false]

theorem decN_far {n m b0 b1 b2 b3 : Nat} (h1 : 3 < n) (h2 : 3 < m) : Lib.decodeN n b0 b1 b2 b3 = Lib.decodeN m b0 b1 b2 b3 := by
  have a1 : (1 < n ∧ b1 / 64 = 2) = (1 < m ∧ b1 / 64 = 2) := by
    apply propext
    omega
  have a2 : (2 < n ∧ b2 / 64 = 2) = (2 < m ∧ b2 / 64 = 2) := by
    apply propext
    omega
  have a3 : (3 < n ∧ b3 / 64 = 2) = (3 < m ∧ b3 / 64 = 2) := by
    apply propext
    omega
  unfold Lib.decodeN
  simp only [a1, a2, a3]

/-- Bytes that no rune goes on with. -/
def Fresh (t : List UInt8) : Prop := ¬((t.getD 0 0).toNat / 64 = 2)

/-- What is decoded does not change when fresh bytes come behind. -/
theorem dec_app (l t : List UInt8) (hl : l ≠ []) (ht : Fresh t) : Lib.decodeL (l ++ t) = Lib.decodeL l := by
  unfold Fresh at ht
  rw [Lib.decodeL_N, Lib.decodeL_N]
  match l, hl with
  | [a], _ =>
    simp only [List.cons_append, List.nil_append, List.getD_cons_zero, List.getD_cons_succ, List.length_cons]
    rw [decN_no1 (n := t.length + 1) (by omega), decN_no1 (by simp)]
  | [a, b], _ =>
    simp only [List.cons_append, List.nil_append, List.getD_cons_zero, List.getD_cons_succ, List.length_cons]
    rw [decN_no2 (n := t.length + 1 + 1) (by omega) (by omega), decN_no2 (by simp) (by simp)]
  | [a, b, c], _ =>
    simp only [List.cons_append, List.nil_append, List.getD_cons_zero, List.getD_cons_succ, List.length_cons]
    exact decN_no3 (by omega) (by simp) (by omega) (by simp)
  | a :: b :: c :: d :: r, _ =>
    simp only [List.cons_append, List.getD_cons_zero, List.getD_cons_succ, List.length_cons]
    exact decN_far (by simp) (by simp)

theorem dec_le (l : List UInt8) (hl : l ≠ []) : (Lib.decodeL l).2 ≤ l.length := by
  have hp : 0 < l.length := List.length_pos_iff.2 hl
  rw [Lib.decodeL_N]
  have := Lib.decodeN_shape l.length (l.getD 0 0).toNat (l.getD 1 0).toNat (l.getD 2 0).toNat (l.getD 3 0).toNat
  rcases this with ⟨h, e⟩ | ⟨h1, h2, h3, h4, e⟩ | ⟨h1, h2, h3, h4, h5, h6, e⟩ | ⟨h1, h2, h3, h4, h5, h6, h7, e⟩ | e
  all_goals
    rw [e]
    dsimp only
    omega

theorem rnL_app : ∀ (f : Nat) (l t : List UInt8), Fresh t → l.length + t.length ≤ f → rnL f (l ++ t) = rnL f l ++ rnL f t
  | 0, l, t, _, h => by
    have h1 : l = [] := List.eq_nil_of_length_eq_zero (by omega)
    have h2 : t = [] := List.eq_nil_of_length_eq_zero (by omega)
    subst h1 h2
    simp [rnL]
  | f + 1, l, t, ht, h => by
    by_cases hl : l = []
    · subst hl
      rw [List.nil_append, rnL_nil, List.nil_append]
    · have hw := dec_le l hl
      have hw1 := dec_width l
      have e : rnL (f + 1) (l ++ t) = ((Lib.decodeL (l ++ t)).1 : Int) :: rnL f ((l ++ t).drop (Lib.decodeL (l ++ t)).2) := by
        rw [rnL, if_neg (by simp [hl])]
      have e2 : rnL (f + 1) l = ((Lib.decodeL l).1 : Int) :: rnL f (l.drop (Lib.decodeL l).2) := by
        rw [rnL, if_neg hl]
      rw [e, e2, dec_app l t hl ht, List.drop_append_of_le_length hw, rnL_app f _ t ht (by rw [List.length_drop]; omega), List.cons_append, rnL_fuel f (f + 1) t (by omega) (by omega)]

theorem fresh_enc (L : List Int) (hv : ∀ r ∈ L, Vld r) : Fresh (enc L) := by
  unfold Fresh
  cases L with
  | nil => simp [enc]
  | cons r L =>
    have h := hv r (List.mem_cons_self ..)
    have hd := dec_enc r h (enc L)
    have hlen := enc_one_le r
    intro hc
    rw [enc_cons] at hc
    rw [Lib.decodeL_N] at hd
    have hs := Lib.decodeN_shape (Lib.encodeRune r ++ enc L).length ((Lib.encodeRune r ++ enc L).getD 0 0).toNat ((Lib.encodeRune r ++ enc L).getD 1 0).toNat ((Lib.encodeRune r ++ enc L).getD 2 0).toNat ((Lib.encodeRune r ++ enc L).getD 3 0).toNat
    generalize ((Lib.encodeRune r ++ enc L).getD 0 0).toNat = b0 at *
    rcases hs with ⟨h1, e⟩ | ⟨h1, e⟩ | ⟨h1, e⟩ | ⟨h1, e⟩ | e
    · omega
    · omega
    · omega
    · omega
    · rw [e] at hd
      simp only [Prod.mk.injEq] at hd
      have hr : r = 65533 := by unfold Vld at h; omega
      subst hr
      have : (Lib.encodeRune 65533).length = 3 := by decide
      omega

theorem rn_app (s c : ByteArray) (hc : Fresh c.data.toList) : rn (s ++ c) = rn s ++ rn c := by
  have e : (s ++ c).data.toList = s.data.toList ++ c.data.toList := by rw [ByteArray.data_append, Array.toList_append]
  have hz : (s ++ c).size = s.size + c.size := ByteArray.size_append
  have h1 := size_list s
  have h2 := size_list c
  unfold rn
  rw [e, hz, rnL_app _ _ _ hc (by omega), rnL_fuel (s.size + c.size) s.size s.data.toList (by omega) (by omega), rnL_fuel (s.size + c.size) c.size c.data.toList (by omega) (by omega)]
end Go.Proofs.Ythbcbnihghmniaa

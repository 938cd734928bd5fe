/-
  The runes of a text, and the text of runes: plain Lean.
-/
import Derived.Test.YthbcbnihghmniaaFrame
import Derived.Lib.RuneBytes
import Derived.Lib.MapLaws
import Derived.Lib.TrimU
namespace Go.Proofs.Ythbcbnihghmniaa

/-- The runes of some bytes, so many at most. -/
def rnL : Nat → List UInt8 → List Int
  | 0, _ => []
  | f + 1, l => if l = [] then [] else ((Lib.decodeL l).1 : Int) :: rnL f (l.drop (Lib.decodeL l).2)
/-- The runes of a text. -/
def rn (s : ByteArray) : List Int := rnL s.size s.data.toList

/-- A rune that may stand in a text. -/
def Vld (r : Int) : Prop := (0 ≤ r ∧ r < 55296) ∨ (57343 < r ∧ r ≤ 1114111)

theorem size_list (s : ByteArray) : s.data.toList.length = s.size := by rw [Array.length_toList]; rfl

theorem dec_vld (l : List UInt8) : Vld ((Lib.decodeL l).1 : Int) := by
  rw [Lib.decodeL_N]
  have h0 := UInt8.toNat_lt (l.getD 0 0)
  have := Lib.decodeN_shape l.length (l.getD 0 0).toNat (l.getD 1 0).toNat (l.getD 2 0).toNat (l.getD 3 0).toNat
  unfold Vld
  rcases this with ⟨h, e⟩ | ⟨h1, h2, h3, h4, e⟩ | ⟨h1, h2, h3, h4, h5, h6, e⟩ | ⟨h1, h2, h3, h4, h5, h6, h7, e⟩ | e
  all_goals
    rw [e]
    dsimp only
    omega

theorem dec_width (l : List UInt8) : 1 ≤ (Lib.decodeL l).2 := by
  rw [Lib.decodeL_N]
  exact Lib.decodeN_ge1 _ _ _ _ _

theorem rnL_nil (f : Nat) : rnL f [] = [] := by cases f <;> simp [rnL]

theorem rnL_vld : ∀ (f : Nat) (l : List UInt8), ∀ r ∈ rnL f l, Vld r
  | 0, _, r, h => by simp [rnL] at h
  | f + 1, l, r, h => by
    unfold rnL at h
    split at h
    · simp at h
    · rcases List.mem_cons.1 h with rfl | h
      · exact dec_vld l
      · exact rnL_vld f _ r h

theorem rn_vld (s : ByteArray) : ∀ r ∈ rn s, Vld r := rnL_vld _ _

theorem rnL_len : ∀ (f : Nat) (l : List UInt8), (rnL f l).length ≤ l.length
  | 0, _ => by simp [rnL]
  | f + 1, l => by
    unfold rnL
    split
    · simp
    · rename_i h
      have h1 := rnL_len f (l.drop (Lib.decodeL l).2)
      have h2 := dec_width l
      have h3 : 0 < l.length := List.length_pos_iff.2 h
      simp only [List.length_cons, List.length_drop] at h1 ⊢
      omega

theorem rn_len (s : ByteArray) : (rn s).length ≤ s.size := by
  have := rnL_len s.size s.data.toList
  rwa [size_list] at this

/-- Fuel enough is fuel enough. -/
theorem rnL_fuel : ∀ (f g : Nat) (l : List UInt8), l.length ≤ f → l.length ≤ g → rnL f l = rnL g l
  | 0, g, l, h, _ => by
    have : l = [] := List.eq_nil_of_length_eq_zero (by omega)
    subst this
    rw [rnL_nil, rnL_nil]
  | f + 1, 0, l, _, h => by
    have : l = [] := List.eq_nil_of_length_eq_zero (by omega)
    subst this
    rw [rnL_nil, rnL_nil]
  | f + 1, g + 1, l, h1, h2 => by
    unfold rnL
    split
    · rfl
    · have h3 := dec_width l
      rw [rnL_fuel f g (l.drop (Lib.decodeL l).2) (by simp; omega) (by simp; omega)]

/-- A loop over a text: what has been met, and where it stands. -/
structure At (s : ByteArray) (pos fuel : Nat) (acc : List Int) : Prop where
  eq : acc ++ rnL fuel (s.data.toList.drop pos) = rn s
  le : s.size ≤ pos + fuel
  len : acc.length ≤ pos
  pos : acc.length ≤ s.size

theorem At.start (s : ByteArray) : At s 0 s.size [] := ⟨by simp [rn], by omega, by simp, by simp⟩

theorem drop_ne {s : ByteArray} {pos : Nat} (h : pos < s.size) : s.data.toList.drop pos ≠ [] := by
  intro e
  have := congrArg List.length e
  rw [List.length_drop, size_list] at this
  simp at this
  omega

theorem At.step {s : ByteArray} {pos fuel : Nat} {acc : List Int} (h : At s pos fuel acc) (hp : pos < s.size) :
    ∃ f, fuel = f + 1 ∧ At s (pos + (Utf8.decode s pos).2) f (acc ++ [((Utf8.decode s pos).1 : Int)]) := by
  have hl := h.le
  obtain ⟨f, rfl⟩ : ∃ f, fuel = f + 1 := ⟨fuel - 1, by omega⟩
  have hw := dec_width (s.data.toList.drop pos)
  have e := h.eq
  unfold rnL at e
  rw [if_neg (drop_ne hp), Lib.decodeL_drop, List.drop_drop] at e
  rw [Lib.decodeL_drop] at hw
  have hlen := h.len
  refine ⟨f, rfl, by rw [← e]; simp, by omega, by simp; omega, ?_⟩
  have := congrArg List.length e
  simp only [List.length_append, List.length_cons] at this
  have hr := rn_len s
  simp
  omega

theorem At.done {s : ByteArray} {pos fuel : Nat} {acc : List Int} (h : At s pos fuel acc) (hp : ¬ pos < s.size) : acc = rn s := by
  have e := h.eq
  rw [List.drop_eq_nil_of_le (by rw [size_list]; omega), rnL_nil, List.append_nil] at e
  exact e

theorem At.vld {s : ByteArray} {pos fuel : Nat} {acc : List Int} (h : At s pos fuel acc) : ∀ r ∈ acc, Vld r := by
  intro r hr
  exact rn_vld s r (by rw [← h.eq]; exact List.mem_append_left _ hr)

theorem At.here (s : ByteArray) (pos : Nat) : Vld ((Utf8.decode s pos).1 : Int) := by
  rw [← Lib.decodeL_drop]
  exact dec_vld _

/-! ### runes as bytes -/
def enc (L : List Int) : List UInt8 := L.flatMap Lib.encodeRune
theorem enc_nil : enc [] = [] := rfl
theorem enc_cons (r : Int) (L : List Int) : enc (r :: L) = Lib.encodeRune r ++ enc L := rfl
theorem enc_append (L M : List Int) : enc (L ++ M) = enc L ++ enc M := by simp [enc]
theorem enc_snoc (L : List Int) (r : Int) : enc (L ++ [r]) = enc L ++ Lib.encodeRune r := by simp [enc]
theorem enc_one_le (r : Int) : 1 ≤ (Lib.encodeRune r).length ∧ (Lib.encodeRune r).length ≤ 4 := by
  have := Lib.runeCells_le r
  rwa [Lib.runeCells_length] at this
theorem enc_len (L : List Int) : (enc L).length ≤ 4 * L.length := by
  induction L with
  | nil => simp [enc]
  | cons r L ih =>
    rw [enc_cons, List.length_append]
    have := enc_one_le r
    simp
    omega

theorem byte_nat (z : Int) (_h0 : 0 ≤ z) (h1 : z < 256) : (z.toNat.toUInt8).toNat = z.toNat := by
  simp
  omega

/-- Of a rune's bytes, whatever comes behind, just that rune is read. -/
theorem dec_enc (r : Int) (hv : Vld r) (t : List UInt8) : Lib.decodeL (Lib.encodeRune r ++ t) = (r.toNat, (Lib.encodeRune r).length) := by
  obtain ⟨k, rfl⟩ : ∃ k : Nat, r = k := ⟨r.toNat, by unfold Vld at hv; omega⟩
  unfold Vld at hv
  by_cases c1 : k ≤ 127
  · have e : Lib.encodeRune (k : Int) = [((k : Int)).toNat.toUInt8] := by simp [Lib.encodeRune, Lib.encodeRuneZ_one (r := (k : Int)) (by omega) (by omega)]
    rw [e, Lib.decodeL_N]
    simp only [List.cons_append, List.nil_append, List.getD_cons_zero, List.length_cons]
    rw [byte_nat _ (by omega) (by omega)]
    unfold Lib.decodeN
    rw [if_pos (by omega)]
    simp
  by_cases c2 : k ≤ 2047
  · have e : Lib.encodeRune (k : Int) = [(192 + (k : Int) / 64).toNat.toUInt8, (128 + (k : Int) % 64).toNat.toUInt8] := by simp [Lib.encodeRune, Lib.encodeRuneZ_two (r := (k : Int)) (by omega) (by omega)]
    rw [e, Lib.decodeL_N]
    simp only [List.cons_append, List.nil_append, List.getD_cons_zero, List.getD_cons_succ, List.length_cons]
    rw [byte_nat _ (by omega) (by omega), byte_nat _ (by omega) (by omega)]
    unfold Lib.decodeN
    rw [if_neg (by omega), if_pos (by omega), if_pos (by omega)]
    simp only [Prod.mk.injEq]
    constructor
    · omega
    · simp
  by_cases c3 : k ≤ 65535
  · have e : Lib.encodeRune (k : Int) = [(224 + (k : Int) / 4096).toNat.toUInt8, (128 + (k : Int) / 64 % 64).toNat.toUInt8, (128 + (k : Int) % 64).toNat.toUInt8] := by
      simp [Lib.encodeRune, Lib.encodeRuneZ_three (r := (k : Int)) (by omega)]
    rw [e, Lib.decodeL_N]
    simp only [List.cons_append, List.nil_append, List.getD_cons_zero, List.getD_cons_succ, List.length_cons]
    rw [byte_nat _ (by omega) (by omega), byte_nat _ (by omega) (by omega), byte_nat _ (by omega) (by omega)]
    unfold Lib.decodeN
    rw [if_neg (by omega), if_neg (by omega), if_pos (by omega), if_pos (by omega)]
    simp only [Prod.mk.injEq]
    constructor
    · omega
    · simp
  · have e : Lib.encodeRune (k : Int) = [(240 + (k : Int) / 262144).toNat.toUInt8, (128 + (k : Int) / 4096 % 64).toNat.toUInt8, (128 + (k : Int) / 64 % 64).toNat.toUInt8, (128 + (k : Int) % 64).toNat.toUInt8] := by
      simp [Lib.encodeRune, Lib.encodeRuneZ_four (r := (k : Int)) (by omega) (by omega)]
    rw [e, Lib.decodeL_N]
    simp only [List.cons_append, List.nil_append, List.getD_cons_zero, List.getD_cons_succ, List.length_cons]
    rw [byte_nat _ (by omega) (by omega), byte_nat _ (by omega) (by omega), byte_nat _ (by omega) (by omega), byte_nat _ (by omega) (by omega)]
    unfold Lib.decodeN
    rw [if_neg (by omega), if_neg (by omega), if_neg (by omega), if_pos (by omega), if_pos (by omega)]
    simp only [Prod.mk.injEq]
    constructor
    · omega
    · simp

/-- The runes of runes' bytes are those runes. -/
theorem rnL_enc : ∀ (L : List Int) (f : Nat), (∀ r ∈ L, Vld r) → (enc L).length ≤ f → rnL f (enc L) = L
  | [], f, _, _ => by rw [enc_nil, rnL_nil]
  | r :: L, f, hv, hf => by
    have h1 := enc_one_le r
    rw [enc_cons, List.length_append] at hf
    obtain ⟨g, rfl⟩ : ∃ g, f = g + 1 := ⟨f - 1, by omega⟩
    have hr := hv r (List.mem_cons_self ..)
    unfold rnL
    rw [enc_cons, if_neg (by intro e; have := congrArg List.length e; rw [List.length_append, List.length_nil] at this; omega), dec_enc r hr, List.drop_left, rnL_enc L g (fun x hx => hv x (List.mem_cons_of_mem _ hx)) (by omega)]
    simp only [List.cons.injEq, and_true]
    unfold Vld at hr
    omega

theorem rn_enc (L : List Int) (hv : ∀ r ∈ L, Vld r) : rn ⟨(enc L).toArray⟩ = L := by
  unfold rn
  exact rnL_enc L _ hv (by simp [ByteArray.size])
end Go.Proofs.Ythbcbnihghmniaa

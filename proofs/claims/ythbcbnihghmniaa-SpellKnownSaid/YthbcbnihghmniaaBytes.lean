/-
  The model's text of runes is the text of runes.
-/
import Derived.Test.YthbcbnihghmniaaText
import Derived.Laws.Cover4
namespace Go.Proofs.Ythbcbnihghmniaa

theorem val_of {k : Nat} (hv : Vld (k : Int)) : Utf8.valid (k : Int) = true := by
  unfold Vld at hv
  simp [Utf8.valid]
  omega
theorem enc_a (k : Nat) (hv : Vld (k : Int)) (c1 : k < 128) : (Utf8.encode (k : Int)).data.toList = [UInt8.ofNat k] := by
  simp [Utf8.encode, val_of hv, c1]
theorem enc_b (k : Nat) (hv : Vld (k : Int)) (c1 : ¬k < 128) (c2 : k < 2048) : (Utf8.encode (k : Int)).data.toList = [UInt8.ofNat (192 + k / 64), UInt8.ofNat (128 + k % 64)] := by
  simp [Utf8.encode, val_of hv, c1, c2]
theorem enc_c (k : Nat) (hv : Vld (k : Int)) (c1 : ¬k < 128) (c2 : ¬k < 2048) (c3 : k < 65536) : (Utf8.encode (k : Int)).data.toList = [UInt8.ofNat (224 + k / 4096), UInt8.ofNat (128 + k / 64 % 64), UInt8.ofNat (128 + k % 64)] := by
  simp [Utf8.encode, val_of hv, c1, c2, c3]
theorem enc_d (k : Nat) (hv : Vld (k : Int)) (c1 : ¬k < 128) (c2 : ¬k < 2048) (c3 : ¬k < 65536) : (Utf8.encode (k : Int)).data.toList = [UInt8.ofNat (240 + k / 262144), UInt8.ofNat (128 + k / 4096 % 64), UInt8.ofNat (128 + k / 64 % 64), UInt8.ofNat (128 + k % 64)] := by
  simp [Utf8.encode, val_of hv, c1, c2, c3]

theorem of_a (k : Nat) (c : k < 128) : Lib.encodeRune (k : Int) = [UInt8.ofNat k] := by
  simp [Lib.encodeRune, Lib.encodeRuneZ_one (r := (k : Int)) (by omega) (by omega)]
theorem of_b (k : Nat) (c1 : ¬k < 128) (c2 : k < 2048) : Lib.encodeRune (k : Int) = [UInt8.ofNat (192 + k / 64), UInt8.ofNat (128 + k % 64)] := by
  have e1 : (192 + (k : Int) / 64).toNat = 192 + k / 64 := by omega
  have e2 : (128 + (k : Int) % 64).toNat = 128 + k % 64 := by omega
  unfold Lib.encodeRune
  rw [Lib.encodeRuneZ_two (r := (k : Int)) (by omega) (by omega)]
  simp only [List.map_cons, List.map_nil, e1, e2]
theorem of_c (k : Nat) (hv : Vld (k : Int)) (c2 : ¬k < 2048) (c3 : k < 65536) : Lib.encodeRune (k : Int) = [UInt8.ofNat (224 + k / 4096), UInt8.ofNat (128 + k / 64 % 64), UInt8.ofNat (128 + k % 64)] := by
  unfold Vld at hv
  have e1 : (224 + (k : Int) / 4096).toNat = 224 + k / 4096 := by omega
  have e2 : (128 + (k : Int) / 64 % 64).toNat = 128 + k / 64 % 64 := by omega
  have e3 : (128 + (k : Int) % 64).toNat = 128 + k % 64 := by omega
  unfold Lib.encodeRune
  rw [Lib.encodeRuneZ_three (r := (k : Int)) (by omega)]
  simp only [List.map_cons, List.map_nil, e1, e2, e3]
theorem of_d (k : Nat) (hv : Vld (k : Int)) (c3 : ¬k < 65536) : Lib.encodeRune (k : Int) = [UInt8.ofNat (240 + k / 262144), UInt8.ofNat (128 + k / 4096 % 64), UInt8.ofNat (128 + k / 64 % 64), UInt8.ofNat (128 + k % 64)] := by
  unfold Vld at hv
  have e1 : (240 + (k : Int) / 262144).toNat = 240 + k / 262144 := by omega
  have e2 : (128 + (k : Int) / 4096 % 64).toNat = 128 + k / 4096 % 64 := by omega
  have e3 : (128 + (k : Int) / 64 % 64).toNat = 128 + k / 64 % 64 := by omega
  have e4 : (128 + (k : Int) % 64).toNat = 128 + k % 64 := by omega
  unfold Lib.encodeRune
  rw [Lib.encodeRuneZ_four (r := (k : Int)) (by omega) (by omega)]
  simp only [List.map_cons, List.map_nil, e1, e2, e3, e4]

theorem encode_eq (r : Int) (hv : Vld r) : (Utf8.encode r).data.toList = Lib.encodeRune r := by
  obtain ⟨k, rfl⟩ : ∃ k : Nat, r = k := ⟨r.toNat, by unfold Vld at hv; omega⟩
  by_cases c1 : k < 128
  · rw [enc_a k hv c1, of_a k c1]
  by_cases c2 : k < 2048
  · rw [enc_b k hv c1 c2, of_b k c1 c2]
  by_cases c3 : k < 65536
  · rw [enc_c k hv c1 c2 c3, of_c k hv c2 c3]
  · rw [enc_d k hv c1 c2 c3, of_d k hv c3]

theorem foldl_enc : ∀ (L : List Int) (s : ByteArray), (∀ r ∈ L, Vld r) → (L.foldl (fun r n => r ++ Utf8.encode n) s).data.toList = s.data.toList ++ enc L
  | [], s, _ => by simp [enc_nil]
  | r :: L, s, hv => by
    rw [List.foldl_cons, foldl_enc L _ (fun x hx => hv x (List.mem_cons_of_mem _ hx)), enc_cons, ByteArray.data_append, Array.toList_append, encode_eq r (hv r (List.mem_cons_self ..)), List.append_assoc]

theorem runesBytes_eq (L : List Int) (hv : ∀ r ∈ L, Vld r) : runesBytes L = ⟨(enc L).toArray⟩ := by
  have h := foldl_enc L ByteArray.empty hv
  unfold runesBytes
  generalize L.foldl _ ByteArray.empty = t at *
  obtain ⟨d⟩ := t
  obtain ⟨l⟩ := d
  simp at h
  rw [h]
end Go.Proofs.Ythbcbnihghmniaa

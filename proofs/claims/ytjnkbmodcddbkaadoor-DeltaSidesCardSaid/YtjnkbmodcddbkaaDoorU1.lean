/- Code points: the model's decoder, and the width by definition. -/
import Derived.Test.YtjnkbmodcddbkaaDoorDat
set_option linter.unusedVariables false
set_option linter.unusedSimpArgs false
namespace Go.Proofs.YtjnkbmodcddbkaaDoor
open Go Go.RowKit

theorem get_get (s : ByteArray) (i : Nat) : s.get! i = if h : i < s.size then s[i]'h else default := by
  split
  · rename_i h; exact Utf8W.get!_of_lt s i h
  · rename_i h
    show s.data[i]! = default
    exact getElem!_neg s.data i h
theorem bt_get (s : ByteArray) (i : Nat) : bt s (i : Int) = ((s.get! i).toNat : Int) := by
  unfold bt
  rw [get_get]
  simp only [Int.toNat_natCast]
  split <;> rfl
theorem bt_get1 (s : ByteArray) (i k : Nat) : bt s ((i : Int) + (k : Nat)) = ((s.get! (i + k)).toNat : Int) := by
  rw [← Int.natCast_add, bt_get]
theorem byte_lt (b : UInt8) : b.toNat < 256 := UInt8.toNat_lt b
/-- One byte more of a code point. -/
def cont (s : ByteArray) (i k : Nat) : Bool := decide (i + k < s.size) && (s.get! (i + k)).toNat / 64 == 2
theorem wid1_one (s : ByteArray) (i k n : Nat) (c : Int) : wid1 s i k (n + 1) c = if cont s i k = true then wid1 s i (k + 1) n (64 * c + ((s.get! (i + k)).toNat : Int) % 64) else none := by
  rw [wid1, bt_get1]
  unfold cont
  by_cases h1 : i + k < s.size
  · by_cases h2 : (s.get! (i + k)).toNat / 64 = 2
    · rw [if_neg (by omega), if_pos (by simp [h1, h2])]
    · rw [if_pos (.inr (by omega)), if_neg (by simp [h1, h2])]
  · rw [if_pos (.inl (by omega)), if_neg (by simp [h1])]
theorem wid1_zero (s : ByteArray) (i k : Nat) (c : Int) : wid1 s i k 0 c = some c := by rw [wid1]
theorem valid_iff (c : Nat) : Utf8.valid (c : Int) = true ↔ (c < 55296 ∨ 57344 ≤ c) ∧ c ≤ 1114111 := by
  unfold Utf8.valid
  simp only [Bool.or_eq_true, Bool.and_eq_true, decide_eq_true_eq]
  omega
theorem valid_no (c : Nat) (h : ¬ ((c < 55296 ∨ 57344 ≤ c) ∧ c ≤ 1114111)) : Utf8.valid (c : Int) = false := by
  cases hv : Utf8.valid (c : Int) with
  | false => rfl
  | true => exact absurd ((valid_iff c).1 hv) h
theorem valid_yes (c : Nat) (h : (c < 55296 ∨ 57344 ≤ c) ∧ c ≤ 1114111) : Utf8.valid (c : Int) = true := (valid_iff c).2 h
theorem dec_eq (s : ByteArray) (i : Nat) : Utf8.decode s i =
    if (s.get! i).toNat < 128 then ((s.get! i).toNat, 1)
    else if ((s.get! i).toNat / 32 == 6 && cont s i 1) = true then
      if (s.get! i).toNat % 32 * 64 + (s.get! (i + 1)).toNat % 64 ≥ 128 then ((s.get! i).toNat % 32 * 64 + (s.get! (i + 1)).toNat % 64, 2) else (65533, 1)
    else if ((s.get! i).toNat / 16 == 14 && cont s i 1 && cont s i 2) = true then
      if (decide ((s.get! i).toNat % 16 * 4096 + (s.get! (i + 1)).toNat % 64 * 64 + (s.get! (i + 2)).toNat % 64 ≥ 2048) && Utf8.valid (((s.get! i).toNat % 16 * 4096 + (s.get! (i + 1)).toNat % 64 * 64 + (s.get! (i + 2)).toNat % 64 : Nat) : Int)) = true then
        ((s.get! i).toNat % 16 * 4096 + (s.get! (i + 1)).toNat % 64 * 64 + (s.get! (i + 2)).toNat % 64, 3) else (65533, 1)
    else if ((s.get! i).toNat / 8 == 30 && cont s i 1 && cont s i 2 && cont s i 3) = true then
      if (decide ((s.get! i).toNat % 8 * 262144 + (s.get! (i + 1)).toNat % 64 * 4096 + (s.get! (i + 2)).toNat % 64 * 64 + (s.get! (i + 3)).toNat % 64 ≥ 65536) && Utf8.valid (((s.get! i).toNat % 8 * 262144 + (s.get! (i + 1)).toNat % 64 * 4096 + (s.get! (i + 2)).toNat % 64 * 64 + (s.get! (i + 3)).toNat % 64 : Nat) : Int)) = true then
        ((s.get! i).toNat % 8 * 262144 + (s.get! (i + 1)).toNat % 64 * 4096 + (s.get! (i + 2)).toNat % 64 * 64 + (s.get! (i + 3)).toNat % 64, 4) else (65533, 1)
    else (65533, 1) := by
  unfold Utf8.decode cont
  rfl
/-- The decoder tells as many bytes as stand there by definition; a lone byte and the rune of errors where none stands. -/
theorem dec_wid (s : ByteArray) (i : Nat) (h : i < s.size) : (widR s i = 0 → Utf8.decode s i = (65533, 1)) ∧ (widR s i ≠ 0 → (Utf8.decode s i).2 = widR s i ∧ ((Utf8.decode s i).1 = 65533 → 2 ≤ (Utf8.decode s i).2)) := by
  have h0 := byte_lt (s.get! i)
  rw [dec_eq]
  unfold widR
  rw [if_neg (by omega), bt_get]
  simp only [widN, wid1_one, wid1_zero]
  generalize (s.get! i).toNat = b0 at *
  generalize (s.get! (i + 1)).toNat = b1 at *
  generalize (s.get! (i + 2)).toNat = b2 at *
  generalize (s.get! (i + 3)).toNat = b3 at *
  generalize cont s i 1 = k1
  generalize cont s i 2 = k2
  generalize cont s i 3 = k3
  by_cases c1 : b0 < 128
  · rw [if_pos c1, if_pos (by omega)]
    exact ⟨fun h => by omega, fun _ => ⟨rfl, fun h => by simp only at h; omega⟩⟩
  rw [if_neg c1, if_neg (by omega)]
  by_cases c2 : 192 ≤ b0 ∧ b0 < 224
  · rw [if_pos (by omega)]
    have e1 : (b0 / 32 == 6) = true := by simp; omega
    have e2 : (b0 / 16 == 14) = false := by simp; omega
    have e3 : (b0 / 8 == 30) = false := by simp; omega
    simp only [e1, e2, e3, Bool.true_and, Bool.false_and, Bool.false_eq_true, if_false]
    cases k1
    · simp
    · simp only [if_true]
      by_cases c3 : b0 % 32 * 64 + b1 % 64 ≥ 128
      · rw [if_pos c3, if_neg (by omega)]
        exact ⟨fun h => by omega, fun _ => ⟨rfl, fun _ => by simp⟩⟩
      · rw [if_neg c3, if_pos (by omega)]
        exact ⟨fun _ => rfl, fun h => by omega⟩
  rw [if_neg (by omega)]
  have e1 : (b0 / 32 == 6) = false := by simp; omega
  by_cases c3 : 224 ≤ b0 ∧ b0 < 240
  · rw [if_pos (by omega)]
    have e2 : (b0 / 16 == 14) = true := by simp; omega
    have e3 : (b0 / 8 == 30) = false := by simp; omega
    simp only [e1, e2, e3, Bool.true_and, Bool.false_and, Bool.false_eq_true, if_false]
    cases k1
    · simp
    cases k2
    · simp
    simp only [if_true, Bool.and_self]
    by_cases c4 : b0 % 16 * 4096 + b1 % 64 * 64 + b2 % 64 ≥ 2048 ∧ ((b0 % 16 * 4096 + b1 % 64 * 64 + b2 % 64 < 55296 ∨ 57344 ≤ b0 % 16 * 4096 + b1 % 64 * 64 + b2 % 64) ∧ b0 % 16 * 4096 + b1 % 64 * 64 + b2 % 64 ≤ 1114111)
    · rw [if_neg (by omega), if_pos (by rw [valid_yes _ c4.2]; simp [c4.1])]
      exact ⟨fun h => by omega, fun _ => ⟨rfl, fun _ => by simp⟩⟩
    · rw [if_pos (by omega), if_neg (by
        rw [Bool.and_eq_true, decide_eq_true_eq, valid_iff]
        exact c4)]
      exact ⟨fun _ => rfl, fun h => by omega⟩
  rw [if_neg (by omega)]
  have e2 : (b0 / 16 == 14) = false := by simp; omega
  by_cases c4 : 240 ≤ b0 ∧ b0 < 248
  · rw [if_pos (by omega)]
    have e3 : (b0 / 8 == 30) = true := by simp; omega
    simp only [e1, e2, e3, Bool.true_and, Bool.false_and, Bool.false_eq_true, if_false]
    cases k1
    · simp
    cases k2
    · simp
    cases k3
    · simp
    simp only [if_true, Bool.and_self]
    by_cases c5 : b0 % 8 * 262144 + b1 % 64 * 4096 + b2 % 64 * 64 + b3 % 64 ≥ 65536 ∧ ((b0 % 8 * 262144 + b1 % 64 * 4096 + b2 % 64 * 64 + b3 % 64 < 55296 ∨ 57344 ≤ b0 % 8 * 262144 + b1 % 64 * 4096 + b2 % 64 * 64 + b3 % 64) ∧ b0 % 8 * 262144 + b1 % 64 * 4096 + b2 % 64 * 64 + b3 % 64 ≤ 1114111)
    · rw [if_neg (by omega), if_pos (by rw [valid_yes _ c5.2]; simp [c5.1])]
      exact ⟨fun h => by omega, fun _ => ⟨rfl, fun _ => by simp⟩⟩
    · rw [if_pos (by omega), if_neg (by
        rw [Bool.and_eq_true, decide_eq_true_eq, valid_iff]
        exact c5)]
      exact ⟨fun _ => rfl, fun h => by omega⟩
  rw [if_neg (by omega)]
  have e3 : (b0 / 8 == 30) = false := by simp; omega
  simp [e1, e2, e3]
/-- Cut at a place, a text's first code point is that of the place. -/
theorem dec_cut (s : ByteArray) (i : Nat) (h : i < s.size) : Lib.decodeGo (s.extract i s.size) = Utf8.decode s i := by
  have hsz : (s.extract i s.size).size = s.size - i := by simp [ByteArray.size_extract]
  have hg : ∀ k, (s.extract i s.size).get! k = s.get! (i + k) := fun k => by
    rw [get_get, get_get]
    by_cases hk : i + k < s.size
    · rw [dif_pos (by omega), dif_pos hk]
      simp [ByteArray.getElem_extract]
    · rw [dif_neg (by omega), dif_neg hk]
  unfold Lib.decodeGo
  rw [if_neg (by omega), dec_eq, dec_eq]
  have hc : ∀ k, cont (s.extract i s.size) 0 k = cont s i k := fun k => by
    unfold cont
    rw [hsz, Nat.zero_add, hg]
    congr 1
    exact decide_eq_decide.2 (by omega)
  simp only [hc, hg, Nat.zero_add, Nat.add_zero]
end Go.Proofs.YtjnkbmodcddbkaaDoor

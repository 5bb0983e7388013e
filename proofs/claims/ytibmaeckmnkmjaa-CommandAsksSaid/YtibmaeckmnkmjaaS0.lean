/- Plain words on numbers as bytes: what the decoder of a number tells of a list of bytes. No program in sight. -/
import Derived.WalkKit
import Derived.Lib.Hide
namespace Go.Proofs.Ytibmaeckmnkmjaa
open Go.RowKit

def varGo : List UInt8 → Nat → Nat → Int × Int × Int
  | [], i, _ => if i < 9 then (0, 0, 5) else (0, 0, 10)
  | b :: r, i, acc =>
    if i = 9 then (0, 0, 10)
    else if b.toNat < 128 then
      if b.toNat = 0 ∧ 0 < i then (0, 0, 10) else (((acc + b.toNat % 128 * 2 ^ (7 * i) : Nat) : Int), (i : Int) + 1, 0)
    else varGo r (i + 1) (acc + b.toNat % 128 * 2 ^ (7 * i))

def varS (l : List UInt8) : Int × Int × Int := varGo l 0 0

theorem wraps_i64 (n : Int) (h₀ : 0 ≤ n) (h₁ : n < 2 ^ 63) : IntKind.i64.wrap n = n := by rw [IntKind.wrap_i64]; omega

theorem var_step_lt (acc b i : Nat) (ha : acc < 2 ^ (7 * i)) : acc + b % 128 * 2 ^ (7 * i) < 2 ^ (7 * (i + 1)) := by
  have e : 2 ^ (7 * (i + 1)) = 128 * 2 ^ (7 * i) := by rw [show 7 * (i + 1) = 7 + 7 * i from by omega, Nat.pow_add]
  have h : b % 128 * 2 ^ (7 * i) ≤ 127 * 2 ^ (7 * i) := Nat.mul_le_mul (by omega) (Nat.le_refl _)
  omega

theorem pow7_le (i : Nat) (hi : i < 9) : 2 ^ (7 * i) ≤ 2 ^ 56 := Nat.pow_le_pow_right (by decide) (by omega)

/-- 'n |= b << 7*i' over the bits below 7*i: a sum. -/
theorem or_shl (acc b i : Nat) (ha : acc < 2 ^ (7 * i)) (hi : i < 9) :
    bits .or .i64 (acc : Int) (((b % 128 * 2 ^ (7 * i) : Nat)) : Int) = ((acc + b % 128 * 2 ^ (7 * i) : Nat) : Int) := by
  have e1 := pow7_le i hi
  have h1 : b % 128 * 2 ^ (7 * i) ≤ 127 * 2 ^ 56 := Nat.mul_le_mul (by omega) e1
  rw [(bits_nat .i64 63 (by decide) wraps_i64 acc (b % 128 * 2 ^ (7 * i)) (by omega) (by omega)).2]
  congr 1
  have := Nat.two_pow_add_eq_or_of_lt ha (b % 128)
  rw [Nat.mul_comm (2 ^ (7 * i))] at this
  rw [Nat.or_comm, ← this]; omega

theorem wrap64_id (n : Int) (h0 : -9223372036854775808 ≤ n) (h1 : n ≤ 9223372036854775807) : wrap64 n = n := by unfold wrap64; omega

theorem u8_and127 (b : UInt8) : bits .and .u8 (b.toNat : Int) 127 = ((b.toNat % 128 : Nat) : Int) := by
  have h := bits_mask .u8 8 (by decide) wraps_u8 7 (by decide) (b.toNat : Int) (by omega) (by have := b.toNat_lt; omega)
  exact h

theorem var_or (acc k : Nat) (b : UInt8) (ha : acc < 2 ^ (7 * k)) (hk : k < 9) :
    bits .or .i64 (acc : Int) (wrap64 (wrap64 (bits .and .u8 (b.toNat : Int) 127) * 2 ^ (7 * k))) = ((acc + b.toNat % 128 * 2 ^ (7 * k) : Nat) : Int) := by
  have e1 := pow7_le k hk
  have h1 : b.toNat % 128 * 2 ^ (7 * k) ≤ 127 * 2 ^ 56 := Nat.mul_le_mul (by omega) e1
  have e0 : wrap64 ((b.toNat % 128 : Nat) : Int) = ((b.toNat % 128 : Nat) : Int) := wrap64_id _ (by omega) (by omega)
  rw [u8_and127, e0]
  have e : ((b.toNat % 128 : Nat) : Int) * 2 ^ (7 * k) = ((b.toNat % 128 * 2 ^ (7 * k) : Nat) : Int) := by
    rw [Int.natCast_mul, Int.natCast_pow]; rfl
  rw [e, wrap64_id _ (by omega) (by omega), or_shl acc b.toNat k ha hk]

theorem var_or0 (acc k n : Nat) (hn : n = 0) (ha : acc < 2 ^ (7 * k)) (hk : k < 9) :
    bits .or .i64 (acc : Int) (wrap64 (wrap64 (bits .and .u8 0 127) * 2 ^ (7 * k))) = ((acc + n % 128 * 2 ^ (7 * k) : Nat) : Int) := by
  subst hn
  exact var_or acc k 0 ha hk

theorem var_rem (acc k : Nat) (b : UInt8) (ha : acc < 2 ^ (7 * k)) (hk : k < 9) :
    bits .or .i64 (acc : Int) (wrap64 ((b.toNat : Int) % 128 * 2 ^ (7 * k))) = ((acc + b.toNat % 128 * 2 ^ (7 * k) : Nat) : Int) := by
  have e1 := pow7_le k hk
  have h1 : b.toNat % 128 * 2 ^ (7 * k) ≤ 127 * 2 ^ 56 := Nat.mul_le_mul (by omega) e1
  have e : ((b.toNat : Int) % 128) * 2 ^ (7 * k) = ((b.toNat % 128 * 2 ^ (7 * k) : Nat) : Int) := by
    rw [Int.natCast_mul, Int.natCast_pow]; rfl
  rw [e, wrap64_id _ (by omega) (by omega), or_shl acc b.toNat k ha hk]

theorem var_rem0 (acc k n : Nat) (hn : n = 0) (ha : acc < 2 ^ (7 * k)) (hk : k < 9) :
    bits .or .i64 (acc : Int) (wrap64 0) = ((acc + n % 128 * 2 ^ (7 * k) : Nat) : Int) := by
  subst hn
  have h := var_rem acc k 0 ha hk
  simpa using h

theorem drop_at (s : ByteArray) (k : Nat) (h : k < s.size) : s.data.toList.drop k = s[k] :: s.data.toList.drop (k + 1) := by
  rw [List.drop_eq_getElem_cons (by simpa using h)]; rfl

theorem varGo_more {s : ByteArray} {k acc : Nat} {R : Int × Int × Int} (h : k < s.size) (hk : k < 9) (hb : 128 ≤ ((s[k]).toNat : Int))
    (H : Hid (varGo (s.data.toList.drop k) k acc = R)) : Hid (varGo (s.data.toList.drop (k + 1)) (k + 1) (acc + (s[k]).toNat % 128 * 2 ^ (7 * k)) = R) := by
  have H := H.out
  rw [drop_at s k h, varGo, if_neg (by omega), if_neg (by omega)] at H
  exact H

theorem varGo_zero {s : ByteArray} {k acc : Nat} {R : Int × Int × Int} (h : k < s.size) (hk : k < 9) (hb : (s[k]).toNat = 0) (h0 : 0 < k)
    (H : Hid (varGo (s.data.toList.drop k) k acc = R)) : R = (0, 0, 10) := by
  have H := H.out
  rw [drop_at s k h, varGo, if_neg (by omega), if_pos (by omega), if_pos ⟨hb, h0⟩] at H
  exact H.symm

theorem varGo_last {s : ByteArray} {k acc : Nat} {R : Int × Int × Int} (h : k < s.size) (hk : k < 9) (hb : ((s[k]).toNat : Int) < 128) (h0 : ¬ ((s[k]).toNat = 0 ∧ 0 < k))
    (H : Hid (varGo (s.data.toList.drop k) k acc = R)) : R = (((acc + (s[k]).toNat % 128 * 2 ^ (7 * k) : Nat) : Int), (k : Int) + 1, 0) := by
  have H := H.out
  rw [drop_at s k h, varGo, if_neg (by omega), if_pos (by omega), if_neg h0] at H
  exact H.symm

theorem varGo_end {s : ByteArray} {k acc : Nat} {R : Int × Int × Int} (h : s.size ≤ k) (hk : k < 9)
    (H : Hid (varGo (s.data.toList.drop k) k acc = R)) : R = (0, 0, 5) := by
  have H := H.out
  rw [List.drop_eq_nil_of_le (by simpa using h), varGo, if_pos hk] at H
  exact H.symm

theorem varGo_nine {s : ByteArray} {acc : Nat} {R : Int × Int × Int}
    (H : Hid (varGo (s.data.toList.drop 9) 9 acc = R)) : R = (0, 0, 10) := by
  have H := H.out
  cases hl : s.data.toList.drop 9 with
  | nil => rw [hl, varGo, if_neg (by omega)] at H; exact H.symm
  | cons b r => rw [hl, varGo, if_pos rfl] at H; exact H.symm
/-- What a number's decoder tells, where it tells one. -/
theorem varGo_ok : ∀ (l : List UInt8) (i acc : Nat), acc < 2 ^ (7 * i) → i ≤ 9 → (varGo l i acc).2.2 = 0 →
    0 ≤ (varGo l i acc).1 ∧ (varGo l i acc).1 < 2 ^ 63 ∧ (i : Int) < (varGo l i acc).2.1 ∧ (varGo l i acc).2.1 ≤ i + l.length
  | [], i, acc, ha, hi, h => by
    unfold varGo at h
    split at h <;> simp at h
  | b :: r, i, acc, ha, hi, h => by
    unfold varGo at h ⊢
    by_cases h9 : i = 9
    · rw [if_pos h9] at h; simp at h
    · rw [if_neg h9] at h ⊢
      by_cases hb : b.toNat < 128
      · rw [if_pos hb] at h ⊢
        by_cases h0 : b.toNat = 0 ∧ 0 < i
        · rw [if_pos h0] at h; simp at h
        · rw [if_neg h0] at h ⊢
          have e1 := var_step_lt acc b.toNat i ha
          have e2 : 2 ^ (7 * (i + 1)) ≤ 2 ^ 63 := Nat.pow_le_pow_right (by decide) (by omega)
          simp only [List.length_cons]
          refine ⟨by omega, by omega, by omega, by omega⟩
      · rw [if_neg hb] at h ⊢
        have ih := varGo_ok r (i + 1) _ (var_step_lt acc b.toNat i ha) (by omega) h
        simp only [List.length_cons]
        refine ⟨ih.1, ih.2.1, by omega, by omega⟩

/-- A number of at most 'most' ahead, and what stands behind it. -/
def takeNum (s : ByteArray) (most : Int) : Option (Int × ByteArray) :=
  if (varS s.data.toList).2.2 = 0 ∧ (varS s.data.toList).1 ≤ most then some ((varS s.data.toList).1, s.extract (varS s.data.toList).2.1.toNat s.size) else none

theorem takeNum_some {s r : ByteArray} {most n : Int} (h : takeNum s most = some (n, r)) :
    ∃ k : Nat, varS s.data.toList = (n, (k : Int), 0) ∧ 0 ≤ n ∧ n ≤ most ∧ n < 2 ^ 63 ∧ 0 < k ∧ k ≤ s.size ∧ r = s.extract k s.size := by
  unfold takeNum at h
  split at h
  · rename_i hc
    obtain ⟨h1, h2, h3, h4⟩ := varGo_ok s.data.toList 0 0 (by decide) (by decide) hc.1
    have hl : s.data.toList.length = s.size := by simp
    have h3' : (0 : Int) < (varS s.data.toList).2.1 := h3
    have h4' : (varS s.data.toList).2.1 ≤ ((0 : Nat) : Int) + s.data.toList.length := h4
    obtain ⟨k, hk⟩ := Int.eq_ofNat_of_zero_le (show 0 ≤ (varS s.data.toList).2.1 by omega)
    simp only [Option.some.injEq, Prod.mk.injEq] at h
    obtain ⟨rfl, rfl⟩ := h
    refine ⟨k, ?_, h1, hc.2, h2, by omega, by omega, by rw [hk]; rfl⟩
    rw [← hk, ← hc.1]
  · simp at h

theorem takeNum_none {s : ByteArray} {most : Int} (h : takeNum s most = none) : ((varS s.data.toList).2.2 == 0) = true → ¬ (varS s.data.toList).1 ≤ most := by
  unfold takeNum at h
  split at h
  · simp at h
  · rename_i hc
    intro he hm
    exact hc ⟨by simpa using he, hm⟩

theorem size_extract (s : ByteArray) (k : Nat) : (s.extract k s.size).size = s.size - k := by simp

theorem takeNum_size {s r : ByteArray} {most n : Int} (h : takeNum s most = some (n, r)) : r.size < s.size := by
  obtain ⟨k, _, _, _, _, h0, hk, rfl⟩ := takeNum_some h
  rw [size_extract]; omega

/-- A text ahead, and what stands behind it. -/
def takeText (s : ByteArray) : Option (ByteArray × ByteArray) :=
  match takeNum s 262144 with
  | none => none
  | some (n, r) => if n ≤ r.size then some (r.extract 0 n.toNat, r.extract n.toNat r.size) else none

end Go.Proofs.Ytibmaeckmnkmjaa

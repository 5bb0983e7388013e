/- Fields as bytes are these fields again: plain lemmas. -/
import Derived.Test.YtibmaeckmnkmjaaB3
import Derived.Test.YtibmaeckmnkmjaaP2
namespace Go.Proofs.Ytibmaeckmnkmjaa
open Go.RowKit

theorem varGo_put : ∀ (i n acc : Nat) (r : List UInt8), i ≤ 8 → n * 128 ^ i < 128 ^ 9 → (n = 0 → i = 0) →
    varGo (putV n ++ r) i acc = (((acc + n * 2 ^ (7 * i) : Nat) : Int), ((i + (putV n).length : Nat) : Int), 0) := by
  intro i n
  induction n using Nat.strongRecOn generalizing i with
  | _ n ih =>
    intro acc r hi hn h0
    by_cases h : n ≤ 127
    · rw [putV_small h]
      have e : (UInt8.ofNat n).toNat = n := by simp only [UInt8.toNat_ofNat']; omega
      have hm : n % 128 = n := Nat.mod_eq_of_lt (by omega)
      simp only [List.cons_append, List.nil_append, varGo, e]
      rw [if_neg (by omega), if_pos (by omega), if_neg (by rintro ⟨a, b⟩; have := h0 a; omega), hm]
      simp
    · rw [putV_more h]
      have e : (UInt8.ofNat (n % 128 + 128)).toNat = n % 128 + 128 := by simp only [UInt8.toNat_ofNat']; omega
      have e8 : i ≤ 7 := by
        by_cases h8 : i = 8
        · subst h8
          have : 128 * 128 ^ 8 ≤ n * 128 ^ 8 := Nat.mul_le_mul_right _ (by omega)
          have : 128 * 128 ^ 8 = 128 ^ 9 := by decide
          omega
        · omega
      have hd : n / 128 * 128 ^ (i + 1) < 128 ^ 9 := by
        have h1 : n / 128 * 128 ≤ n := Nat.div_mul_le_self n 128
        have h2 : n / 128 * 128 ^ (i + 1) = n / 128 * 128 * 128 ^ i := by rw [Nat.pow_succ, Nat.mul_assoc, Nat.mul_comm 128]
        have h3 : n / 128 * 128 * 128 ^ i ≤ n * 128 ^ i := Nat.mul_le_mul_right _ h1
        omega
      simp only [List.cons_append, varGo, e]
      rw [if_neg (by omega), if_neg (by omega), ih (n / 128) (by omega) (i + 1) _ r (by omega) hd (by omega)]
      have hmm : (n % 128 + 128) % 128 = n % 128 := by omega
      rw [hmm]
      have hp : 2 ^ (7 * (i + 1)) = 128 * 2 ^ (7 * i) := by rw [show 7 * (i + 1) = 7 + 7 * i by omega, Nat.pow_add]
      have hq : n % 128 * 2 ^ (7 * i) + n / 128 * 2 ^ (7 * (i + 1)) = n * 2 ^ (7 * i) := by
        rw [hp, ← Nat.mul_assoc, ← Nat.add_mul]
        congr 1; omega
      have ha : acc + n % 128 * 2 ^ (7 * i) + n / 128 * 2 ^ (7 * (i + 1)) = acc + n * 2 ^ (7 * i) := by omega
      rw [ha]
      simp only [List.length_cons]
      congr 3; omega

theorem varS_put (n : Nat) (r : List UInt8) (h : n ≤ 1099511627776) : varS (putV n ++ r) = ((n : Int), ((putV n).length : Int), 0) := by
  unfold varS
  rw [varGo_put 0 n 0 r (by omega) (by simp; omega) (fun _ => rfl)]
  simp

theorem extract_append (a r : List UInt8) : (⟨(a ++ r).toArray⟩ : ByteArray).extract a.length (⟨(a ++ r).toArray⟩ : ByteArray).size = ⟨r.toArray⟩ := by
  apply ByteArray.ext
  simp [ByteArray.size, ByteArray.data_extract]
theorem extract_front (a r : List UInt8) : (⟨(a ++ r).toArray⟩ : ByteArray).extract 0 a.length = ⟨a.toArray⟩ := by
  apply ByteArray.ext
  simp [ByteArray.data_extract]

theorem takeNum_put (n : Nat) (r : List UInt8) (most : Int) (h : n ≤ 1099511627776) (hm : (n : Int) ≤ most) : takeNum ⟨(putV n ++ r).toArray⟩ most = some ((n : Int), ⟨r.toArray⟩) := by
  unfold takeNum
  simp only [varS_put n r h]
  rw [if_pos ⟨trivial, hm⟩]
  simp only [Int.toNat_natCast]
  rw [extract_append]

theorem mk_data (t : ByteArray) : (⟨t.data.toList.toArray⟩ : ByteArray) = t := by cases t; simp

theorem takeText_put (t : ByteArray) (r a : List UInt8) (ha : textB t = some a) : takeText ⟨(a ++ r).toArray⟩ = some (t, ⟨r.toArray⟩) := by
  unfold textB at ha
  split at ha
  · rename_i h
    obtain rfl := Option.some.inj ha
    unfold takeText
    rw [List.append_assoc, takeNum_put t.size _ 262144 (by omega) (by omega)]
    simp only
    have e : t.data.toList.length = t.size := by rw [Array.length_toList]; rfl
    have e2 : (⟨(t.data.toList ++ r).toArray⟩ : ByteArray).size = t.size + r.length := by rw [← e]; show ((t.data.toList ++ r).toArray).size = _; rw [List.size_toArray, List.length_append]
    rw [if_pos (by rw [e2]; omega)]
    simp only [Int.toNat_natCast]
    rw [← e, extract_front, extract_append, mk_data]
  · simp at ha

/-- A field that is put, as it is taken. -/
def PF.gk : PF → GK
  | .num _ => .flat .num
  | .err _ => .flat .err
  | .tru _ => .flat .tru
  | .txt _ => .flat .txt
  | .posts _ _ => .posts
def PF.fv : PF → FV
  | .num n => .val (.int .i64 n)
  | .err n => .val (.int .i64 n)
  | .tru t => .val (.bool t)
  | .txt t => .val (.string t)
  | .posts _ ps => .row ps.length (postCells ps)

theorem pair_take (p : ByteArray × ByteArray) (a r : List UInt8) (ha : pairB p = some a) : takeAll [.txt, .txt] ⟨(a ++ r).toArray⟩ = some ([.string p.1, .string p.2], ⟨r.toArray⟩) := by
  unfold pairB at ha
  simp only [Option.bind_eq_some_iff, Option.map_eq_some_iff] at ha
  obtain ⟨a1, h1, a2, h2, rfl⟩ := ha
  rw [two_texts, List.append_assoc, takeText_put _ _ _ h1]
  simp only
  rw [takeText_put _ _ _ h2]
  rfl

theorem row_take : ∀ (ps : List (ByteArray × ByteArray)) (a r : List UInt8), allB pairB ps = some a → takeRow [.txt, .txt] ps.length ⟨(a ++ r).toArray⟩ = some (postCells ps, ⟨r.toArray⟩)
  | [], a, r, h => by
    simp only [allB, Option.some.injEq] at h
    subst h
    rfl
  | p :: ps, a, r, h => by
    simp only [allB, Option.bind_eq_some_iff, Option.map_eq_some_iff] at h
    obtain ⟨a1, h1, a2, h2, rfl⟩ := h
    rw [List.append_assoc, List.length_cons, takeRow_some (pair_take p a1 _ h1), row_take ps a2 r h2]
    rfl

theorem one_take (f : PF) (a r : List UInt8) (h : f.put = some a) : takeOneG f.gk ⟨(a ++ r).toArray⟩ = some (f.fv, ⟨r.toArray⟩) := by
  cases f with
  | num n =>
    obtain ⟨m, rfl, hm, rfl⟩ := numB_some h
    simp only [PF.gk, takeOneG, takeOne, takeNum_put m r 1099511627776 hm (by omega)]
    rfl
  | err n =>
    obtain ⟨m, rfl, hm, rfl⟩ := numB_some h
    simp only [PF.gk, takeOneG, takeOne, takeNum_put m r 1099511627776 hm (by omega)]
    rfl
  | tru t =>
    obtain ⟨m, hn, hm, rfl⟩ := numB_some h
    have : m = if t then 1 else 0 := by cases t <;> simp at hn <;> simp <;> omega
    subst this
    simp only [PF.gk, takeOneG, takeOne]
    rw [takeNum_put _ r 1 (by cases t <;> simp) (by cases t <;> simp)]
    cases t <;> rfl
  | txt t =>
    simp only [PF.gk, takeOneG, takeOne, takeText_put t r a h]
    rfl
  | posts v ps =>
    simp only [PF.put] at h
    split at h
    · rename_i h64
      simp only [Option.map_eq_some_iff] at h
      obtain ⟨b, hb, rfl⟩ := h
      simp only [PF.gk, takeOneG]
      rw [List.append_assoc, takeNum_put ps.length _ 64 (by omega) (by omega)]
      simp only [Int.toNat_natCast]
      rw [row_take ps b r hb]
      rfl
    · simp at h

theorem all_take : ∀ (fs : List PF) (a r : List UInt8), putAll fs = some a → takeAllG (fs.map PF.gk) ⟨(a ++ r).toArray⟩ = some (fs.map PF.fv, ⟨r.toArray⟩)
  | [], a, r, h => by
    simp only [putAll, allB, Option.some.injEq] at h
    subst h
    rfl
  | f :: fs, a, r, h => by
    simp only [putAll, allB, Option.bind_eq_some_iff, Option.map_eq_some_iff] at h
    obtain ⟨a1, h1, a2, h2, rfl⟩ := h
    rw [List.append_assoc, List.map_cons, takeAllG_cons_some (one_take f a1 _ h1), all_take fs a2 r h2]
    rfl

theorem from_put (c : UInt8) (fs : List PF) (a : List UInt8) (h : putAll fs = some a) : fromG ⟨#[c]⟩ (fs.map PF.gk) ⟨(c :: a).toArray⟩ = some (fs.map PF.fv) := by
  unfold fromG
  rw [take1 (by simp)]
  have e : (⟨(c :: a).toArray⟩ : ByteArray).extract 1 (⟨(c :: a).toArray⟩ : ByteArray).size = ⟨(a ++ []).toArray⟩ := by
    have := extract_append [c] a
    simpa using this
  rw [e]
  simp only [all_take fs a [] h]
  rfl
end Go.Proofs.Ytibmaeckmnkmjaa

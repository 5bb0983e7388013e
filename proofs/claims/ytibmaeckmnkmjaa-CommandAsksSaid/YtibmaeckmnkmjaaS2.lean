/- Plain words on fields out of bytes, lists of entries and posts among them. No program in sight. -/
import Derived.Test.YtibmaeckmnkmjaaS1
namespace Go.Proofs.Ytibmaeckmnkmjaa
open Go.RowKit

/-- So many rows of fields, one behind the other: their cells. -/
def takeRow (ks : List FK) : Nat → ByteArray → Option (List Value × ByteArray)
  | 0, s => some ([], s)
  | n + 1, s => match takeAll ks s with
    | none => none
    | some (vs, r) => (takeRow ks n r).map fun x => (vs ++ x.1, x.2)

inductive GK where
  | flat (k : FK)
  | ents
  | posts

inductive FV where
  | val (v : Value)
  | row (n : Nat) (cs : List Value)

def takeOneG : GK → ByteArray → Option (FV × ByteArray)
  | .flat k, s => (takeOne k s).map fun x => (.val x.1, x.2)
  | .ents, s => match takeNum s 16 with
    | none => none
    | some (n, r) => (takeRow [.num, .txt] n.toNat r).map fun x => (.row n.toNat x.1, x.2)
  | .posts, s => match takeNum s 64 with
    | none => none
    | some (n, r) => (takeRow [.txt, .txt] n.toNat r).map fun x => (.row n.toNat x.1, x.2)

def takeAllG : List GK → ByteArray → Option (List FV × ByteArray)
  | [], s => some ([], s)
  | k :: ks, s => match takeOneG k s with
    | none => none
    | some (v, r) => (takeAllG ks r).map fun x => (v :: x.1, x.2)

theorem takeAll_size : ∀ (ks : List FK) {s r : ByteArray} {vs : List Value}, takeAll ks s = some (vs, r) → r.size ≤ s.size
  | [], s, r, vs, h => by simp only [takeAll, Option.some.injEq, Prod.mk.injEq] at h; rw [h.2]; exact Nat.le_refl _
  | k :: ks, s, r, vs, h => by
    cases ho : takeOne k s with
    | none => rw [takeAll_cons_none ho] at h; simp at h
    | some y =>
      obtain ⟨v, r1⟩ := y
      rw [takeAll_cons_some ho] at h
      simp only [Option.map_eq_some_iff, Prod.exists, Prod.mk.injEq] at h
      obtain ⟨a, b, h1, _, rfl⟩ := h
      have := takeAll_size ks h1
      have := takeOne_size ho
      omega

theorem takeRow_size (ks : List FK) : ∀ (n : Nat) {s r : ByteArray} {vs : List Value}, takeRow ks n s = some (vs, r) → r.size ≤ s.size
  | 0, s, r, vs, h => by simp only [takeRow, Option.some.injEq, Prod.mk.injEq] at h; rw [h.2]; exact Nat.le_refl _
  | n + 1, s, r, vs, h => by
    simp only [takeRow] at h
    split at h
    · simp at h
    · rename_i us r1 ho
      simp only [Option.map_eq_some_iff, Prod.exists, Prod.mk.injEq] at h
      obtain ⟨a, b, h1, _, rfl⟩ := h
      have := takeRow_size ks n h1
      have := takeAll_size ks ho
      omega

theorem takeOneG_size {k : GK} {s r : ByteArray} {v : FV} (h : takeOneG k s = some (v, r)) : r.size ≤ s.size := by
  cases k with
  | flat k =>
    simp only [takeOneG, Option.map_eq_some_iff, Prod.exists, Prod.mk.injEq] at h
    obtain ⟨a, b, h1, _, rfl⟩ := h
    exact Nat.le_of_lt (takeOne_size h1)
  | ents | posts =>
    simp only [takeOneG] at h
    split at h
    · simp at h
    · rename_i n r1 hn
      simp only [Option.map_eq_some_iff, Prod.exists, Prod.mk.injEq] at h
      obtain ⟨a, b, h1, _, rfl⟩ := h
      have := takeNum_size hn
      have := takeRow_size _ _ h1
      omega

theorem takeAllG_cons_none {k : GK} {ks : List GK} {s : ByteArray} (h : takeOneG k s = none) : takeAllG (k :: ks) s = none := by
  simp only [takeAllG, h]

theorem takeAllG_cons_some {k : GK} {ks : List GK} {s r : ByteArray} {v : FV} (h : takeOneG k s = some (v, r)) :
    takeAllG (k :: ks) s = (takeAllG ks r).map fun x => (v :: x.1, x.2) := by
  simp only [takeAllG, h]

theorem takeRow_none {ks : List FK} {n : Nat} {s : ByteArray} (h : takeAll ks s = none) : takeRow ks (n + 1) s = none := by
  simp only [takeRow, h]

theorem takeRow_some {ks : List FK} {n : Nat} {s r : ByteArray} {vs : List Value} (h : takeAll ks s = some (vs, r)) :
    takeRow ks (n + 1) s = (takeRow ks n r).map fun x => (vs ++ x.1, x.2) := by
  simp only [takeRow, h]

/-- Two fields. -/
theorem takeAll_two {k1 k2 : FK} {s r : ByteArray} {vs : List Value} (h : takeAll [k1, k2] s = some (vs, r)) :
    ∃ v1 v2, vs = [v1, v2] := by
  cases ho : takeOne k1 s with
  | none => rw [takeAll_cons_none ho] at h; simp at h
  | some y =>
    obtain ⟨v, r1⟩ := y
    rw [takeAll_cons_some ho] at h
    simp only [Option.map_eq_some_iff, Prod.exists, Prod.mk.injEq] at h
    obtain ⟨a, b, h1, rfl, rfl⟩ := h
    cases ho2 : takeOne k2 r1 with
    | none => rw [takeAll_cons_none ho2] at h1; simp at h1
    | some y =>
      obtain ⟨v2, r2⟩ := y
      rw [takeAll_cons_some ho2] at h1
      simp only [takeAll, Option.map_some, Option.some.injEq, Prod.mk.injEq] at h1
      exact ⟨v, v2, by rw [← h1.1]⟩

end Go.Proofs.Ytibmaeckmnkmjaa

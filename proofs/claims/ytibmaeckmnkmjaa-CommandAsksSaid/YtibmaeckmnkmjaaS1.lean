/- Plain words on fields out of bytes: what a list of fields of four kinds takes of bytes. No program in sight. -/
import Derived.Test.YtibmaeckmnkmjaaS0
namespace Go.Proofs.Ytibmaeckmnkmjaa
open Go.RowKit

inductive FK where
  | num | err | tru | txt

def takeOne : FK → ByteArray → Option (Value × ByteArray)
  | .num, s | .err, s => (takeNum s 1099511627776).map fun x => (.int .i64 x.1, x.2)
  | .tru, s => (takeNum s 1).map fun x => (.bool (x.1 == 1), x.2)
  | .txt, s => (takeText s).map fun x => (.string x.1, x.2)

def takeAll : List FK → ByteArray → Option (List Value × ByteArray)
  | [], s => some ([], s)
  | k :: ks, s => match takeOne k s with
    | none => none
    | some (v, r) => match takeAll ks r with
      | none => none
      | some (vs, r') => some (v :: vs, r')

theorem takeText_some {s t r : ByteArray} (h : takeText s = some (t, r)) :
    ∃ (n : Nat) (r1 : ByteArray), takeNum s 262144 = some ((n : Int), r1) ∧ n ≤ r1.size ∧ t = r1.extract 0 n ∧ r = r1.extract n r1.size := by
  unfold takeText at h
  split at h
  · simp at h
  · rename_i n r1 hn
    split at h
    · rename_i hle
      obtain ⟨_, _, h0, _⟩ := takeNum_some hn
      obtain ⟨m, rfl⟩ := Int.eq_ofNat_of_zero_le h0
      simp only [Option.some.injEq, Prod.mk.injEq] at h
      exact ⟨m, r1, hn, by omega, h.1.symm, h.2.symm⟩
    · simp at h

theorem takeText_none {s : ByteArray} (h : takeText s = none) :
    takeNum s 262144 = none ∨ ∃ (n : Nat) (r1 : ByteArray), takeNum s 262144 = some ((n : Int), r1) ∧ r1.size < n := by
  unfold takeText at h
  split at h
  · rename_i hn; exact Or.inl hn
  · rename_i n r1 hn
    split at h
    · simp at h
    · rename_i hle
      obtain ⟨_, _, h0, _⟩ := takeNum_some hn
      obtain ⟨m, rfl⟩ := Int.eq_ofNat_of_zero_le h0
      exact Or.inr ⟨m, r1, hn, by omega⟩

theorem takeText_size {s t r : ByteArray} (h : takeText s = some (t, r)) : r.size < s.size ∧ t.size ≤ s.size := by
  obtain ⟨n, r1, hn, hle, rfl, rfl⟩ := takeText_some h
  have := takeNum_size hn
  constructor
  · rw [size_extract]; omega
  · simp; omega

theorem takeOne_size {k : FK} {s r : ByteArray} {v : Value} (h : takeOne k s = some (v, r)) : r.size < s.size := by
  cases k <;> simp only [takeOne, Option.map_eq_some_iff, Prod.exists, Prod.mk.injEq] at h <;> obtain ⟨a, b, h1, _, rfl⟩ := h
  · exact takeNum_size h1
  · exact takeNum_size h1
  · exact takeNum_size h1
  · exact (takeText_size h1).1

theorem takeAll_cons_none {k : FK} {ks : List FK} {s : ByteArray} (h : takeOne k s = none) : takeAll (k :: ks) s = none := by
  simp only [takeAll, h]

theorem takeAll_cons_some {k : FK} {ks : List FK} {s r : ByteArray} {v : Value} (h : takeOne k s = some (v, r)) :
    takeAll (k :: ks) s = (takeAll ks r).map fun x => (v :: x.1, x.2) := by
  simp only [takeAll, h]
  split <;> simp_all

end Go.Proofs.Ytibmaeckmnkmjaa

/- Plain words on fields as bytes. No program in sight. -/
import Derived.Test.YtibmaeckmnkmjaaB2
namespace Go.Proofs.Ytibmaeckmnkmjaa
open Go.RowKit

inductive PF where
  | num (n : Int)
  | err (n : Int)
  | tru (t : Bool)
  | txt (t : ByteArray)
  | posts (v : Value) (ps : List (ByteArray × ByteArray))

def PF.ty : PF → Nat
  | .num _ => 88
  | .err _ => 83
  | .tru _ => 103
  | .txt _ => 87
  | .posts _ _ => 92

def PF.val : PF → Value
  | .num n => .int .i64 n
  | .err n => .int .i64 n
  | .tru t => .bool t
  | .txt t => .string t
  | .posts v _ => v

def textB (t : ByteArray) : Option (List UInt8) := if t.size ≤ 262144 then some (putV t.size ++ t.data.toList) else none
def pairB (p : ByteArray × ByteArray) : Option (List UInt8) := (textB p.1).bind fun a => (textB p.2).map (a ++ ·)
def allB {α : Type} (f : α → Option (List UInt8)) : List α → Option (List UInt8)
  | [] => some []
  | x :: r => (f x).bind fun a => (allB f r).map (a ++ ·)

def PF.put : PF → Option (List UInt8)
  | .num n => numB n
  | .err n => numB n
  | .tru t => numB (if t then 1 else 0)
  | .txt t => textB t
  | .posts _ ps => if ps.length ≤ 64 then (allB pairB ps).map (putV ps.length ++ ·) else none

def PF.sized : PF → Prop
  | .num n => n ≤ 9223372036854775807
  | .err n => n ≤ 9223372036854775807
  | .tru _ => True
  | .txt t => t.size ≤ 9223372036854775807
  | .posts _ ps => ps.length ≤ 9223372036854775807 ∧ ∀ p ∈ ps, p.1.size ≤ 9223372036854775807 ∧ p.2.size ≤ 9223372036854775807

def PF.isPosts : PF → Prop
  | .posts _ _ => True
  | _ => False

def putAll (fs : List PF) : Option (List UInt8) := allB PF.put fs

theorem allB_some {α : Type} {f : α → Option (List UInt8)} {x : α} {r : List α} {a : List UInt8} (h : f x = some a) : allB f (x :: r) = (allB f r).map (a ++ ·) := by simp [allB, h]
theorem allB_none {α : Type} {f : α → Option (List UInt8)} {x : α} {r : List α} (h : f x = none) : allB f (x :: r) = none := by simp [allB, h]

theorem textB_len {t : ByteArray} {l : List UInt8} (h : textB t = some l) : l.length ≤ 262153 := by
  unfold textB at h
  split at h
  · obtain rfl := Option.some.inj h
    have := putV_nine (n := t.size) (by omega)
    have e : t.data.toList.length = t.size := by rw [Array.length_toList]; rfl
    rw [List.length_append, e]; omega
  · simp at h

/-- A block that a writer of builder b leaves as it is. -/
def safe (B b : Nat) (w : World) (k : Nat) : Prop := k < B ∨ ∃ o, w.heap[k]? = some o ∧ k ≠ b ∧ ∀ c fz, o ≠ .cells c 5 fz

theorem safe.heap {B b k : Nat} {w w' : World} (h : safe B b w k) (hf : Fr B b w w') : w'.heap[k]? = w.heap[k]? := by
  rcases h with h | ⟨o, h1, h2, h3⟩
  · exact hf.1.block k h
  · rw [h1]; exact hf.2 k o h1 (by simpa using h2) h3

theorem safe.fr {B b k : Nat} {w w' : World} (h : safe B b w k) (hf : Fr B b w w') : safe B b w' k := by
  have e := h.heap hf
  rcases h with h | ⟨o, h1, h2, h3⟩
  · exact Or.inl h
  · exact Or.inr ⟨o, e.trans h1, h2, h3⟩

theorem safe.cell {B b : Nat} {w w' : World} {p : Addr} (h : safe B b w p.block) (hf : Fr B b w w') : w'.cell? p = w.cell? p := World.cell?_of_block (h.heap hf)

def HoldsPosts (B b : Nat) (w : World) (v : Value) (ps : List (ByteArray × ByteArray)) : Prop :=
  ∃ o cap, v = .slice o ps.length cap ∧ ∀ i (h : i < ps.length), ∃ pb po, o = some ⟨pb, po, none⟩ ∧ safe B b w pb ∧ w.cell? ⟨pb, po + i * 2, none⟩ = some (.string ps[i].1) ∧ w.cell? ⟨pb, po + i * 2 + 1, none⟩ = some (.string ps[i].2)

theorem HoldsPosts.fr {B b : Nat} {w w' : World} {v : Value} {ps : List (ByteArray × ByteArray)} (h : HoldsPosts B b w v ps) (hf : Fr B b w w') : HoldsPosts B b w' v ps := by
  obtain ⟨o, cap, rfl, hc⟩ := h
  refine ⟨o, cap, rfl, fun i hi => ?_⟩
  obtain ⟨pb, po, ho, hs, c1, c2⟩ := hc i hi
  exact ⟨pb, po, ho, hs.fr hf, (safe.cell (p := ⟨pb, _, none⟩) hs hf).trans c1, (safe.cell (p := ⟨pb, _, none⟩) hs hf).trans c2⟩

structure PutFits (B b : Nat) (fs : List (PF × Addr)) (fb fo : Nat) (w : World) : Prop where
  row : ∀ i (h : i < fs.length), w.cell? ⟨fb, fo + i, none⟩ = some (.iface (fs[i].1.ty) (.pointer (some fs[i].2)))
  cell : ∀ x ∈ fs, w.cell? x.2 = some x.1.val
  safeF : safe B b w fb
  safeC : ∀ x ∈ fs, safe B b w x.2.block
  size : ∀ x ∈ fs, x.1.sized
  posts : ∀ x ∈ fs, ∀ v ps, x.1 = .posts v ps → HoldsPosts B b w v ps

theorem PutFits.fr {B b : Nat} {fs : List (PF × Addr)} {fb fo : Nat} {w w' : World} (h : PutFits B b fs fb fo w) (hf : Fr B b w w') : PutFits B b fs fb fo w' where
  row i hi := (safe.cell (p := ⟨fb, _, none⟩) h.safeF hf).trans (h.row i hi)
  cell x hx := (safe.cell (h.safeC x hx) hf).trans (h.cell x hx)
  safeF := h.safeF.fr hf
  safeC x hx := (h.safeC x hx).fr hf
  size := h.size
  posts x hx v ps e := (h.posts x hx v ps e).fr hf

def PutsPost (B b : Nat) (fs : List (PF × Addr)) (l0 : List UInt8) (w : World) (e : Ending) (w' : World) : Prop :=
  match putAll (fs.map (·.1)) with
  | some l => e = .returned (.tuple #[]) ∧ Lib.IsBuilderF 96 5 B b (Lib.byteCells (l0 ++ l)) w' ∧ Fr B b w w'
  | none => e = .panicked badChain ∧ Fr B b w w'

/-- Behind k fields. -/
structure PutRel (β B b : Nat) (fs : List (PF × Addr)) (l0 : List UInt8) (w : World) (k : Nat) (l : List UInt8) (wr : World) : Prop where
  isb : Lib.IsBuilderF 96 5 B b (Lib.byteCells (l0 ++ l)) wr
  fr : Fr B b w wr
  len : l.length ≤ k * β
  more : putAll (fs.map (·.1)) = (putAll ((fs.drop k).map (·.1))).map (l ++ ·)

theorem isb_size {B b : Nat} {bs : List Value} {w : World} (h : Lib.IsBuilderF 96 5 B b bs w) : B ≤ w.heap.size := by
  rcases h with h | h
  · have := h.lt; have := h.1; omega
  · have := h.lt; have := h.1; omega

theorem isb_ge {B b : Nat} {bs : List Value} {w : World} (h : Lib.IsBuilderF 96 5 B b bs w) : B ≤ b ∧ b < w.heap.size := by
  rcases h with h | h
  · exact ⟨h.1, h.lt⟩
  · exact ⟨h.1, h.lt⟩

theorem drop_map {fs : List (PF × Addr)} {k : Nat} (hk : k < fs.length) : (fs.drop k).map (·.1) = fs[k].1 :: (fs.drop (k + 1)).map (·.1) := by
  rw [List.drop_eq_getElem_cons hk]; rfl

theorem put_next {β B b k : Nat} {fs : List (PF × Addr)} {l0 l a : List UInt8} {w wr w2 : World} (R : PutRel β B b fs l0 w k l wr) (hk : k < fs.length) (ha : fs[k].1.put = some a) (hb : a.length ≤ β)
    (hi : Lib.IsBuilderF 96 5 B b (Lib.byteCells ((l0 ++ l) ++ a)) w2) (hf : Fr B b wr w2) : PutRel β B b fs l0 w (k + 1) (l ++ a) w2 where
  isb := by rw [← List.append_assoc]; exact hi
  fr := R.fr.trans hf
  len := by have := R.len; rw [List.length_append, Nat.add_mul]; omega
  more := by
    rw [R.more, drop_map hk]
    unfold putAll
    rw [allB_some ha, Option.map_map]
    congr 1; funext x; simp

theorem put_fail {β B b k : Nat} {fs : List (PF × Addr)} {l0 l : List UInt8} {w wr w2 : World} (R : PutRel β B b fs l0 w k l wr) (hk : k < fs.length) (ha : fs[k].1.put = none) (hf : Fr B b wr w2) : PutsPost B b fs l0 w (.panicked badChain) w2 := by
  have e : putAll (fs.map (·.1)) = none := by
    rw [R.more, drop_map hk]
    unfold putAll
    rw [allB_none ha]; rfl
  unfold PutsPost
  rw [e]
  exact ⟨rfl, R.fr.trans hf⟩

theorem put_done {β B b k : Nat} {fs : List (PF × Addr)} {l0 l : List UInt8} {w wr : World} (R : PutRel β B b fs l0 w k l wr) (hk : fs.length ≤ k) : PutsPost B b fs l0 w (.returned (.tuple #[])) wr := by
  have e : putAll (fs.map (·.1)) = some l := by
    rw [R.more, List.drop_eq_nil_of_le hk]; simp [putAll, allB]
  unfold PutsPost
  rw [e]
  exact ⟨rfl, R.isb, R.fr⟩

/-- Of a list of posts, behind m of them. -/
structure PostRel (B b : Nat) (ps : List (ByteArray × ByteArray)) (l1 : List UInt8) (w : World) (m : Nat) (l : List UInt8) (wr : World) : Prop where
  isb : Lib.IsBuilderF 96 5 B b (Lib.byteCells (l1 ++ l)) wr
  fr : Fr B b w wr
  len : l.length ≤ 9 + m * 600000
  more : (allB pairB ps).map (putV ps.length ++ ·) = (allB pairB (ps.drop m)).map (l ++ ·)

theorem PF.put_posts {v : Value} {ps : List (ByteArray × ByteArray)} (h : ps.length ≤ 64) : (PF.posts v ps).put = (allB pairB ps).map (putV ps.length ++ ·) := by simp [PF.put, h]

theorem PostRel.first {B b : Nat} {ps : List (ByteArray × ByteArray)} {l1 : List UInt8} {w wr : World} (h : ps.length ≤ 64) (hi : Lib.IsBuilderF 96 5 B b (Lib.byteCells (l1 ++ putV ps.length)) wr) (hf : Fr B b w wr) :
    PostRel B b ps l1 w 0 (putV ps.length) wr := ⟨hi, hf, by have := putV_nine (n := ps.length) (by omega); omega, by simp⟩

theorem pair_put {t1 t2 : ByteArray} : putAll [.txt t1, .txt t2] = pairB (t1, t2) := by
  simp only [putAll, allB, PF.put, pairB]
  cases textB t1 <;> cases textB t2 <;> simp

theorem pairB_len {p : ByteArray × ByteArray} {l : List UInt8} (h : pairB p = some l) : l.length ≤ 600000 := by
  unfold pairB at h
  simp only [Option.bind_eq_some_iff, Option.map_eq_some_iff] at h
  obtain ⟨a, h1, c, h2, rfl⟩ := h
  have := textB_len h1; have := textB_len h2
  rw [List.length_append]; omega

theorem PostRel.next {B b m : Nat} {ps : List (ByteArray × ByteArray)} {l1 l a : List UInt8} {w wr w2 : World} (R : PostRel B b ps l1 w m l wr) (hm : m < ps.length) (ha : pairB ps[m] = some a)
    (hi : Lib.IsBuilderF 96 5 B b (Lib.byteCells ((l1 ++ l) ++ a)) w2) (hf : Fr B b wr w2) : PostRel B b ps l1 w (m + 1) (l ++ a) w2 where
  isb := by rw [← List.append_assoc]; exact hi
  fr := R.fr.trans hf
  len := by have := R.len; have := pairB_len ha; rw [List.length_append, Nat.add_mul]; omega
  more := by
    rw [R.more, List.drop_eq_getElem_cons hm, allB_some ha, Option.map_map]
    congr 1; funext x; simp

theorem PostRel.none {B b m : Nat} {ps : List (ByteArray × ByteArray)} {l1 l : List UInt8} {w wr : World} {v : Value} (R : PostRel B b ps l1 w m l wr) (h64 : ps.length ≤ 64) (hm : m < ps.length) (ha : pairB ps[m] = none) : (PF.posts v ps).put = none := by
  rw [PF.put_posts h64, R.more, List.drop_eq_getElem_cons hm, allB_none ha]; rfl

theorem PostRel.all {B b m : Nat} {ps : List (ByteArray × ByteArray)} {l1 l : List UInt8} {w wr : World} {v : Value} (R : PostRel B b ps l1 w m l wr) (h64 : ps.length ≤ 64) (hm : ps.length ≤ m) : (PF.posts v ps).put = some l := by
  rw [PF.put_posts h64, R.more, List.drop_eq_nil_of_le hm]; simp [allB]
end Go.Proofs.Ytibmaeckmnkmjaa

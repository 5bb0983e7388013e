/- Small laws on stores into cells: two stores, stores one behind the other ('puts'). No program in sight. -/
import Derived.WalkKit
import Derived.WalkSpells
import Derived.WalkLawsBesides
import Derived.Lib.Hide
import Derived.Deep.Draws
namespace Go.Proofs.Ytibmaeckmnkmjaa
open Go.RowKit

/-- What a store does to a block. -/
def updO (a : Addr) (v : Value) : Obj → Obj
  | .cells c elem frozen => .cells (if a.spot.isSome then c else c.setIfInBounds a.off v) elem frozen
  | o => o

theorem setCell_upd (w : World) (a : Addr) (v : Value) : w.setCell a v = { w with heap := w.heap.modify a.block (updO a v) } := rfl

theorem set_comm (c : Array Value) (i j : Nat) (u v : Value) (h : i ≠ j) : (c.setIfInBounds i u).setIfInBounds j v = (c.setIfInBounds j v).setIfInBounds i u := by
  apply Array.ext_getElem?
  intro k
  simp only [Array.getElem?_setIfInBounds, Array.size_setIfInBounds]
  by_cases h1 : i = k
  · by_cases h2 : j = k
    · exact absurd (h1.trans h2.symm) h
    · rw [if_neg h2, if_pos h1, if_pos h1]
  · rw [if_neg h1, if_neg h1]

theorem updO_comm (a b : Addr) (u v : Value) (hb : a.block = b.block) (h : a ≠ b) (o : Obj) : updO b v (updO a u o) = updO a u (updO b v o) := by
  cases o with
  | cells c e f =>
    obtain ⟨ab, ao, as_⟩ := a
    obtain ⟨bb, bo, bs⟩ := b
    cases as_ with
    | some _ => cases bs <;> rfl
    | none =>
      cases bs with
      | some _ => rfl
      | none =>
        have ho : ao ≠ bo := fun e => h (by simp only at hb; rw [hb, e])
        simp only [updO, Option.isSome_none, Bool.false_eq_true, if_false]
        rw [set_comm _ _ _ _ _ ho]
  | _ => rfl

theorem updO_again (a : Addr) (u v : Value) (o : Obj) : updO a v (updO a u o) = updO a v o := by
  cases o with
  | cells c e f =>
    obtain ⟨ab, ao, as_⟩ := a
    cases as_ with
    | some _ => rfl
    | none => simp [updO]
  | _ => rfl

theorem modify_modify (h : Array Obj) (i : Nat) (f g : Obj → Obj) : (h.modify i f).modify i g = h.modify i (fun o => g (f o)) := by
  apply Array.ext
  · simp
  · intro k _ _
    simp only [Array.getElem_modify]
    split <;> rfl

theorem modify_comm (h : Array Obj) (i j : Nat) (f g : Obj → Obj) (hne : i ≠ j) : (h.modify i f).modify j g = (h.modify j g).modify i f := by
  apply Array.ext
  · simp
  · intro k _ _
    simp only [Array.getElem_modify]
    by_cases h1 : i = k
    · by_cases h2 : j = k
      · exact absurd (h1.trans h2.symm) hne
      · rw [if_neg h2, if_pos h1, if_pos h1, if_neg h2]
    · rw [if_neg h1, if_neg h1]

theorem setCell_comm (w : World) (a b : Addr) (u v : Value) (h : a ≠ b) : (w.setCell a u).setCell b v = (w.setCell b v).setCell a u := by
  simp only [setCell_upd]
  congr 1
  by_cases hb : a.block = b.block
  · rw [hb, modify_modify, modify_modify]
    congr 1; funext o; exact updO_comm a b u v hb h o
  · exact modify_comm _ _ _ _ _ hb

theorem setCell_again (w : World) (a : Addr) (u v : Value) : (w.setCell a u).setCell a v = w.setCell a v := by
  simp only [setCell_upd]
  congr 1
  rw [modify_modify]
  congr 1; funext o; exact updO_again a u v o

theorem setCell_held (w : World) (a : Addr) (v : Value) (h : w.cell? a = some v) : w.setCell a v = w := by
  have e : w.heap.modify a.block (updO a v) = w.heap := by
    apply Array.ext
    · simp
    · intro i h1 h2
      simp only [Array.getElem_modify]
      by_cases ha : a.block = i
      · subst ha
        rw [if_pos rfl]
        unfold World.cell? at h
        rw [Array.getElem?_eq_getElem h2] at h
        generalize w.heap[a.block] = o at h
        obtain ⟨ab, ao, as_⟩ := a
        cases o with
        | cells c e f =>
          cases as_ with
          | some _ => rfl
          | none =>
            simp only [Option.isSome_none, Bool.false_eq_true, if_false] at h
            simp only [updO, Option.isSome_none, Bool.false_eq_true, if_false]
            congr 1
            apply Array.ext_getElem?
            intro j
            simp only [Array.getElem?_setIfInBounds]
            by_cases hj : ao = j
            · subst hj
              have hlt : ao < c.size := by
                rcases Nat.lt_or_ge ao c.size with h' | h'
                · exact h'
                · rw [Array.getElem?_eq_none h'] at h; simp at h
              rw [if_pos rfl, if_pos hlt, h]
            · rw [if_neg hj]
        | _ => rfl
      · rw [if_neg ha]
  rw [setCell_upd, e]

/-- Stores one behind the other. -/
def puts (w : World) : List (Addr × Value) → World
  | [] => w
  | (a, v) :: l => puts (w.setCell a v) l

theorem puts_snoc (l : List (Addr × Value)) : ∀ (w : World) (a : Addr) (v : Value), puts w (l ++ [(a, v)]) = (puts w l).setCell a v := by
  induction l with
  | nil => intro w a v; rfl
  | cons x l ih => intro w a v; exact ih _ a v

theorem puts_setCell (l : List (Addr × Value)) : ∀ (w : World) (a : Addr) (v : Value), (∀ x ∈ l, x.1 ≠ a) → (puts w l).setCell a v = puts (w.setCell a v) l := by
  induction l with
  | nil => intro w a v _; rfl
  | cons x l ih =>
    intro w a v h
    show (puts (w.setCell x.1 x.2) l).setCell a v = puts ((w.setCell a v).setCell x.1 x.2) l
    rw [ih _ a v (fun y hy => h y (List.mem_cons_of_mem _ hy)), setCell_comm _ _ _ _ _ (h x (List.mem_cons_self ..))]

theorem puts_cell_out (l : List (Addr × Value)) : ∀ (w : World) (a : Addr), (∀ x ∈ l, x.1 ≠ a) → (puts w l).cell? a = w.cell? a := by
  induction l with
  | nil => intro w a _; rfl
  | cons x l ih =>
    intro w a h
    show (puts (w.setCell x.1 x.2) l).cell? a = _
    rw [ih _ a (fun y hy => h y (List.mem_cons_of_mem _ hy)), World.cell?_setCell_other _ _ _ _ (h x (List.mem_cons_self ..))]

theorem puts_frozen (l : List (Addr × Value)) : ∀ (w : World) (a : Addr), (puts w l).frozen? a = w.frozen? a := by
  induction l with
  | nil => intro w a; rfl
  | cons x l ih =>
    intro w a
    show (puts (w.setCell x.1 x.2) l).frozen? a = _
    rw [ih]; simp

theorem puts_size (l : List (Addr × Value)) : ∀ (w : World), (puts w l).heap.size = w.heap.size := by
  induction l with
  | nil => intro w; rfl
  | cons x l ih =>
    intro w
    show (puts (w.setCell x.1 x.2) l).heap.size = _
    rw [ih]; simp

theorem puts_block (l : List (Addr × Value)) : ∀ (w : World) (b : Nat), (∀ x ∈ l, x.1.block ≠ b) → (puts w l).heap[b]? = w.heap[b]? := by
  induction l with
  | nil => intro w b _; rfl
  | cons x l ih =>
    intro w b h
    show (puts (w.setCell x.1 x.2) l).heap[b]? = _
    rw [ih _ b (fun y hy => h y (List.mem_cons_of_mem _ hy)), Below.heap_setCell _ _ _ _ (fun e => h x (List.mem_cons_self ..) e.symm)]

theorem puts_below (l : List (Addr × Value)) (B : Nat) : ∀ (w0 w : World), (∀ x ∈ l, B ≤ x.1.block) → Below B w0 w → Below B w0 (puts w l) := by
  induction l with
  | nil => intro w0 w _ h; exact h
  | cons x l ih =>
    intro w0 w h hb
    exact ih w0 _ (fun y hy => h y (List.mem_cons_of_mem _ hy)) (hb.setCell (h x (List.mem_cons_self ..)) _)

/-- Nothing that was there has turned, but in some blocks. -/
structure KeptBut (w w' : World) (S : Nat → Prop) : Prop where
  os : w'.os = w.os
  tape : w'.tape = w.tape
  output : w'.output = w.output
  size : w.heap.size ≤ w'.heap.size
  block : ∀ k, k < w.heap.size → ¬ S k → w'.heap[k]? = w.heap[k]?

theorem KeptBut.refl (w : World) (S : Nat → Prop) : KeptBut w w S := ⟨rfl, rfl, rfl, Nat.le_refl _, fun _ _ _ => rfl⟩
theorem KeptBut.trans {a b c : World} {S : Nat → Prop} (h : KeptBut a b S) (k : KeptBut b c S) : KeptBut a c S :=
  ⟨k.os.trans h.os, k.tape.trans h.tape, k.output.trans h.output, Nat.le_trans h.size k.size, fun i hi hs => (k.block i (Nat.lt_of_lt_of_le hi h.size) hs).trans (h.block i hi hs)⟩
theorem KeptBut.of_below {a b : World} {S : Nat → Prop} (h : Below a.heap.size a b) : KeptBut a b S := ⟨h.os, h.tape, h.output, h.size, fun k hk _ => h.block k hk⟩
theorem KeptBut.setCell (w : World) {S : Nat → Prop} (p : Addr) (v : Value) (h : S p.block) : KeptBut w (w.setCell p v) S :=
  ⟨rfl, rfl, rfl, by simp, fun k _ hs => Below.heap_setCell _ _ _ _ (fun e => hs (e ▸ h))⟩
theorem KeptBut.mono {a b : World} {S S' : Nat → Prop} (h : KeptBut a b S) (hs : ∀ k, k < a.heap.size → S k → S' k) : KeptBut a b S' :=
  ⟨h.os, h.tape, h.output, h.size, fun k hk hn => h.block k hk (fun e => hn (hs k hk e))⟩
theorem KeptBut.below {a b : World} {S : Nat → Prop} (h : KeptBut a b S) {B : Nat} (hB : B ≤ a.heap.size) (hs : ∀ k, k < B → ¬ S k) : Below B a b :=
  ⟨h.os, h.tape, h.output, h.size, fun k hk => h.block k (by omega) (hs k hk)⟩
theorem KeptBut.cell {a b : World} {S : Nat → Prop} (h : KeptBut a b S) {p : Addr} (hp : p.block < a.heap.size) (hs : ¬ S p.block) : b.cell? p = a.cell? p := World.cell?_of_block (h.block _ hp hs)
theorem KeptBut.frozen {a b : World} {S : Nat → Prop} (h : KeptBut a b S) {p : Addr} (hp : p.block < a.heap.size) (hs : ¬ S p.block) : b.frozen? p = a.frozen? p := World.frozen?_of_block (h.block _ hp hs)
theorem KeptBut.alloc (w : World) (S : Nat → Prop) (o : Obj) : KeptBut w (w.alloc o) S := .of_below ((Below.refl _ _).alloc (Nat.le_refl _) o)
theorem KeptBut.drewN {a b : World} {S : Nat → Prop} (h : KeptBut a b S) (n : Nat) : KeptBut a (b.drewN n) S := ⟨h.os, h.tape, h.output, h.size, h.block⟩

theorem puts_kept (l : List (Addr × Value)) (S : Nat → Prop) : ∀ (w : World), (∀ x ∈ l, S x.1.block) → KeptBut w (puts w l) S := by
  induction l with
  | nil => intro w _; exact .refl _ _
  | cons x l ih =>
    intro w h
    exact (KeptBut.setCell w x.1 x.2 (h x (List.mem_cons_self ..))).trans (ih _ (fun y hy => h y (List.mem_cons_of_mem _ hy)))

theorem below_setCell_both {B : Nat} {a b : World} (h : Below B a b) (p : Addr) (v : Value) : Below B (a.setCell p v) (b.setCell p v) := by
  refine ⟨h.os, h.tape, h.output, by simpa using h.size, fun k hk => ?_⟩
  by_cases hp : k = p.block
  · subst hp
    simp only [setCell_upd, Array.getElem?_modify, if_true]
    rw [h.block _ hk]
  · rw [Below.heap_setCell _ _ _ _ hp, Below.heap_setCell _ _ _ _ hp, h.block _ hk]

theorem below_puts_both (l : List (Addr × Value)) (B : Nat) : ∀ (a b : World), Below B a b → Below B (puts a l) (puts b l) := by
  induction l with
  | nil => intro a b h; exact h
  | cons x l ih => intro a b h; exact ih _ _ (below_setCell_both h x.1 x.2)

end Go.Proofs.Ytibmaeckmnkmjaa

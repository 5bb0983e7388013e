/- What stays true of a world, whatever is made behind it: a small device for walks with many calls that make memory. -/
import Derived.Test.YtibmaeckmnkmjaaC4
namespace Go.Proofs.Ytibmaeckmnkmjaa
open Go.RowKit

/-- It holds here, and in each world that comes of this one by making memory alone. -/
def Ever (W : World) (p : World → Prop) : Prop := ∀ W', Below W.heap.size W W' → p W'

theorem Ever.now {W : World} {p : World → Prop} (h : Ever W p) : p W := h W (Below.refl _ _)
theorem Ever.later {W W' : World} {p : World → Prop} (h : Ever W p) (hb : Below W.heap.size W W') : Ever W' p :=
  fun W2 h2 => h W2 (hb.trans (h2.mono hb.size))
theorem Ever.and {W : World} {p q : World → Prop} (h : Ever W p) (k : Ever W q) : Ever W fun W => p W ∧ q W := fun W' hb => ⟨h W' hb, k W' hb⟩
theorem Ever.start (w : World) : Ever w (Below w.heap.size w) := fun _ h => h
theorem Ever.block {W : World} {n : Nat} {o : Obj} (h : W.heap[n]? = some o) : Ever W fun W => W.heap[n]? = some o := fun _ hb =>
  (hb.block n (Array.getElem?_eq_some_iff.1 h).1).trans h
theorem Ever.own {W : World} {B n : Nat} {e : TypeId} {z : Nat} {v : Value} {xs : List Value} (h : W.ownsRow B e z v n xs) : Ever W fun W => W.ownsRow B e z v n xs := fun _ hb =>
  h.kept (row := none) ⟨hb.os, hb.tape, hb.output, hb.size, fun k hk _ => hb.block k hk⟩ (by cases hv : v.ownBlock <;> simp)
theorem Ever.size (W : World) : Ever W fun W' => W.heap.size ≤ W'.heap.size := fun _ hb => hb.size

/-- Two new blocks, both written. -/
theorem two_laid (w : World) (z1 z2 c1 c2 : Array Value) (t1 t2 : TypeId) (n : Nat) (hn : w.heap.size = n) {W : World}
    (hW : (((w.alloc (.cells z1 t1)).alloc (.cells z2 t2)).setRow n c1).setRow (n + 1) c2 = W) :
    W.heap[n]? = some (.cells c1 t1) ∧ W.heap[n + 1]? = some (.cells c2 t2) ∧ Below n w W ∧ W.heap.size = n + 2 := by
  subst hn
  subst hW
  have e1 : ((w.alloc (.cells z1 t1)).alloc (.cells z2 t2)).heap[w.heap.size]? = some (.cells z1 t1) := heap_last2 w _ _ _ rfl
  have e2 : ((w.alloc (.cells z1 t1)).alloc (.cells z2 t2)).heap[w.heap.size + 1]? = some (.cells z2 t2) := heap_last _ _ _ (by simp)
  refine ⟨?_, ?_, ?_, by simp⟩
  · rw [setRow_other _ _ _ _ (by omega)]; exact setRow_heap _ _ _ _ _ _ e1
  · exact setRow_heap _ _ _ _ _ _ ((setRow_other _ _ _ _ (by omega)).trans e2)
  · exact below_setRow (below_setRow (((Below.refl _ _).alloc (Nat.le_refl _) _).alloc (by simp) _) (Nat.le_refl _) _) (by omega) _

theorem two_ever {w : World} {p : World → Prop} {z1 z2 c1 c2 : Array Value} {t1 t2 : TypeId} {n : Nat} (hn : w.heap.size = n) {W : World}
    (hW : (((w.alloc (.cells z1 t1)).alloc (.cells z2 t2)).setRow n c1).setRow (n + 1) c2 = W) (hp : Ever w p) :
    Ever W fun W => p W ∧ W.heap[n]? = some (.cells c1 t1) ∧ W.heap[n + 1]? = some (.cells c2 t2) := by
  obtain ⟨h1, h2, h3, _⟩ := two_laid w z1 z2 c1 c2 t1 t2 n hn hW
  subst hn
  exact (hp.later h3).and ((Ever.block h1).and (Ever.block h2))

/-- The second of two stores into new blocks. -/
theorem wpList_two {P : Program} {ops : Array Oper} {rest : List Oper} {o : Oper} {a : Act} {w : World} {Q : Exit → Act → World → Prop} {p : World → Prop} {z1 z2 c1 : Array Value} {t1 t2 : TypeId} {n : Nat}
    (hgd : o.guard = none) (ty : TypeId) (x y : Operand) (ho : o.op = .store ty x y) (c2 : Array Value) (hn : w.heap.size = n) (hx : a.eval x = .pointer (some ⟨n + 1, 0, none⟩)) (hy : a.eval y = .agg c2)
    (hi : (P.info? ty).map (·.size) = some c2.size) (hold : z2.size = c2.size) (h1 : c2.all (·.oneCell') = true) (hp : Ever w p)
    (h : ∀ W, Hid (Ever W fun W => p W ∧ W.heap[n]? = some (.cells c1 t1) ∧ W.heap[n + 1]? = some (.cells c2 t2)) → wpList P ops Q rest (a.put o.dst undef) W) :
    wpList P ops Q (o :: rest) a (((w.alloc (.cells z1 t1)).alloc (.cells z2 t2)).setRow n c1) := by
  refine wpList_store_row hgd ty x y ho (n + 1) c2 hx hy t2 z2 ?_ hi hold h1 (h _ (Lib.hid (two_ever hn rfl hp)))
  rw [setRow_other _ _ _ _ (by omega)]; exact heap_last _ _ _ (by simp [hn])

/-- Is this the operation that writes slot n? -/
theorem wpList_sel (n : Nat) {P : Program} {ops : Array Oper} {rest : List Oper} {op : Op} {ty : TypeId} {pos : String} {after : Array Edge} {guard : Option (Nat × Bool)} {a : Act} {w : World} {Q : Exit → Act → World → Prop}
    (h : wpList P ops Q (⟨some n, op, ty, pos, after, guard⟩ :: rest) a w) : wpList P ops Q (⟨some n, op, ty, pos, after, guard⟩ :: rest) a w := h
/-- Is this the store through slot n? -/
theorem wpList_selS (n : Nat) {P : Program} {ops : Array Oper} {rest : List Oper} {t : TypeId} {y : Operand} {ty : TypeId} {pos : String} {after : Array Edge} {guard : Option (Nat × Bool)} {a : Act} {w : World} {Q : Exit → Act → World → Prop}
    (h : wpList P ops Q (⟨none, .store t (.tmp n) y, ty, pos, after, guard⟩ :: rest) a w) : wpList P ops Q (⟨none, .store t (.tmp n) y, ty, pos, after, guard⟩ :: rest) a w := h
end Go.Proofs.Ytibmaeckmnkmjaa

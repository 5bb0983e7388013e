/- 'takes' of the program's package command, over two fields in new memory. -/
import Derived.Test.YtibmaeckmnkmjaaK3
import Derived.Test.YtibmaeckmnkmjaaS2
namespace Go.Proofs.Ytibmaeckmnkmjaa
open Go.RowKit

theorem setCell_alloc_old (w : World) (o : Obj) (a : Addr) (v : Value) (h : a.block < w.heap.size) : (w.alloc o).setCell a v = (w.setCell a v).alloc o := by
  unfold World.alloc
  simp only [setCell_upd]
  congr 1
  apply Array.ext_getElem?
  intro i
  simp only [Array.getElem?_modify, Array.getElem?_push, Array.size_modify]
  by_cases h1 : i = w.heap.size
  · have h2 : ¬ a.block = i := by omega
    rw [if_neg h2, if_pos h1, if_pos h1]
  · rw [if_neg h1, if_neg h1]

theorem setCell_alloc_at' (w : World) (c : Array Value) (t : TypeId) (i : Nat) (v : Value) : (w.alloc (.cells c t)).setCell ⟨w.heap.size, i, none⟩ v = w.alloc (.cells (c.setIfInBounds i v) t) :=
  World.setCell_alloc_at c t w.heap.size i v rfl

def pairW (wr : World) (k1 k2 : FK) (ty : TypeId) (z1 z2 : Value) : World :=
  (wr.alloc (.cells #[z1, z2] ty)).alloc (.cells #[.iface k1.ty (.pointer (some ⟨wr.heap.size, 0, none⟩)), .iface k2.ty (.pointer (some ⟨wr.heap.size, 1, none⟩))] 20)

theorem takes_pair (sa : Addr) (r : ByteArray) (wr : World) (k1 k2 : FK) (ty : TypeId) (z1 z2 : Value) (cap : Nat) (hr : r.size ≤ maxLen) (hc : wr.cell? sa = some (.string r)) (hf : wr.frozen? sa = false) :
    Calls Try.prog 41 #[.pointer (some sa), .slice (some ⟨wr.heap.size + 1, 0, none⟩) 2 cap] (pairW wr k1 k2 ty z1 z2) fun e w' =>
      match takeAll [k1, k2] r with
      | none => e = .panicked badChain ∧ KeptBut wr w' (· = sa.block)
      | some (vs, r') => e = .returned (.tuple #[]) ∧ ∃ nd, w' = (((wr.setCell sa (.string r')).alloc (.cells vs.toArray ty)).alloc (.cells #[.iface k1.ty (.pointer (some ⟨wr.heap.size, 0, none⟩)), .iface k2.ty (.pointer (some ⟨wr.heap.size, 1, none⟩))] 20)).drewN nd := by
  have hb := World.block_lt_of_cell? _ _ hc
  have hs1 : (wr.alloc (.cells #[z1, z2] ty)).heap.size = wr.heap.size + 1 := by simp
  have hne : sa.block ≠ wr.heap.size := by omega
  have H : Fits sa [(k1, ⟨wr.heap.size, 0, none⟩), (k2, ⟨wr.heap.size, 1, none⟩)] r (wr.heap.size + 1) 0 (pairW wr k1 k2 ty z1 z2) := by
    constructor
    · unfold pairW
      rw [World.cell?_alloc_lt _ _ _ (by rw [hs1]; omega), World.cell?_alloc_lt _ _ _ hb]; exact hc
    · unfold pairW
      rw [World.frozen?_alloc_old _ _ _ (by rw [hs1]; omega), World.frozen?_alloc_old _ _ _ (by omega)]; exact hf
    · intro i h
      unfold pairW
      rw [← hs1]
      match i, h with
      | 0, _ => simp
      | 1, _ => simp
      | n + 2, h => simp at h; omega
    · intro x hx
      unfold pairW
      simp only [List.mem_cons, List.not_mem_nil, or_false] at hx
      rcases hx with rfl | rfl
      · exact ⟨z1, by rw [World.cell?_alloc_lt _ _ _ (by rw [hs1]; simp)]; simp⟩
      · exact ⟨z2, by rw [World.cell?_alloc_lt _ _ _ (by rw [hs1]; simp)]; simp⟩
    · intro x hx
      unfold pairW
      simp only [List.mem_cons, List.not_mem_nil, or_false] at hx
      rcases hx with rfl | rfl
      · rw [World.frozen?_alloc_old _ _ _ (by rw [hs1]; simp)]; simp
      · rw [World.frozen?_alloc_old _ _ _ (by rw [hs1]; simp)]; simp
    · omega
    · intro x hx
      simp only [List.mem_cons, List.not_mem_nil, or_false] at hx
      rcases hx with rfl | rfl
      · exact ⟨fun e => hne (by rw [← e]), by simp⟩
      · exact ⟨fun e => hne (by rw [← e]), by simp⟩
  refine (takes_flat sa r (wr.heap.size + 1) 0 cap _ _ hr (by simp) H).mono ?_
  intro e w' h
  unfold TakesPost at h
  simp only [List.map_cons, List.map_nil] at h
  cases ht : takeAll [k1, k2] r with
  | none =>
    rw [ht] at h
    obtain ⟨rfl, l, nd, hl, rfl⟩ := h
    refine ⟨rfl, ?_⟩
    have h3 : KeptBut wr (pairW wr k1 k2 ty z1 z2) (· = sa.block) := (KeptBut.alloc _ _ _).trans (KeptBut.alloc _ _ _)
    have h4 : KeptBut (pairW wr k1 k2 ty z1 z2) (puts (pairW wr k1 k2 ty z1 z2) l) (fun b => b = sa.block ∨ b = wr.heap.size) := by
      refine puts_kept l _ _ fun x hx => ?_
      rcases hl x hx with e | ⟨y, hy, e⟩
      · exact Or.inl (by rw [e])
      · simp only [List.mem_cons, List.not_mem_nil, or_false] at hy
        rcases hy with rfl | rfl <;> exact Or.inr (by rw [e])
    refine ⟨h4.os.trans h3.os, h4.tape.trans h3.tape, h4.output.trans h3.output, Nat.le_trans h3.size h4.size, fun k hk hn => ?_⟩
    exact (h4.block k (Nat.lt_of_lt_of_le hk h3.size) (fun e => by rcases e with e | e; exact hn e; omega)).trans (h3.block k hk hn)
  | some y =>
    obtain ⟨vs, r'⟩ := y
    rw [ht] at h
    obtain ⟨rfl, nd, rfl⟩ := h
    obtain ⟨v1, v2, rfl⟩ := takeAll_two ht
    refine ⟨rfl, nd, ?_⟩
    congr 1
    simp only [List.zip_cons_cons, List.zip_nil_right, puts, pairW]
    rw [setCell_alloc_old _ _ sa _ (by rw [hs1]; omega), setCell_alloc_old _ _ sa _ hb]
    have hs2 : wr.heap.size = (wr.setCell sa (.string r')).heap.size := by simp
    rw [setCell_alloc_old _ _ ⟨wr.heap.size, 0, none⟩ _ (by simp), setCell_alloc_old _ _ ⟨wr.heap.size, 1, none⟩ _ (by simp)]
    rw [hs2, setCell_alloc_at', setCell_alloc_at']
    rfl
end Go.Proofs.Ytibmaeckmnkmjaa

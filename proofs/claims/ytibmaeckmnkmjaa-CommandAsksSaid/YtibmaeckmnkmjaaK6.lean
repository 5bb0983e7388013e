/- 'takes' of the program's package command: lists of entries and posts, row by row. -/
import Derived.Test.YtibmaeckmnkmjaaK5
import Derived.Deep.RegionLaw
namespace Go.Proofs.Ytibmaeckmnkmjaa
open Go.RowKit

structure RowRel (sa ad : Addr) (ks : List FK) (ety : TypeId) (n : Nat) (r1 : ByteArray) (w1 : World) (m : Nat) (r2 : ByteArray) (u : Value) (cs : List Value) (wr : World) : Prop where
  size : r2.size ≤ r1.size
  below : Below w1.heap.size ((w1.setCell sa (.string r2)).setCell ad u) wr
  own : wr.ownsRow w1.heap.size ety 2 u m cs
  more : takeRow ks n r1 = (takeRow ks (n - m) r2).map fun x => (cs ++ x.1, x.2)

structure RowFits (sa ad : Addr) (r1 : ByteArray) (w1 : World) : Prop where
  c : w1.cell? sa = some (.string r1)
  f : w1.frozen? sa = false
  d : w1.cell? ad = some (.slice none 0 0)
  fd : w1.frozen? ad = false
  ne : ad ≠ sa

theorem rowrel_start {sa ad : Addr} {ks : List FK} {ety : TypeId} {n : Nat} {r1 : ByteArray} {w1 : World} (F : RowFits sa ad r1 w1) :
    RowRel sa ad ks ety n r1 w1 0 r1 (.slice none 0 0) [] w1 := by
  refine ⟨Nat.le_refl _, ?_, ⟨rfl, Or.inl ⟨rfl, rfl⟩⟩, by simp⟩
  rw [setCell_held w1 sa _ F.c, setCell_held w1 ad _ F.d]
  exact Below.refl _ _

theorem rowrel_facts {sa ad : Addr} {ks : List FK} {ety : TypeId} {n m : Nat} {r1 r2 : ByteArray} {w1 wr : World} {u : Value} {cs : List Value} (F : RowFits sa ad r1 w1)
    (T : RowRel sa ad ks ety n r1 w1 m r2 u cs wr) :
    wr.cell? sa = some (.string r2) ∧ wr.frozen? sa = false ∧ wr.cell? ad = some u ∧ wr.frozen? ad = false ∧ w1.heap.size ≤ wr.heap.size ∧ sa.block < w1.heap.size ∧ ad.block < w1.heap.size := by
  have h1 := World.block_lt_of_cell? _ _ F.c
  have h2 := World.block_lt_of_cell? _ _ F.d
  have hs := T.below.size
  simp only [World.size_setCell] at hs
  refine ⟨?_, ?_, ?_, ?_, hs, h1, h2⟩
  · rw [T.below.cell h1, World.cell?_setCell_other _ _ _ _ F.ne, World.cell?_setCell_same _ _ _ F.c]
  · rw [T.below.frozen h1]; simpa using F.f
  · rw [T.below.cell h2]
    obtain ⟨v', hv⟩ := cell?_setCell_some (p := sa) (x := .string r2) F.d
    exact World.cell?_setCell_same _ _ _ hv
  · rw [T.below.frozen h2]; simpa using F.fd

theorem own_ge {w : World} {B : Nat} {e : TypeId} {size : Nat} {v : Value} {n : Nat} {xs : List Value} (h : w.ownsRow B e size v n xs) : ∀ k, some k = v.ownBlock → B ≤ k := by
  intro k hk
  rcases h.2 with ⟨rfl, _⟩ | ⟨g, cap, cur, rfl, hg, _⟩
  · simp [Value.ownBlock] at hk
  · simp only [Value.ownBlock, Option.some.injEq] at hk; omega

theorem rowrel_next {sa ad : Addr} {ks : List FK} {ety : TypeId} {n m : Nat} {r1 r2 r3 : ByteArray} {w1 wr W2 w3 : World} {u u' : Value} {cs vs : List Value} (F : RowFits sa ad r1 w1)
    (T : RowRel sa ad ks ety n r1 w1 m r2 u cs wr) (hm : m < n) (ht : takeAll ks r2 = some (vs, r3)) (hW : Below wr.heap.size (wr.setCell sa (.string r3)) W2) (hg : W2.grownBy w3 u.ownBlock)
    (ho : w3.ownsRow w1.heap.size ety 2 u' (m + 1) (cs ++ vs)) : RowRel sa ad ks ety n r1 w1 (m + 1) r3 u' (cs ++ vs) (w3.setCell ad u') := by
  obtain ⟨_, _, _, _, hs, h1, h2⟩ := rowrel_facts F T
  refine ⟨Nat.le_trans (takeAll_size _ ht) T.size, ?_, ownsRow_setCell_below ho h2 _, ?_⟩
  · have e1 := below_setCell_both (below_setCell_both T.below sa (.string r3)) ad u'
    have e2 : ((((w1.setCell sa (.string r2)).setCell ad u).setCell sa (.string r3)).setCell ad u') = (w1.setCell sa (.string r3)).setCell ad u' := by
      rw [setCell_comm _ ad sa _ _ F.ne, setCell_again, setCell_again]
    rw [e2] at e1
    refine e1.trans (below_setCell_both ?_ ad u')
    have e3 : W2.heap.size ≤ w3.heap.size := hg.size
    have e4 : wr.heap.size ≤ W2.heap.size := by have := hW.size; simpa using this
    exact (hW.mono hs).trans ⟨hg.os, hg.tape, hg.output, hg.size, fun b hb => hg.block b (by omega) (fun e => by have := own_ge T.own b e; omega)⟩
  · rw [T.more]
    have e : n - m = (n - (m + 1)) + 1 := by omega
    rw [e, takeRow_some ht]
    cases takeRow ks (n - (m + 1)) r3 <;> simp

theorem rowrel_own {sa ad : Addr} {ks : List FK} {ety : TypeId} {n m : Nat} {r1 r2 r3 : ByteArray} {w1 wr W2 : World} {u : Value} {cs : List Value} (F : RowFits sa ad r1 w1)
    (T : RowRel sa ad ks ety n r1 w1 m r2 u cs wr) (hW : Below wr.heap.size (wr.setCell sa (.string r3)) W2) : W2.ownsRow w1.heap.size ety 2 u m cs :=
  ownsRow_kept T.own fun b h1 h2 => by
    have := (rowrel_facts F T).2.2.2.2.2.1
    rw [hW.block b h2, Below.heap_setCell _ _ _ _ (by omega)]

theorem rowrel_fail {sa ad : Addr} {ks : List FK} {ety : TypeId} {n m : Nat} {r1 r2 : ByteArray} {w1 wr : World} {u : Value} {cs : List Value}
    (T : RowRel sa ad ks ety n r1 w1 m r2 u cs wr) (hm : m < n) (ht : takeAll ks r2 = none) : takeRow ks n r1 = none := by
  rw [T.more]
  have e : n - m = (n - (m + 1)) + 1 := by omega
  rw [e, takeRow_none ht]; rfl

theorem rowrel_end {sa ad : Addr} {ks : List FK} {ety : TypeId} {n m : Nat} {r1 r2 : ByteArray} {w1 wr : World} {u : Value} {cs : List Value}
    (T : RowRel sa ad ks ety n r1 w1 m r2 u cs wr) (hm : n ≤ m) : takeRow ks n r1 = some (cs, r2) := by
  rw [T.more, show n - m = 0 from by omega]; simp [takeRow]

theorem takeOne_one {k : FK} {s r : ByteArray} {v : Value} (h : takeOne k s = some (v, r)) : v.oneCell' = true := by
  cases k <;> simp only [takeOne, Option.map_eq_some_iff, Prod.exists, Prod.mk.injEq] at h <;> obtain ⟨a, b, h1, rfl, rfl⟩ := h <;> rfl

theorem takeAll_one : ∀ (ks : List FK) {s r : ByteArray} {vs : List Value}, takeAll ks s = some (vs, r) → ∀ v ∈ vs, v.oneCell' = true
  | [], s, r, vs, h => by simp only [takeAll, Option.some.injEq, Prod.mk.injEq] at h; rw [← h.1]; intro v hv; simp at hv
  | k :: ks, s, r, vs, h => by
    cases ho : takeOne k s with
    | none => rw [takeAll_cons_none ho] at h; simp at h
    | some y =>
      obtain ⟨v, r1⟩ := y
      rw [takeAll_cons_some ho] at h
      simp only [Option.map_eq_some_iff, Prod.exists, Prod.mk.injEq] at h
      obtain ⟨a, b, h1, rfl, rfl⟩ := h
      intro u hu
      rcases List.mem_cons.1 hu with rfl | hu
      · exact takeOne_one ho
      · exact takeAll_one ks h1 u hu

theorem cells_two_new (w : World) (x y : Value) (t : TypeId) (H : Nat) (hH : w.heap.size = H) : ∀ j u, [x, y][j]? = some u → (w.alloc (.cells #[x, y] t)).drew.cell? ((⟨H, 0, none⟩ : Addr).add j) = some u := by
  subst hH
  intro j u hj
  match j, hj with
  | 0, hj => simp at hj; subst hj; simp [Addr.add]
  | 1, hj => simp at hj; subst hj; simp [Addr.add]
  | (j + 2), hj => simp at hj

/-- Two fields in new memory, as the walk meets them: what is known behind the call. -/
structure PairPost (sb so : Nat) (wr : World) (ty : TypeId) (v1 v2 : Value) (r3 : ByteArray) (w' : World) : Prop where
  below : Below wr.heap.size (wr.setCell ⟨sb, so, none⟩ (.string r3)) w'
  size : w'.heap.size = wr.heap.size + 2
  blk : w'.heap[wr.heap.size]? = some (.cells #[v1, v2] ty (0, 0))

theorem pair_some (sb so : Nat) (r r3 : ByteArray) (wr : World) (k1 k2 : FK) (ty : TypeId) (z1 z2 v1 v2 : Value) (hr : r.size ≤ maxLen) (hc : wr.cell? ⟨sb, so, none⟩ = some (.string r)) (hf : wr.frozen? ⟨sb, so, none⟩ = false)
    (ht : takeAll [k1, k2] r = some ([v1, v2], r3)) :
    Calls Try.prog 41 #[.pointer (some ⟨sb, so, none⟩), .slice (some ⟨wr.heap.size + 1, 0, none⟩) 2 2]
      ((wr.alloc (.cells #[z1, z2] ty)).alloc (.cells #[.iface k1.ty (.pointer (some ⟨wr.heap.size, 0, none⟩)), .iface k2.ty (.pointer (some ⟨wr.heap.size, 1, none⟩))] 20)) fun e w' =>
      e = .returned (.tuple #[]) ∧ PairPost sb so wr ty v1 v2 r3 w' := by
  refine (takes_pair _ r wr k1 k2 ty z1 z2 2 hr hc hf).mono ?_
  intro e w' h
  rw [ht] at h
  obtain ⟨rfl, nd, rfl⟩ := h
  refine ⟨rfl, ?_, ?_, ?_⟩
  · exact (((Below.refl _ _).alloc (by simp) _).alloc (by simp) _).trans ⟨rfl, rfl, rfl, Nat.le_refl _, fun _ _ => rfl⟩
  · simp
  · show (((wr.setCell ⟨sb, so, none⟩ (.string r3)).alloc (.cells [v1, v2].toArray ty)).alloc _).heap[wr.heap.size]? = _
    rw [Below.heap_alloc _ _ _ (by simp)]
    have hs : (wr.setCell ⟨sb, so, none⟩ (.string r3)).heap.size = wr.heap.size := by simp
    show ((wr.setCell ⟨sb, so, none⟩ (.string r3)).heap.push _)[wr.heap.size]? = _
    rw [← hs, Array.getElem?_push_size]

theorem pair_none (sb so : Nat) (r : ByteArray) (wr : World) (k1 k2 : FK) (ty : TypeId) (z1 z2 : Value) (hr : r.size ≤ maxLen) (hc : wr.cell? ⟨sb, so, none⟩ = some (.string r)) (hf : wr.frozen? ⟨sb, so, none⟩ = false)
    (ht : takeAll [k1, k2] r = none) :
    Calls Try.prog 41 #[.pointer (some ⟨sb, so, none⟩), .slice (some ⟨wr.heap.size + 1, 0, none⟩) 2 2]
      ((wr.alloc (.cells #[z1, z2] ty)).alloc (.cells #[.iface k1.ty (.pointer (some ⟨wr.heap.size, 0, none⟩)), .iface k2.ty (.pointer (some ⟨wr.heap.size, 1, none⟩))] 20)) fun e w' =>
      e = .panicked badChain ∧ Hid (KeptBut wr w' (· = sb)) := by
  refine (takes_pair _ r wr k1 k2 ty z1 z2 2 hr hc hf).mono ?_
  intro e w' h
  rw [ht] at h
  exact h

theorem PairPost.facts {sb so ab ao : Nat} {wr w' : World} {ty : TypeId} {v1 v2 u : Value} {r3 : ByteArray} (h : PairPost sb so wr ty v1 v2 r3 w') (hne : (⟨ab, ao, none⟩ : Addr) ≠ ⟨sb, so, none⟩)
    (hd : wr.cell? ⟨ab, ao, none⟩ = some u) (hf : wr.frozen? ⟨ab, ao, none⟩ = false) :
    w'.cell? ⟨wr.heap.size, 0, none⟩ = some v1 ∧ w'.cell? ⟨wr.heap.size, 1, none⟩ = some v2 ∧ w'.cell? ⟨ab, ao, none⟩ = some u ∧ w'.frozen? ⟨ab, ao, none⟩ = false := by
  have hb := World.block_lt_of_cell? _ _ hd
  refine ⟨by simp [World.cell?, h.blk], by simp [World.cell?, h.blk], ?_, ?_⟩
  · rw [h.below.cell hb, World.cell?_setCell_other _ _ _ _ (fun e => hne e.symm)]; exact hd
  · rw [h.below.frozen hb]; simpa using hf

theorem PairPost.laid {sb so : Nat} {wr w' : World} {ty : TypeId} {v1 v2 : Value} {r3 : ByteArray} (h : PairPost sb so wr ty v1 v2 r3 w') (o : Obj) : Below wr.heap.size (wr.setCell ⟨sb, so, none⟩ (.string r3)) (w'.alloc o).drew :=
  (h.below.alloc (by have := h.size; omega) o).drew

theorem row_far {sa ad : Addr} {ks : List FK} {ety : TypeId} {n m : Nat} {r1 r2 : ByteArray} {w1 wr W W3 : World} {u : Value} {cs : List Value} (F : RowFits sa ad r1 w1)
    (T : RowRel sa ad ks ety n r1 w1 m r2 u cs wr) (hs : wr.heap.size ≤ W.heap.size) (hg : W.grownBy W3 u.ownBlock) (hd : W.cell? ad = some u) (hf : W.frozen? ad = false) : W3.cell? ad = some u ∧ W3.frozen? ad = false := by
  obtain ⟨_, _, _, _, h1, _, h2⟩ := rowrel_facts F T
  have hne : some ad.block ≠ u.ownBlock := fun e => by have := own_ge T.own _ e; omega
  exact ⟨by rw [hg.cell_far ad (by omega) hne]; exact hd, by rw [hg.frozen_far ad (by omega) hne]; exact hf⟩
end Go.Proofs.Ytibmaeckmnkmjaa

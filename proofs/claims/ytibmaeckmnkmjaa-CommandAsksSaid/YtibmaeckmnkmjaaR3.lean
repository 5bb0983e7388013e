/- The reference's FromAsk. -/
import Derived.Test.YtibmaeckmnkmjaaR2
import Derived.Test.YtibmaeckmnkmjaaF2
namespace Go.Proofs.Ytibmaeckmnkmjaa
open Go.RowKit

theorem setIn_alloc (w : World) (g : Nat) (s : ByteArray) (b : Bool) (A : Obj) (hg : g < w.heap.size) : setIn (w.alloc A) g s b = (setIn w g s b).alloc A := by
  unfold setIn
  rw [setCell_alloc_old _ _ ⟨g, 0, none⟩ _ hg, setCell_alloc_old _ _ ⟨g, 1, none⟩ _ (by simp; omega)]

theorem IsIn.alloc {w : World} {g : Nat} {s : ByteArray} {b : Bool} (h : IsIn w g s b) (A : Obj) : IsIn (w.alloc A) g s b := by
  have hg := h.lt
  refine ⟨?_, ?_, ?_, ?_, h.size⟩
  · rw [World.cell?_alloc_lt _ _ _ hg]; exact h.c0
  · rw [World.cell?_alloc_lt _ _ _ hg]; exact h.c1
  · rw [World.frozen?_alloc_old _ _ _ (by simp; omega)]; exact h.f0
  · rw [World.frozen?_alloc_old _ _ _ (by simp; omega)]; exact h.f1

theorem num_at1 {g : Nat} {s0 : ByteArray} {b0 : Bool} {w : World} (h : IsIn w g s0 b0) (s : ByteArray) (b : Bool) (hs : s.size ≤ maxLen) (A : Obj) :
    Calls Try.prog 23 #[.pointer (some ⟨g, 0, none⟩)] ((setIn w g s b).alloc A) fun e w' => e = .returned (.int .i64 (numR s b).1) ∧ (setIn w g (numR s b).2.1 (numR s b).2.2).alloc A = w' := by
  refine (num_any g s b _ ((h.set (c := b) hs).alloc A)).mono ?_
  rintro e w' ⟨rfl, rfl⟩
  exact ⟨rfl, by rw [setIn_alloc _ _ _ _ _ (by rw [setIn_size]; exact h.lt), setIn_again]⟩

theorem op_at1 {g : Nat} {s0 : ByteArray} {b0 : Bool} {w : World} (h : IsIn w g s0 b0) (s : ByteArray) (b : Bool) (hs : s.size ≤ maxLen) (A : Obj) :
    Calls Try.prog 24 #[.pointer (some ⟨g, 0, none⟩)] ((setIn w g s b).alloc A) fun e w' => e = .returned (.agg (opR s b).1.val) ∧
      (((setIn w g (opR s b).2.1 (opR s b).2.2).alloc A).alloc (.cells (opR s b).1.val 25)).alloc (.cells (opR s b).1.val 25) = w' := by
  have := op_at (h.alloc A) s b hs
  rw [setIn_alloc _ _ _ _ _ h.lt, setIn_alloc _ _ _ _ _ h.lt] at this
  exact this

theorem fine_at {g : Nat} {s0 : ByteArray} {b0 : Bool} {w : World} (h : IsIn w g s0 b0) (s : ByteArray) (b : Bool) (hs : s.size ≤ maxLen) (A B C D : Obj) :
    Calls Try.prog 25 #[.pointer (some ⟨g, 0, none⟩)] (((((setIn w g s b).alloc A).alloc B).alloc C).alloc D) fun e w' => e = .returned (.bool (fineR s b)) ∧ ∃ n, (((((setIn w g s b).alloc A).alloc B).alloc C).alloc D).drewN n = w' :=
  fine_any g s b _ (((((h.set (c := b) hs).alloc A).alloc B).alloc C).alloc D)

theorem opR_size (s : ByteArray) (b : Bool) : (opR s b).2.1.size ≤ s.size := by
  unfold opR
  simp only
  refine Nat.le_trans (numR_size _ _) (Nat.le_trans (numR_size _ _) (Nat.le_trans (textR_size _ _) (Nat.le_trans (textR_size _ _) (Nat.le_trans (textR_size _ _) (Nat.le_trans (textR_size _ _) (Nat.le_trans (textR_size _ _) (Nat.le_trans (textR_size _ _) (numR_size _ _))))))))

/-- What the reference reads: id's numbers, the op, and whether it was right. -/
def askR (S : ByteArray) : Int × Int × OpV × Bool :=
  let r0 := numR (markR 81 S).1 (markR 81 S).2
  let r1 := numR r0.2.1 r0.2.2
  let r2 := opR r1.2.1 r1.2.2
  (r0.1, r1.1, r2.1, fineR r2.2.1 r2.2.2)

theorem markR_size (c : UInt8) (s : ByteArray) : (markR c s).1.size ≤ s.size := by
  unfold markR; split
  · simp only; rw [size_extract]; omega
  · exact Nat.le_refl _

def refW (w : World) (S : ByteArray) : World := ((w.alloc (.cells zeroId 23)).alloc (.cells zeroOp 25)).alloc (.cells #[.string S, .bool false] 60)

theorem setIn_heap (w : World) (g : Nat) (s : ByteArray) (b : Bool) (k : Nat) (h : k ≠ g) : (setIn w g s b).heap[k]? = w.heap[k]? := by
  unfold setIn
  rw [Below.heap_setCell _ _ _ _ h, Below.heap_setCell _ _ _ _ h]

theorem refW_in (w : World) (S : ByteArray) (hS : S.size ≤ maxLen) : IsIn (refW w S) (w.heap.size + 1 + 1) S false := by
  have hs : ((w.alloc (.cells zeroId 23)).alloc (.cells zeroOp 25)).heap.size = w.heap.size + 1 + 1 := by simp
  unfold refW
  exact ⟨(World.cell?_alloc_at _ _ _ 0 hs.symm).trans rfl, (World.cell?_alloc_at _ _ _ 1 hs.symm).trans rfl, World.frozen?_alloc_at _ _ _ 0 hs.symm, World.frozen?_alloc_at _ _ _ 1 hs.symm, hS⟩

theorem refW_heap (w : World) (S s : ByteArray) (b : Bool) : (setIn (refW w S) (w.heap.size + 1 + 1) s b).heap[w.heap.size]? = some (.cells zeroId 23) ∧
    (setIn (refW w S) (w.heap.size + 1 + 1) s b).heap[w.heap.size + 1]? = some (.cells zeroOp 25) ∧ (setIn (refW w S) (w.heap.size + 1 + 1) s b).heap.size = w.heap.size + 1 + 1 + 1 ∧
    Below w.heap.size w (setIn (refW w S) (w.heap.size + 1 + 1) s b) := by
  refine ⟨?_, ?_, by rw [setIn_size]; simp [refW], ?_⟩
  · rw [setIn_heap _ _ _ _ _ (by omega)]
    unfold refW
    rw [Below.heap_alloc _ _ _ (by simp; omega), heap_last2 _ _ _ _ rfl]
  · rw [setIn_heap _ _ _ _ _ (by omega)]
    unfold refW
    rw [heap_last2 _ _ _ _ (by simp)]
  · exact ((((Below.refl _ w).alloc (Nat.le_refl _) _).alloc (by simp) _).alloc (by simp; omega) _ |>.setCell (by simp; omega) _).setCell (by simp; omega) _

theorem ref_chain {w w1 : World} {S s : ByteArray} {b : Bool} {A O1 O2 O3 : Obj} {n : Nat}
    (h : (((((setIn (refW w S) (w.heap.size + 1 + 1) s b).alloc A).alloc O1).alloc O2).alloc O3).drewN n = w1) :
    w1.heap[w.heap.size]? = some (.cells zeroId 23) ∧ w1.heap[w.heap.size + 1]? = some (.cells zeroOp 25) ∧ w1.heap[w.heap.size + 1 + 1 + 1]? = some A ∧ w1.heap[w.heap.size + 1 + 1 + 1 + 1 + 1 + 1]? = some O3 ∧ Below w.heap.size w w1 := by
  subst h
  obtain ⟨h1, h2, h3, hb⟩ := refW_heap w S s b
  have key : ∀ k, k < w.heap.size + 3 → ((((((setIn (refW w S) (w.heap.size + 1 + 1) s b).alloc A).alloc O1).alloc O2).alloc O3).drewN n).heap[k]? = (setIn (refW w S) (w.heap.size + 1 + 1) s b).heap[k]? := by
    intro k hk
    show (((((setIn (refW w S) (w.heap.size + 1 + 1) s b).alloc A).alloc O1).alloc O2).alloc O3).heap[k]? = _
    rw [Below.heap_alloc _ _ _ (by simp only [World.size_alloc]; omega), Below.heap_alloc _ _ _ (by simp only [World.size_alloc]; omega), Below.heap_alloc _ _ _ (by simp only [World.size_alloc]; omega), Below.heap_alloc _ _ _ (by omega)]
  refine ⟨by rw [key _ (by omega)]; exact h1, by rw [key _ (by omega)]; exact h2, ?_, ?_, ?_⟩
  · show (((((setIn (refW w S) (w.heap.size + 1 + 1) s b).alloc A).alloc O1).alloc O2).alloc O3).heap[_]? = _
    rw [Below.heap_alloc _ _ _ (by simp only [World.size_alloc]; omega), Below.heap_alloc _ _ _ (by simp only [World.size_alloc]; omega), Below.heap_alloc _ _ _ (by simp only [World.size_alloc]; omega), heap_last _ _ _ h3]
  · show (((((setIn (refW w S) (w.heap.size + 1 + 1) s b).alloc A).alloc O1).alloc O2).alloc O3).heap[_]? = _
    rw [heap_last _ _ _ (by simp only [World.size_alloc]; omega)]
  · have hb' := ((((hb.alloc (by omega) A).alloc (by simp only [World.size_alloc]; omega) O1).alloc (by simp only [World.size_alloc]; omega) O2).alloc (by simp only [World.size_alloc]; omega) O3)
    exact ⟨hb'.os, hb'.tape, hb'.output, hb'.size, hb'.block⟩

def RefAskPost (S : ByteArray) (w : World) (e : Ending) (w' : World) : Prop :=
  e = .returned (.tuple (if (askR S).2.2.2 = true then #[.agg #[.int .i64 (askR S).1, .int .i64 (askR S).2.1], .agg (askR S).2.2.1.val, .int .i64 0] else #[.agg zeroId, .agg zeroOp, .int .i64 140])) ∧ Below w.heap.size w w'

set_option maxRecDepth 100000 in
set_option maxHeartbeats 4000000 in
theorem refFromAsk (S : ByteArray) (w : World) (hS : S.size ≤ maxLen) :
    Calls Try.prog 7 #[.string S] w (RefAskPost S w) := by
  go_enter Try.func7, Try.ntmps7
  have hI := refW_in w S hS
  have HI := Lib.hid hI; clear hI
  have z0 := Lib.hid (Nat.le_trans (markR_size 81 S) hS)
  have hO : askR S = askR S := rfl
  conv at hO => rhs; unfold askR
  have HO := Lib.hid hO; clear hO
  go_wp2_with fail
  refine (mark_any (w.heap.size + 1 + 1) S 81 (refW w S) HI.out).mono ?_
  rintro e w1 ⟨rfl, rfl⟩
  generalize markR 81 S = R at *
  obtain ⟨s1, b1⟩ := R
  simp only at z0
  have hsz := fun s b => (refW_heap w S s b).2.2.1
  go_wp2_with fail
  have z1 := Lib.hid (Nat.le_trans (numR_size s1 b1) z0.out)
  refine (num_at1 HI.out s1 b1 z0.out _).mono ?_
  rintro e w1 ⟨rfl, rfl⟩
  generalize numR s1 b1 = R at *
  obtain ⟨v1, s2, b2⟩ := R
  simp only at z1
  go_wp2_with fail
  have z2 := Lib.hid (Nat.le_trans (numR_size s2 b2) z1.out)
  refine (num_at1 HI.out s2 b2 z1.out _).mono ?_
  rintro e w1 ⟨rfl, rfl⟩
  generalize numR s2 b2 = R at *
  obtain ⟨v2, s3, b3⟩ := R
  simp only at z2
  go_wp2_with fail
  have z3 := Lib.hid (Nat.le_trans (opR_size s3 b3) z2.out)
  refine (op_at1 HI.out s3 b3 z2.out _).mono ?_
  rintro e w1 ⟨rfl, rfl⟩
  generalize opR s3 b3 = R at *
  obtain ⟨⟨v3, va, vb, vc, vd, ve, vf, vm, vn⟩, s4, b4⟩ := R
  simp only [OpV.val] at z3 ⊢
  go_wp2_with fail
  refine (fine_at HI.out s4 b4 z3.out _ _ _ _).mono ?_
  rintro e w1 ⟨rfl, nd, hw1⟩
  generalize hfine : fineR s4 b4 = fin at *
  clear hfine
  obtain ⟨h1, h2, h3, h4, hb⟩ := ref_chain hw1
  clear hw1
  obtain ⟨c0, c1, f0, f1⟩ := cells2 h1
  obtain ⟨⟨d0, d1, d2, d3, d4, d5, d6, d7, d8⟩, df⟩ := cells9 h2
  obtain ⟨a0, a1, _, _⟩ := cells2 h3
  obtain ⟨⟨b0, b1, b2, b3, b4, b5, b6, b7, b8⟩, _⟩ := cells9 h4
  have HB := Lib.hid hb
  clear h1 h2 h3 h4 hb hsz
  cases fin with
  | true =>
    go_wp2
    go_region
    all_goals go_wp2
    all_goals
      refine bodyPost_ret (v := .tuple #[.agg #[.int .i64 v1, .int .i64 v2], .agg #[.int .i64 v3, .string va, .string vb, .string vc, .string vd, .string ve, .string vf, .int .i64 vm, .int .i64 vn], .int .i64 0]) ?_ rfl ?_
      · simp [results, Try.results7, go_sem, c0, c1, d0, d1, d2, d3, d4, d5, d6, d7, d8]
      · unfold RefAskPost
        rw [HO.out]
        refine ⟨rfl, Below.drew ?_⟩
        iterate 11 refine Below.setCell ?_ (by simp) _
        exact HB.out
  | false =>
    go_wp2
    refine bodyPost_ret (v := .tuple #[.agg zeroId, .agg zeroOp, .int .i64 140]) ?_ rfl ?_
    · simp [results, Try.results7, go_sem, c0, c1, d0, d1, d2, d3, d4, d5, d6, d7, d8, zeroId, zeroOp]
    · unfold RefAskPost
      rw [HO.out]
      refine ⟨rfl, ?_⟩
      iterate 11 refine Below.setCell ?_ (by simp) _
      exact HB.out
end Go.Proofs.Ytibmaeckmnkmjaa

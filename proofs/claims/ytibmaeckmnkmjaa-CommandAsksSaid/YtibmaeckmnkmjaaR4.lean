/- The reference's FromAnswer: what its loop does. -/
import Derived.Test.YtibmaeckmnkmjaaP1
import Derived.Test.YtibmaeckmnkmjaaF3
namespace Go.Proofs.Ytibmaeckmnkmjaa
open Go.RowKit

/-- Rows of two texts, as the reference takes them. -/
def rowR : Nat → ByteArray → Bool → List Value × ByteArray × Bool
  | 0, s, b => ([], s, b)
  | n + 1, s, b =>
    if b then ([], s, true)
    else ([.string (textR s false).1, .string (textR (textR s false).2.1 (textR s false).2.2).1] ++ (rowR n (textR (textR s false).2.1 (textR s false).2.2).2.1 (textR (textR s false).2.1 (textR s false).2.2).2.2).1,
      (rowR n (textR (textR s false).2.1 (textR s false).2.2).2.1 (textR (textR s false).2.1 (textR s false).2.2).2.2).2)

theorem rowR_bad (n : Nat) (s : ByteArray) : rowR n s true = ([], s, true) := by cases n <;> rfl

/-- The loop's relation: so many rows are taken. -/
structure RefRow (g q : Nat) (ve va : Int) (n : Nat) (S0 : ByteArray) (B0 : Bool) (W0 : World) (k : Nat) (s : ByteArray) (b : Bool) (u : Value) (cs : List Value) (w : World) : Prop where
  isin : IsIn w g s b
  blk : w.heap[q]? = some (.cells #[.int .i64 ve, .int .i64 va, u] 31)
  kept : KeptBut W0 w (fun x => x = g ∨ x = q)
  own : w.ownsRow W0.heap.size 38 2 u k cs
  more : ∀ vs s' b', rowR (n - k) s b = (vs, s', b') → rowR n S0 B0 = (cs ++ vs, s', b')

theorem text_at1 {g : Nat} {s : ByteArray} {b : Bool} {w : World} (h : IsIn w g s b) (A : Obj) :
    Calls Try.prog 28 #[.pointer (some ⟨g, 0, none⟩)] (w.alloc A) fun e w' => e = .returned (.string (textR s b).1) ∧ (setIn w g (textR s b).2.1 (textR s b).2.2).alloc A = w' := by
  refine (text_any g s b _ (h.alloc A)).mono ?_
  rintro e w' ⟨rfl, rfl⟩
  exact ⟨rfl, by rw [setIn_alloc _ _ _ _ _ h.lt]⟩

theorem text_at2 {g : Nat} {s0 : ByteArray} {b0 : Bool} {w : World} (h : IsIn w g s0 b0) (s : ByteArray) (b : Bool) (hs : s.size ≤ maxLen) (A : Obj) :
    Calls Try.prog 28 #[.pointer (some ⟨g, 0, none⟩)] ((setIn w g s b).alloc A) fun e w' => e = .returned (.string (textR s b).1) ∧ (setIn w g (textR s b).2.1 (textR s b).2.2).alloc A = w' := by
  refine (text_any g s b _ ((h.set (c := b) hs).alloc A)).mono ?_
  rintro e w' ⟨rfl, rfl⟩
  exact ⟨rfl, by rw [setIn_alloc _ _ _ _ _ (by rw [setIn_size]; exact h.lt), setIn_again]⟩

/-- One row more. -/
theorem refrow_next {g q : Nat} {ve va : Int} {n k : Nat} {S0 s s2 : ByteArray} {B0 b2 : Bool} {W0 w W w3 : World} {u u' : Value} {cs : List Value} {A N : Obj} {t1 t2 : ByteArray}
    (R : RefRow g q ve va n S0 B0 W0 k s false u cs w) (hg : g < W0.heap.size) (hq : q < W0.heap.size) (hgq : g ≠ q) (hk : k < n) (hs2 : s2.size ≤ maxLen)
    (ht1 : (textR s false).1 = t1) (ht2 : (textR (textR s false).2.1 (textR s false).2.2) = (t2, s2, b2))
    (hW : ((setIn w g s2 b2).alloc A).alloc N = W) (hgr : W.grownBy w3 u.ownBlock) (ho : w3.ownsRow W0.heap.size 38 2 u' (k + 1) (cs ++ [.string t1, .string t2])) :
    RefRow g q ve va n S0 B0 W0 (k + 1) s2 b2 u' (cs ++ [.string t1, .string t2]) (w3.setCell ⟨q, 2, none⟩ u') := by
  have hsz0 : W0.heap.size ≤ w.heap.size := R.kept.size
  have hWs : W.heap.size = w.heap.size + 2 := by subst hW; simp [setIn_size]
  have hW1 : Below w.heap.size (setIn w g s2 b2) W := by subst hW; exact ((Below.refl _ _).alloc (by rw [setIn_size]; exact Nat.le_refl _) _).alloc (by simp [setIn_size]) _
  have hown := own_ge R.own
  have hw3 : ∀ x, x < W0.heap.size → w3.heap[x]? = (setIn w g s2 b2).heap[x]? := fun x hx => by
    rw [hgr.block x (by omega) (fun e => by have := hown x e; omega), hW1.block x (by omega)]
  have hin := R.isin.set (c := b2) hs2
  have hcell : ∀ p : Addr, p.block < W0.heap.size → w3.cell? p = (setIn w g s2 b2).cell? p := fun p hp => World.cell?_of_block (hw3 p.block hp)
  have hfro : ∀ p : Addr, p.block < W0.heap.size → w3.frozen? p = (setIn w g s2 b2).frozen? p := fun p hp => World.frozen?_of_block (hw3 p.block hp)
  have hqb : w3.heap[q]? = some (.cells #[.int .i64 ve, .int .i64 va, u] 31) := by rw [hw3 q hq, setIn_heap _ _ _ _ _ (fun e => hgq e.symm)]; exact R.blk
  refine ⟨⟨?_, ?_, ?_, ?_, hs2⟩, ?_, ?_, ownsRow_setCell_below ho hq _, ?_⟩
  · rw [World.cell?_setCell_other _ _ _ _ (by intro e; simp only [Addr.mk.injEq] at e; omega), hcell _ hg]; exact hin.c0
  · rw [World.cell?_setCell_other _ _ _ _ (by intro e; simp only [Addr.mk.injEq] at e; omega), hcell _ hg]; exact hin.c1
  · rw [World.frozen?_setCell, hfro _ hg]; exact hin.f0
  · rw [World.frozen?_setCell, hfro _ hg]; exact hin.f1
  · simp only [setCell_upd, Array.getElem?_modify, if_true, hqb]
    rfl
  · have e1 : KeptBut W0 (setIn w g s2 b2) (fun x => x = g ∨ x = q) := R.kept.trans ((KeptBut.setCell _ _ _ (Or.inl rfl)).trans (KeptBut.setCell _ _ _ (Or.inl rfl)))
    refine ⟨?_, ?_, ?_, ?_, fun x hx hn => ?_⟩
    · exact hgr.os.trans (hW1.os.trans e1.os)
    · exact hgr.tape.trans (hW1.tape.trans e1.tape)
    · exact hgr.output.trans (hW1.output.trans e1.output)
    · have := hgr.size; simp; omega
    · rw [Below.heap_setCell _ _ _ _ (fun e => hn (Or.inr e)), hw3 x hx]; exact e1.block x hx hn
  · intro vs s' b' hv
    have e : n - k = (n - (k + 1)) + 1 := by omega
    have h2 := R.more ([.string t1, .string t2] ++ vs) s' b' (by
      rw [e]
      simp only [rowR, Bool.false_eq_true, if_false, ht1, ht2, hv])
    rw [h2, List.append_assoc]


theorem refrow_own {g q : Nat} {ve va : Int} {n k : Nat} {S0 s : ByteArray} {B0 b : Bool} {W0 w : World} {u : Value} {cs : List Value}
    (R : RefRow g q ve va n S0 B0 W0 k s b u cs w) (hg : g < W0.heap.size) (s2 : ByteArray) (b2 : Bool) (A N : Obj) : (((setIn w g s2 b2).alloc A).alloc N).ownsRow W0.heap.size 38 2 u k cs :=
  ownsRow_kept R.own fun b h1 h2 => by
    rw [Below.heap_alloc _ _ _ (by simp [setIn_size]; omega), Below.heap_alloc _ _ _ (by rw [setIn_size]; exact h2), setIn_heap _ _ _ _ _ (by omega)]

theorem refrow_far {g q : Nat} {ve va : Int} {n k : Nat} {S0 s : ByteArray} {B0 b : Bool} {W0 w w3 : World} {u : Value} {cs : List Value}
    (R : RefRow g q ve va n S0 B0 W0 k s b u cs w) (hq : q < W0.heap.size) (hgq : q ≠ g) {s2 : ByteArray} {b2 : Bool} {A N : Obj} (hg : (((setIn w g s2 b2).alloc A).alloc N).grownBy w3 u.ownBlock) :
    w3.cell? ⟨q, 2, none⟩ = some u ∧ w3.frozen? ⟨q, 2, none⟩ = false := by
  have hsz0 : W0.heap.size ≤ w.heap.size := R.kept.size
  have hne : some q ≠ u.ownBlock := fun e => by have := own_ge R.own q e; omega
  have e : w3.heap[q]? = w.heap[q]? := by
    rw [hg.block q (by simp [setIn_size]; omega) hne, Below.heap_alloc _ _ _ (by simp [setIn_size]; omega), Below.heap_alloc _ _ _ (by rw [setIn_size]; omega), setIn_heap _ _ _ _ _ hgq]
  obtain ⟨⟨_, _, q2⟩, qf⟩ := cells3 (e.trans R.blk)
  exact ⟨q2, qf 2⟩

theorem cells_two_plain (w : World) (x y : Value) (t : TypeId) (H : Nat) (hH : w.heap.size = H) : ∀ j u, [x, y][j]? = some u → (w.alloc (.cells #[x, y] t)).cell? ((⟨H, 0, none⟩ : Addr).add j) = some u :=
  fun j u hj => cells_two_new w x y t H hH j u hj

def ansRefW (w : World) (S : ByteArray) : World := ((w.alloc (.cells zeroId 23)).alloc (.cells zeroRep 31)).alloc (.cells #[.string S, .bool false] 60)

theorem ansRefW_in (w : World) (S : ByteArray) (hS : S.size ≤ maxLen) : IsIn (ansRefW w S) (w.heap.size + 1 + 1) S false := by
  have hs : ((w.alloc (.cells zeroId 23)).alloc (.cells zeroRep 31)).heap.size = w.heap.size + 1 + 1 := by simp
  unfold ansRefW
  exact ⟨(World.cell?_alloc_at _ _ _ 0 hs.symm).trans rfl, (World.cell?_alloc_at _ _ _ 1 hs.symm).trans rfl, World.frozen?_alloc_at _ _ _ 0 hs.symm, World.frozen?_alloc_at _ _ _ 1 hs.symm, hS⟩

theorem ansRefW_heap (w : World) (S s : ByteArray) (b : Bool) : (setIn (ansRefW w S) (w.heap.size + 1 + 1) s b).heap[w.heap.size]? = some (.cells zeroId 23) ∧
    (setIn (ansRefW w S) (w.heap.size + 1 + 1) s b).heap[w.heap.size + 1]? = some (.cells zeroRep 31) ∧ (setIn (ansRefW w S) (w.heap.size + 1 + 1) s b).heap.size = w.heap.size + 1 + 1 + 1 ∧
    Below w.heap.size w (setIn (ansRefW w S) (w.heap.size + 1 + 1) s b) := by
  refine ⟨?_, ?_, by rw [setIn_size]; simp [ansRefW], ?_⟩
  · rw [setIn_heap _ _ _ _ _ (by omega)]
    unfold ansRefW
    rw [Below.heap_alloc _ _ _ (by simp; omega), heap_last2 _ _ _ _ rfl]
  · rw [setIn_heap _ _ _ _ _ (by omega)]
    unfold ansRefW
    rw [heap_last2 _ _ _ _ (by simp)]
  · exact ((((Below.refl _ w).alloc (Nat.le_refl _) _).alloc (by simp) _).alloc (by simp; omega) _ |>.setCell (by simp; omega) _).setCell (by simp; omega) _

/-- Two blocks more. -/
theorem ans_chain {w w1 : World} {S s : ByteArray} {b : Bool} {A R : Obj} (hs : s.size ≤ maxLen) (hS : S.size ≤ maxLen)
    (h : ((setIn (ansRefW w S) (w.heap.size + 1 + 1) s b).alloc A).alloc R = w1) :
    w1.heap[w.heap.size]? = some (.cells zeroId 23) ∧ w1.heap[w.heap.size + 1]? = some (.cells zeroRep 31) ∧ w1.heap[w.heap.size + 1 + 1 + 1]? = some A ∧ w1.heap[w.heap.size + 1 + 1 + 1 + 1]? = some R ∧
      Below w.heap.size w w1 ∧ w1.heap.size = w.heap.size + 5 ∧ IsIn w1 (w.heap.size + 1 + 1) s b := by
  subst h
  obtain ⟨h1, h2, h3, hb⟩ := ansRefW_heap w S s b
  have key : ∀ k, k < w.heap.size + 3 → (((setIn (ansRefW w S) (w.heap.size + 1 + 1) s b).alloc A).alloc R).heap[k]? = (setIn (ansRefW w S) (w.heap.size + 1 + 1) s b).heap[k]? := by
    intro k hk
    rw [Below.heap_alloc _ _ _ (by simp only [World.size_alloc]; omega), Below.heap_alloc _ _ _ (by omega)]
  refine ⟨by rw [key _ (by omega)]; exact h1, by rw [key _ (by omega)]; exact h2, heap_last2 _ _ _ _ h3, heap_last _ _ _ (by simp only [World.size_alloc]; omega), (hb.alloc (by omega) A).alloc (by simp only [World.size_alloc]; omega) R, by simp [h3],
    (((ansRefW_in w S hS).set (c := b) hs).alloc A).alloc R⟩

theorem most_at {g : Nat} {s0 : ByteArray} {b0 : Bool} {w : World} (h : IsIn w g s0 b0) (s : ByteArray) (b : Bool) (m : Int) (hs : s.size ≤ maxLen) (A B : Obj) :
    Calls Try.prog 27 #[.pointer (some ⟨g, 0, none⟩), .int .i64 m] (((setIn w g s b).alloc A).alloc B) fun e w' => e = .returned (.int .i64 (mostR m s b).1) ∧ ((setIn w g (mostR m s b).2.1 (mostR m s b).2.2).alloc A).alloc B = w' := by
  refine (most_any g s b m _ ((h.set (c := b) hs).alloc2 A B)).mono ?_
  rintro e w' ⟨rfl, rfl⟩
  exact ⟨rfl, by rw [setIn_alloc2 _ _ _ _ _ _ (by rw [setIn_size]; exact h.lt), setIn_again]⟩

/-- What the reference reads of an answer: id's numbers, the reply's, its posts, and whether it was right. -/
def ansR (S : ByteArray) : Int × Int × Int × Int × List Value × Bool :=
  let r0 := numR (markR 65 S).1 (markR 65 S).2
  let r1 := numR r0.2.1 r0.2.2
  let r2 := numR r1.2.1 r1.2.2
  let r3 := numR r2.2.1 r2.2.2
  let r4 := mostR 64 r3.2.1 r3.2.2
  let r5 := rowR r4.1.toNat r4.2.1 r4.2.2
  (r0.1, r1.1, r2.1, r3.1, r5.1, fineR r5.2.1 r5.2.2)

def RefAnsPost (S : ByteArray) (w : World) (e : Ending) (w' : World) : Prop :=
  Below w.heap.size w w' ∧
  if (ansR S).2.2.2.2.2 = true then ∃ ua n uc, e = .returned (.tuple #[.agg #[.int .i64 (ansR S).1, .int .i64 (ansR S).2.1], .agg #[.int .i64 (ansR S).2.2.1, .int .i64 (ansR S).2.2.2.1, .slice ua n uc], .int .i64 0]) ∧ w'.ownsRow w.heap.size 38 2 (.slice ua n uc) n (ansR S).2.2.2.2.1
  else e = .returned (.tuple #[.agg zeroId, .agg zeroRep, .int .i64 140])

set_option maxRecDepth 100000 in
set_option maxHeartbeats 4000000 in
theorem refFromAnswer (S : ByteArray) (w : World) (hS : S.size ≤ maxLen) :
    Calls Try.prog 9 #[.string S] w (RefAnsPost S w) := by
  have hI := ansRefW_in w S hS
  have HI := Lib.hid hI; clear hI
  have z0 := Lib.hid (Nat.le_trans (markR_size 65 S) hS)
  have hO : ansR S = ansR S := rfl
  conv at hO => rhs; unfold ansR
  have HO := Lib.hid hO; clear hO
  go_enter Try.func9, Try.ntmps9
  go_wp2_with fail
  refine (mark_any (w.heap.size + 1 + 1) S 65 (ansRefW w S) HI.out).mono ?_
  rintro e w1 ⟨rfl, rfl⟩
  generalize markR 65 S = R at *
  obtain ⟨s1, b1⟩ := R
  simp only at z0
  have hsz := fun s b => (ansRefW_heap w S s b).2.2.1
  go_wp2_with fail
  have z1 := Lib.hid (Nat.le_trans (numR_size s1 b1) z0.out)
  refine (num_at1 HI.out s1 b1 z0.out _).mono ?_
  rintro e w1 ⟨rfl, rfl⟩
  generalize numR s1 b1 = R at *
  obtain ⟨v1, s2, b2⟩ := R
  simp only at z1
  go_wp2_with fail
  have z2 := Lib.hid (Nat.le_trans (numR_size s2 b2) z1.out)
  refine (num_at1 HI.out s2 b2 z1.out _).mono ?_
  rintro e w1 ⟨rfl, rfl⟩
  generalize numR s2 b2 = R at *
  obtain ⟨v2, s3, b3⟩ := R
  simp only at z2
  go_wp2_with fail
  have z3 := Lib.hid (Nat.le_trans (numR_size s3 b3) z2.out)
  refine (num_at HI.out s3 b3 z2.out _ _).mono ?_
  rintro e w1 ⟨rfl, rfl⟩
  generalize numR s3 b3 = R at *
  obtain ⟨v3, s4, b4⟩ := R
  simp only at z3
  go_wp2_with fail
  have z4 := Lib.hid (Nat.le_trans (numR_size s4 b4) z3.out)
  refine (num_at HI.out s4 b4 z3.out _ _).mono ?_
  rintro e w1 ⟨rfl, rfl⟩
  generalize numR s4 b4 = R at *
  obtain ⟨v4, s5, b5⟩ := R
  simp only at z4
  go_wp2_with fail
  have z5 := Lib.hid (Nat.le_trans (mostR_size 64 s5 b5) z4.out)
  have hn := mostR_nonneg 64 (by decide) s5 b5
  refine (most_at HI.out s5 b5 64 z4.out _ _).mono ?_
  rintro e w1 ⟨rfl, hw1⟩
  generalize mostR 64 s5 b5 = R at *
  obtain ⟨n, s6, b6⟩ := R
  simp only at z5 hn hw1
  obtain ⟨hn0, hn64⟩ := hn
  obtain ⟨n, rfl⟩ := Int.eq_ofNat_of_zero_le hn0
  have hnn : n ≤ 64 := by omega
  clear hn0 hn64
  obtain ⟨h1, h2, h3, h4, hb, hsw, hin⟩ := ans_chain z5.out hS hw1
  have H1 := Lib.hid h1; have H2 := Lib.hid h2; have H3 := Lib.hid h3; have HB := Lib.hid hb; have HS := Lib.hid hsw
  have R0 : Hid (RefRow (w.heap.size + 1 + 1) (w.heap.size + 1 + 1 + 1 + 1) v3 v4 n s6 b6 w1 0 s6 b6 (.slice none 0 0) [] w1) :=
    ⟨hin, h4, KeptBut.refl _ _, ⟨rfl, Or.inl ⟨rfl, rfl⟩⟩, fun vs s' b' h => h⟩
  clear h1 h2 h3 h4 hb hsw hin hw1 hsz
  go_wp2_with fail
  go_loopw [9] (fun j wr => ∃ (k : Nat) (s : ByteArray) (b : Bool) (u : Value) (cs : List Value), k ≤ n ∧ j = .int .i64 k ∧ Hid (RefRow (w.heap.size + 1 + 1) (w.heap.size + 1 + 1 + 1 + 1) v3 v4 n s6 b6 w1 k s b u cs wr)) (fun j _ => n - (intOf j).toNat)
  case atStart => exact ⟨0, s6, b6, _, [], by omega, rfl, R0⟩
  case round =>
    clear R0
    obtain ⟨k, s, b, u, cs, hk, rfl, HR⟩ := hrel
    obtain ⟨⟨c0, c1, f0, f1, hs⟩, hq, _, hown, _⟩ := HR.out
    obtain ⟨ua, uc, rfl⟩ := own_slice hown
    obtain ⟨⟨q0, q1, q2⟩, qf⟩ := cells3 hq
    have HO2 := Lib.hid hown
    clear hown hq
    by_cases hgo : k < n ∧ b = false
    · obtain ⟨hlt, rfl⟩ := hgo
      have hw0 : w1.heap.size ≤ wr.heap.size := HR.out.kept.size
      have hgW0 : w.heap.size + 1 + 1 < w1.heap.size := by have := HS.out; omega
      have hqW0 : w.heap.size + 1 + 1 + 1 + 1 < w1.heap.size := by have := HS.out; omega
      have hqlt : w.heap.size + 1 + 1 + 1 + 1 < wr.heap.size := by have := HS.out; omega
      have hsz := setIn_size wr (w.heap.size + 1 + 1)
      have hsq : ∀ s b, (setIn wr (w.heap.size + 1 + 1) s b).cell? ⟨w.heap.size + 1 + 1 + 1 + 1, 2, none⟩ = some (.slice ua k uc) := fun s b => by
        rw [World.cell?_of_block (w := wr) (setIn_heap _ _ _ _ _ (show w.heap.size + 1 + 1 + 1 + 1 ≠ w.heap.size + 1 + 1 by omega))]; exact q2
      have hsf : ∀ s b, (setIn wr (w.heap.size + 1 + 1) s b).frozen? ⟨w.heap.size + 1 + 1 + 1 + 1, 2, none⟩ = false := fun s b => by
        rw [World.frozen?_of_block (w := wr) (setIn_heap _ _ _ _ _ (show w.heap.size + 1 + 1 + 1 + 1 ≠ w.heap.size + 1 + 1 by omega))]; exact qf 2
      obtain ⟨i38, hi38, hz0, hz1, hz2⟩ := info_parts info38
      have hi38 := Lib.hid hi38; have hz0 := Lib.hid hz0; have hz1 := Lib.hid hz1; have hz2 := Lib.hid hz2
      have hm63 : k + 1 ≤ maxLen := by unfold maxLen; omega
      have hm63 := Lib.hid hm63
      have hI2 := Lib.hid HR.out.isin
      go_wp2_with fail
      clear c0 c1 f0 f1 q0 q1 q2 qf
      refine (text_at1 hI2.out _).mono ?_
      rintro e w2 ⟨rfl, rfl⟩
      have y1 := Lib.hid (Nat.le_trans (textR_size s false) hs)
      have ht1 := Lib.hid (rfl : (textR s false).1 = (textR s false).1)
      have ht2 := Lib.hid (rfl : textR (textR s false).2.1 (textR s false).2.2 = textR (textR s false).2.1 (textR s false).2.2)
      go_wp2_with fail
      refine (text_at2 hI2.out _ _ y1.out _).mono ?_
      rintro e w2 ⟨rfl, rfl⟩
      have y2 := Lib.hid (Nat.le_trans (textR_size (textR s false).2.1 (textR s false).2.2) y1.out)
      generalize hr2 : textR (textR s false).2.1 (textR s false).2.2 = R2 at *
      obtain ⟨t2, s2, b2⟩ := R2
      generalize hr1 : (textR s false).1 = t1 at *
      simp only at y2
      have hr1' := Lib.hid hr1
      have hr2' := Lib.hid hr2
      clear hr1 hr2 ht1 ht2 y1
      go_wp2_with (first | (at_builtin; go_loud (refine wpList_append_lies _ rfl (.tmp 52) (.tmp 54) 29 rfl w1.heap.size 38 i38 _ 2 32 Try.underlying29 hi38.out hz0.out hz1.out hz2.out rfl (by decide) (.slice ua k uc) k cs rfl (refrow_own HR.out hgW0 _ _ _ _) ⟨wr.heap.size + 1, 0, none⟩ 1 1 [.string t1, .string t2] rfl rfl (cells_two_plain _ _ _ _ _ (by simp only [World.size_alloc, setIn_size])) (by simp [Value.oneCell']) (by decide) hm63.out (by omega) (by simp only [World.size_alloc, setIn_size]; omega) _ rfl ?_); intro g cap w3 ho3 hg3 hat hlt3; obtain ⟨e1, e2⟩ := refrow_far HR.out hqW0 (by omega) hg3))
      exact ⟨⟨k + 1, s2, b2, _, _, by omega, by go_num, Lib.hid (refrow_next HR.out hgW0 hqW0 (by omega) hlt y2.out hr1'.out hr2'.out rfl hg3 ho3)⟩, by simp [intOf]; omega⟩
    · have hfin : rowR n s6 b6 = (cs, s, b) := by
        have h := HR.out.more [] s b (by
          by_cases hkn : k < n
          · have hb : b = true := by
              cases b with
              | true => rfl
              | false => exact absurd ⟨hkn, rfl⟩ hgo
            rw [hb]; exact rowR_bad _ _
          · rw [show n - k = 0 from by omega]; rfl)
        simpa using h
      have HN : Hid (ansR S = (v1, v2, v3, v4, cs, fineR s b)) := Lib.hid (by rw [HO.out, Int.toNat_natCast, hfin])
      have hw0 : w1.heap.size ≤ wr.heap.size := HR.out.kept.size
      have hkp := HR.out.kept
      have hS5 := HS.out
      have e1 : wr.heap[w.heap.size]? = some (.cells zeroId 23) := by rw [hkp.block _ (by omega) (by omega)]; exact H1.out
      have e2 : wr.heap[w.heap.size + 1]? = some (.cells zeroRep 31) := by rw [hkp.block _ (by omega) (by omega)]; exact H2.out
      have e3 : wr.heap[w.heap.size + 1 + 1 + 1]? = some (.cells #[.int .i64 v1, .int .i64 v2] 23) := by rw [hkp.block _ (by omega) (by omega)]; exact H3.out
      obtain ⟨z0', z1', zf0, zf1⟩ := cells2 e1
      obtain ⟨⟨y0, y1, y2⟩, yf⟩ := cells3 e2
      obtain ⟨x0, x1, _, _⟩ := cells2 e3
      have HBW : Hid (Below w.heap.size w wr) := Lib.hid (HB.out.trans (hkp.below (by omega) (fun x hx h => by omega)))
      have HI2 := Lib.hid HR.out.isin
      have hdec : (decide (k < n) && !b) = false := by
        by_cases hkn : k < n
        · cases b with
          | true => simp
          | false => exact absurd ⟨hkn, rfl⟩ hgo
        · simp [hkn]
      have Hgo := Lib.hid hgo
      clear hfin hkp hS5 e1 e2 e3 hgo
      have hsplit : (k < n ∧ b = true) ∨ ¬ k < n := by
        by_cases hkn : k < n
        · cases b with
          | true => exact Or.inl ⟨hkn, rfl⟩
          | false => exact absurd ⟨hkn, rfl⟩ Hgo.out
        · exact Or.inr hkn
      clear hdec
      have hfcall := fun W (h : IsIn W (w.heap.size + 1 + 1) s b) => fine_any (w.heap.size + 1 + 1) s b W h
      generalize hfb : fineR s b = fin at *
      clear hfb
      have HF := Lib.hid hfcall
      clear hfcall
      have HSP := Lib.hid hsplit
      clear hsplit
      rcases HSP.out with ⟨hkn, rfl⟩ | hkn
      all_goals
        cases fin with
        | true =>
          go_wp2_with (first | (go_at_call 25; refine (HF.out _ HI2.out).mono ?_; rintro e w2 ⟨rfl, nd, rfl⟩))
          go_region
          all_goals go_wp2
          all_goals
            refine bodyPost_ret (v := .tuple #[.agg #[.int .i64 v1, .int .i64 v2], .agg #[.int .i64 v3, .int .i64 v4, .slice ua k uc], .int .i64 0]) ?_ rfl ?_
            · simp [results, Try.results9, go_sem, y0, y1, y2, z0', z1']
            · unfold RefAnsPost
              rw [HN.out]
              refine ⟨?_, ?_⟩
              · iterate 5 refine Below.setCell ?_ (by simp) _
                exact HBW.out.trans ⟨rfl, rfl, rfl, Nat.le_refl _, fun _ _ => rfl⟩
              · rw [if_pos rfl]
                refine ⟨ua, k, uc, rfl, ownsRow_base (B := w1.heap.size) (ownsRow_kept HO2.out fun b hb1 hb2 => ?_) (by have := HS.out; omega)⟩
                have hs5 := HS.out
                show ((((((wr.drewN nd).setCell _ _).setCell _ _).setCell _ _).setCell _ _).setCell _ _).heap[b]? = _
                iterate 5 rw [Below.heap_setCell _ _ _ _ (by simp only; omega)]
                rfl
        | false =>
          go_wp2_with (first | (go_at_call 25; refine (HF.out _ HI2.out).mono ?_; rintro e w2 ⟨rfl, nd, rfl⟩))
          refine bodyPost_ret (v := .tuple #[.agg zeroId, .agg zeroRep, .int .i64 140]) ?_ rfl ?_
          · simp [results, Try.results9, go_sem, y0, y1, y2, z0', z1', zeroId, zeroRep]
          · unfold RefAnsPost
            rw [HN.out]
            refine ⟨?_, rfl⟩
            iterate 5 refine Below.setCell ?_ (by simp) _
            exact HBW.out.trans ⟨rfl, rfl, rfl, Nat.le_refl _, fun _ _ => rfl⟩
end Go.Proofs.Ytibmaeckmnkmjaa

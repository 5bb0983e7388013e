/- The reference's reader: texts, the mark, the end, an op. -/
import Derived.Test.YtibmaeckmnkmjaaR1
import Derived.Test.YtibmaeckmnkmjaaK4
namespace Go.Proofs.Ytibmaeckmnkmjaa
open Go.RowKit

set_option maxRecDepth 100000 in
set_option maxHeartbeats 1000000 in
theorem text_any (g : Nat) (s : ByteArray) (b : Bool) (w : World) (h : IsIn w g s b) :
    Calls Try.prog 28 #[.pointer (some ⟨g, 0, none⟩)] w fun e w' => e = .returned (.string (textR s b).1) ∧ setIn w g (textR s b).2.1 (textR s b).2.2 = w' := by
  have hs := Nat.le_trans (mostR_size 262144 s b) h.size
  have hset := h.set (c := (mostR 262144 s b).2.2) hs
  have hT : textR s b = textR s b := rfl
  conv at hT => rhs; unfold textR
  obtain ⟨hn0, hn1⟩ := mostR_nonneg 262144 (by decide) s b
  have hcall := fun wx hx => most_any g s b 262144 wx hx
  generalize mostR 262144 s b = R at *
  obtain ⟨n, r, bad⟩ := R
  simp only at hs hset hT hn0 hn1 hcall
  obtain ⟨n, rfl⟩ := Int.eq_ofNat_of_zero_le hn0
  obtain ⟨c0, c1, f0, f1, hr⟩ := id hset
  have hr' : r.size ≤ 9223372036854775807 := hr
  have H := Lib.hid h
  have HS := Lib.hid hset
  clear h hset
  by_cases hb : bad = true
  · subst hb
    rw [if_pos (Or.inl rfl)] at hT
    have HT := Lib.hid hT; clear hT
    go_enter Try.func28, Try.ntmps28
    go_wp2_with (first | (go_at_call 27; refine (hcall _ H.out).mono ?_; rintro e w' ⟨rfl, rfl⟩))
    go_ret
    rw [HT.out]
    refine ⟨rfl, ?_⟩
    show setIn w g r true = (setIn w g r true).setCell _ _
    rw [← setIn_bad HS.out, setIn_again]
  · obtain rfl : bad = false := by simpa using hb
    by_cases hle : (r.size : Int) < n
    · rw [if_pos (Or.inr hle)] at hT
      have HT := Lib.hid hT; clear hT
      have hle' : decide (r.size < n) = true := by simpa using hle
      go_enter Try.func28, Try.ntmps28
      go_wp2_with (first | (go_at_call 27; refine (hcall _ H.out).mono ?_; rintro e w' ⟨rfl, rfl⟩))
      go_ret
      rw [HT.out]
      refine ⟨rfl, ?_⟩
      show setIn w g r true = (setIn w g r false).setCell _ _
      rw [← setIn_bad HS.out, setIn_again]
    · rw [if_neg (by simp; omega)] at hT
      have hT' : textR s b = (r.extract 0 n, r.extract n r.size, false) := hT
      have HT := Lib.hid hT'; clear hT hT'
      have hle' : decide (r.size < n) = false := by simp; omega
      go_enter Try.func28, Try.ntmps28
      go_wp2_with (first | (go_at_call 27; refine (hcall _ H.out).mono ?_; rintro e w' ⟨rfl, rfl⟩))
      go_ret
      rw [HT.out]
      refine ⟨rfl, ?_⟩
      show setIn w g (r.extract n r.size) false = (setIn w g r false).setCell _ _
      rw [← setIn_good HS.out, setIn_again]

def markR (c : UInt8) (s : ByteArray) : ByteArray × Bool := if s.data.toList.head? = some c then (s.extract 1 s.size, false) else (s, true)

set_option maxRecDepth 100000 in
set_option maxHeartbeats 1000000 in
theorem mark_any (g : Nat) (s : ByteArray) (c : UInt8) (w : World) (h : IsIn w g s false) :
    Calls Try.prog 22 #[.pointer (some ⟨g, 0, none⟩), .int .u8 c.toNat] w fun e w' => e = .returned (.tuple #[]) ∧ setIn w g (markR c s).1 (markR c s).2 = w' := by
  obtain ⟨c0, c1, f0, f1, hs⟩ := id h
  have hs' : s.size ≤ 9223372036854775807 := hs
  have H := Lib.hid h
  clear h
  by_cases h0 : s.size = 0
  · obtain rfl : s = ⟨#[]⟩ := by cases s with | mk d => congr 1; exact Array.eq_empty_of_size_eq_zero h0
    have hM : markR c ⟨#[]⟩ = (⟨#[]⟩, true) := rfl
    have HM := Lib.hid hM; clear hM h0
    go_enter Try.func22, Try.ntmps22
    go_wp2
    first | go_end0 | refine bodyPost_ret (results_none rfl _ _ _) rfl ?_
    rw [HM.out]
    exact ⟨rfl, setIn_bad H.out⟩
  · have hpos : 0 < s.size := by omega
    have hl : s.data.toList = s[0] :: s.data.toList.drop 1 := by have := drop_at s 0 hpos; simpa using this
    have hne : (s.toList == []) = false := by rw [ByteArray.toList_eq, hl]; rfl
    by_cases hc : s[0] = c
    · have hM : markR c s = (s.extract 1 s.size, false) := by unfold markR; rw [hl, if_pos (by simp [hc])]
      have HM := Lib.hid hM
      have hd : (((s[0]).toNat : Int) != (c.toNat : Int)) = false := by rw [hc]; simp
      clear hM h0 hl hc
      go_enter Try.func22, Try.ntmps22
      go_wp2
      first | go_end0 | refine bodyPost_ret (results_none rfl _ _ _) rfl ?_
      rw [HM.out]
      exact ⟨rfl, setIn_good H.out⟩
    · have hM : markR c s = (s, true) := by unfold markR; rw [hl, if_neg (by simpa using hc)]
      have HM := Lib.hid hM
      have hd : (((s[0]).toNat : Int) != (c.toNat : Int)) = true := by
        simp only [bne_iff_ne, ne_eq]
        intro e; exact hc (UInt8.toNat_inj.1 (by omega))
      clear hM h0 hl hc
      go_enter Try.func22, Try.ntmps22
      go_wp2
      first | go_end0 | refine bodyPost_ret (results_none rfl _ _ _) rfl ?_
      rw [HM.out]
      exact ⟨rfl, setIn_bad H.out⟩

def fineR (s : ByteArray) (b : Bool) : Bool := !b && s.toList.isEmpty

theorem fine_any (g : Nat) (s : ByteArray) (b : Bool) (w : World) (h : IsIn w g s b) :
    Calls Try.prog 25 #[.pointer (some ⟨g, 0, none⟩)] w fun e w' => e = .returned (.bool (fineR s b)) ∧ ∃ n, w.drewN n = w' := by
  obtain ⟨c0, c1, f0, f1, hs⟩ := h
  cases b with
  | true =>
    go_enter Try.func25, Try.ntmps25
    go_wp2
    go_ret
    exact ⟨rfl, 0, rfl⟩
  | false =>
    go_enter Try.func25, Try.ntmps25
    go_wp2
    go_ret
    exact ⟨rfl, 0, rfl⟩

/-- An op out of the reader: its fields, and what the reader holds then. -/
structure OpV where
  k : Int
  a : ByteArray
  b : ByteArray
  c : ByteArray
  d : ByteArray
  e : ByteArray
  f : ByteArray
  m : Int
  n : Int

def OpV.val (x : OpV) : Array Value := #[.int .i64 x.k, .string x.a, .string x.b, .string x.c, .string x.d, .string x.e, .string x.f, .int .i64 x.m, .int .i64 x.n]

def opR (s : ByteArray) (b : Bool) : OpV × ByteArray × Bool :=
  let r0 := numR s b
  let r1 := textR r0.2.1 r0.2.2
  let r2 := textR r1.2.1 r1.2.2
  let r3 := textR r2.2.1 r2.2.2
  let r4 := textR r3.2.1 r3.2.2
  let r5 := textR r4.2.1 r4.2.2
  let r6 := textR r5.2.1 r5.2.2
  let r7 := numR r6.2.1 r6.2.2
  let r8 := numR r7.2.1 r7.2.2
  (⟨r0.1, r1.1, r2.1, r3.1, r4.1, r5.1, r6.1, r7.1, r8.1⟩, r8.2.1, r8.2.2)

theorem setIn_size (w : World) (g : Nat) (s : ByteArray) (b : Bool) : (setIn w g s b).heap.size = w.heap.size := by simp [setIn]

theorem setIn_alloc2 (w : World) (g : Nat) (s : ByteArray) (b : Bool) (A B : Obj) (hg : g < w.heap.size) : setIn ((w.alloc A).alloc B) g s b = ((setIn w g s b).alloc A).alloc B := by
  unfold setIn
  rw [setCell_alloc_old _ _ ⟨g, 0, none⟩ _ (by simp; omega), setCell_alloc_old _ _ ⟨g, 0, none⟩ _ hg, setCell_alloc_old _ _ ⟨g, 1, none⟩ _ (by simp; omega), setCell_alloc_old _ _ ⟨g, 1, none⟩ _ (by simp; omega)]

theorem IsIn.lt {w : World} {g : Nat} {s : ByteArray} {b : Bool} (h : IsIn w g s b) : g < w.heap.size := World.block_lt_of_cell? w ⟨g, 0, none⟩ h.c0

theorem IsIn.alloc2 {w : World} {g : Nat} {s : ByteArray} {b : Bool} (h : IsIn w g s b) (A B : Obj) : IsIn ((w.alloc A).alloc B) g s b := by
  have hg := h.lt
  refine ⟨?_, ?_, ?_, ?_, h.size⟩
  · rw [World.cell?_alloc_lt _ _ _ (by simp; omega), World.cell?_alloc_lt _ _ _ hg]; exact h.c0
  · rw [World.cell?_alloc_lt _ _ _ (by simp; omega), World.cell?_alloc_lt _ _ _ hg]; exact h.c1
  · rw [World.frozen?_alloc_old _ _ _ (by simp; omega), World.frozen?_alloc_old _ _ _ (by simp; omega)]; exact h.f0
  · rw [World.frozen?_alloc_old _ _ _ (by simp; omega), World.frozen?_alloc_old _ _ _ (by simp; omega)]; exact h.f1

theorem num_at {g : Nat} {s0 : ByteArray} {b0 : Bool} {w : World} (h : IsIn w g s0 b0) (s : ByteArray) (b : Bool) (hs : s.size ≤ maxLen) (A B : Obj) :
    Calls Try.prog 23 #[.pointer (some ⟨g, 0, none⟩)] (((setIn w g s b).alloc A).alloc B) fun e w' => e = .returned (.int .i64 (numR s b).1) ∧ ((setIn w g (numR s b).2.1 (numR s b).2.2).alloc A).alloc B = w' := by
  refine (num_any g s b _ ((h.set (c := b) hs).alloc2 A B)).mono ?_
  rintro e w' ⟨rfl, rfl⟩
  exact ⟨rfl, by rw [setIn_alloc2 _ _ _ _ _ _ (by rw [setIn_size]; exact h.lt), setIn_again]⟩

theorem text_at {g : Nat} {s0 : ByteArray} {b0 : Bool} {w : World} (h : IsIn w g s0 b0) (s : ByteArray) (b : Bool) (hs : s.size ≤ maxLen) (A B : Obj) :
    Calls Try.prog 28 #[.pointer (some ⟨g, 0, none⟩)] (((setIn w g s b).alloc A).alloc B) fun e w' => e = .returned (.string (textR s b).1) ∧ ((setIn w g (textR s b).2.1 (textR s b).2.2).alloc A).alloc B = w' := by
  refine (text_any g s b _ ((h.set (c := b) hs).alloc2 A B)).mono ?_
  rintro e w' ⟨rfl, rfl⟩
  exact ⟨rfl, by rw [setIn_alloc2 _ _ _ _ _ _ (by rw [setIn_size]; exact h.lt), setIn_again]⟩

set_option maxRecDepth 100000 in
set_option maxHeartbeats 4000000 in
theorem op_at {g : Nat} {s0 : ByteArray} {b0 : Bool} {w : World} (h : IsIn w g s0 b0) (s : ByteArray) (b : Bool) (hs : s.size ≤ maxLen) :
    Calls Try.prog 24 #[.pointer (some ⟨g, 0, none⟩)] (setIn w g s b) fun e w' => e = .returned (.agg (opR s b).1.val) ∧
      ((setIn w g (opR s b).2.1 (opR s b).2.2).alloc (.cells (opR s b).1.val 25)).alloc (.cells (opR s b).1.val 25) = w' := by
  have hsz := setIn_size w g
  have H := Lib.hid h
  clear h
  have z1 := Lib.hid (Nat.le_trans (numR_size s b) hs)
  have hO : opR s b = opR s b := rfl
  conv at hO => rhs; unfold opR
  have HO := Lib.hid hO; clear hO
  go_enter Try.func24, Try.ntmps24
  go_wp2_with fail
  have z1 := Lib.hid (Nat.le_trans (numR_size s b) hs)
  refine (num_at H.out s b hs _ _).mono ?_
  rintro e w1 ⟨rfl, rfl⟩
  generalize numR s b = R at *
  obtain ⟨v0, s1, b1⟩ := R
  simp only at z1
  go_wp2_with fail
  have z2 := Lib.hid (Nat.le_trans (textR_size s1 b1) z1.out)
  refine (text_at H.out s1 b1 z1.out _ _).mono ?_
  rintro e w1 ⟨rfl, rfl⟩
  generalize textR s1 b1 = R at *
  obtain ⟨v1, s2, b2⟩ := R
  simp only at z2
  go_wp2_with fail
  have z3 := Lib.hid (Nat.le_trans (textR_size s2 b2) z2.out)
  refine (text_at H.out s2 b2 z2.out _ _).mono ?_
  rintro e w1 ⟨rfl, rfl⟩
  generalize textR s2 b2 = R at *
  obtain ⟨v2, s3, b3⟩ := R
  simp only at z3
  go_wp2_with fail
  have z4 := Lib.hid (Nat.le_trans (textR_size s3 b3) z3.out)
  refine (text_at H.out s3 b3 z3.out _ _).mono ?_
  rintro e w1 ⟨rfl, rfl⟩
  generalize textR s3 b3 = R at *
  obtain ⟨v3, s4, b4⟩ := R
  simp only at z4
  go_wp2_with fail
  have z5 := Lib.hid (Nat.le_trans (textR_size s4 b4) z4.out)
  refine (text_at H.out s4 b4 z4.out _ _).mono ?_
  rintro e w1 ⟨rfl, rfl⟩
  generalize textR s4 b4 = R at *
  obtain ⟨v4, s5, b5⟩ := R
  simp only at z5
  go_wp2_with fail
  have z6 := Lib.hid (Nat.le_trans (textR_size s5 b5) z5.out)
  refine (text_at H.out s5 b5 z5.out _ _).mono ?_
  rintro e w1 ⟨rfl, rfl⟩
  generalize textR s5 b5 = R at *
  obtain ⟨v5, s6, b6⟩ := R
  simp only at z6
  go_wp2_with fail
  have z7 := Lib.hid (Nat.le_trans (textR_size s6 b6) z6.out)
  refine (text_at H.out s6 b6 z6.out _ _).mono ?_
  rintro e w1 ⟨rfl, rfl⟩
  generalize textR s6 b6 = R at *
  obtain ⟨v6, s7, b7⟩ := R
  simp only at z7
  go_wp2_with fail
  have z8 := Lib.hid (Nat.le_trans (numR_size s7 b7) z7.out)
  refine (num_at H.out s7 b7 z7.out _ _).mono ?_
  rintro e w1 ⟨rfl, rfl⟩
  generalize numR s7 b7 = R at *
  obtain ⟨v7, s8, b8⟩ := R
  simp only at z8
  go_wp2_with fail
  have z9 := Lib.hid (Nat.le_trans (numR_size s8 b8) z8.out)
  refine (num_at H.out s8 b8 z8.out _ _).mono ?_
  rintro e w1 ⟨rfl, rfl⟩
  generalize numR s8 b8 = R at *
  obtain ⟨v8, s9, b9⟩ := R
  simp only at z9
  go_wp2
  refine bodyPost_ret (v := .agg #[.int .i64 v0, .string v1, .string v2, .string v3, .string v4, .string v5, .string v6, .int .i64 v7, .int .i64 v8]) ?_ rfl ⟨?_, ?_⟩
  · simp [results, Try.results24, go_sem, hsz]
  · rw [HO.out]; rfl
  · rw [HO.out]; rfl
end Go.Proofs.Ytibmaeckmnkmjaa

/- The reference's reader: its methods on numbers and texts. -/
import Derived.Test.YtibmaeckmnkmjaaK1
import Derived.Test.YtibmaeckmnkmjaaS2
import Derived.Test.YtibmaeckmnkmjaaH0
namespace Go.Proofs.Ytibmaeckmnkmjaa
open Go.RowKit

/-- The reader's block, with a text and a mark. -/
def setIn (w : World) (g : Nat) (s : ByteArray) (b : Bool) : World := (w.setCell ⟨g, 0, none⟩ (.string s)).setCell ⟨g, 1, none⟩ (.bool b)

structure IsIn (w : World) (g : Nat) (s : ByteArray) (b : Bool) : Prop where
  c0 : w.cell? ⟨g, 0, none⟩ = some (.string s)
  c1 : w.cell? ⟨g, 1, none⟩ = some (.bool b)
  f0 : w.frozen? ⟨g, 0, none⟩ = false
  f1 : w.frozen? ⟨g, 1, none⟩ = false
  size : s.size ≤ maxLen

theorem setIn_bad {w : World} {g : Nat} {s : ByteArray} {b : Bool} (h : IsIn w g s b) : setIn w g s true = w.setCell ⟨g, 1, none⟩ (.bool true) := by
  unfold setIn; rw [setCell_held _ _ _ h.c0]

theorem setIn_good {w : World} {g : Nat} {s r : ByteArray} {b : Bool} (h : IsIn w g s b) : setIn w g r b = w.setCell ⟨g, 0, none⟩ (.string r) := by
  unfold setIn; rw [setCell_held _ ⟨g, 1, none⟩ _ (by rw [World.cell?_setCell_other _ _ _ _ (by simp)]; exact h.c1)]

theorem setIn_again (w : World) (g : Nat) (s r : ByteArray) (b c : Bool) : setIn (setIn w g s b) g r c = setIn w g r c := by
  unfold setIn
  rw [setCell_comm _ ⟨g, 1, none⟩ ⟨g, 0, none⟩ _ _ (by simp), setCell_again, setCell_again]

theorem IsIn.set {w : World} {g : Nat} {s r : ByteArray} {b c : Bool} (h : IsIn w g s b) (hr : r.size ≤ maxLen) : IsIn (setIn w g r c) g r c := by
  unfold setIn
  refine ⟨?_, ?_, by simpa using h.f0, by simpa using h.f1, hr⟩
  · rw [World.cell?_setCell_other _ _ _ _ (by simp), World.cell?_setCell_same _ _ _ h.c0]
  · obtain ⟨v, hv⟩ := cell?_setCell_some (p := ⟨g, 0, none⟩) (x := .string r) h.c1
    exact World.cell?_setCell_same _ _ _ hv

theorem setIn_same {w : World} {g : Nat} {s : ByteArray} {b : Bool} (h : IsIn w g s b) : setIn w g s b = w := by
  unfold setIn; rw [setCell_held _ _ _ h.c0, setCell_held _ _ _ h.c1]

def numR (s : ByteArray) (b : Bool) : Int × ByteArray × Bool :=
  if b then (0, s, true) else match takeNum s 1099511627776 with
    | some (n, r) => (n, r, false)
    | none => (0, s, true)

def mostR (m : Int) (s : ByteArray) (b : Bool) : Int × ByteArray × Bool :=
  if (numR s b).1 ≤ m then numR s b else (0, (numR s b).2.1, true)

def textR (s : ByteArray) (b : Bool) : ByteArray × ByteArray × Bool :=
  if (mostR 262144 s b).2.2 = true ∨ ((mostR 262144 s b).2.1.size : Int) < (mostR 262144 s b).1 then (⟨#[]⟩, (mostR 262144 s b).2.1, true)
  else ((mostR 262144 s b).2.1.extract 0 (mostR 262144 s b).1.toNat, (mostR 262144 s b).2.1.extract (mostR 262144 s b).1.toNat (mostR 262144 s b).2.1.size, false)

theorem numR_size (s : ByteArray) (b : Bool) : (numR s b).2.1.size ≤ s.size := by
  unfold numR
  split
  · exact Nat.le_refl _
  · split
    · rename_i h; exact Nat.le_of_lt (takeNum_size h)
    · exact Nat.le_refl _

theorem numR_nonneg (s : ByteArray) (b : Bool) : 0 ≤ (numR s b).1 ∧ (numR s b).1 ≤ 1099511627776 := by
  unfold numR
  split
  · simp
  · split
    · rename_i h; obtain ⟨_, _, h1, h2, _⟩ := takeNum_some h; exact ⟨h1, h2⟩
    · simp

theorem mostR_size (m : Int) (s : ByteArray) (b : Bool) : (mostR m s b).2.1.size ≤ s.size := by
  unfold mostR; split <;> exact numR_size s b

theorem mostR_nonneg (m : Int) (hm : 0 ≤ m) (s : ByteArray) (b : Bool) : 0 ≤ (mostR m s b).1 ∧ (mostR m s b).1 ≤ m := by
  unfold mostR
  have := numR_nonneg s b
  split
  · omega
  · exact ⟨Int.le_refl _, hm⟩

theorem textR_size (s : ByteArray) (b : Bool) : (textR s b).2.1.size ≤ s.size := by
  have := mostR_size 262144 s b
  unfold textR
  split
  · exact this
  · simp only; rw [size_extract]; omega

set_option maxRecDepth 100000 in
set_option maxHeartbeats 1000000 in
theorem num_any (g : Nat) (s : ByteArray) (b : Bool) (w : World) (h : IsIn w g s b) :
    Calls Try.prog 23 #[.pointer (some ⟨g, 0, none⟩)] w fun e w' => e = .returned (.int .i64 (numR s b).1) ∧ setIn w g (numR s b).2.1 (numR s b).2.2 = w' := by
  obtain ⟨c0, c1, f0, f1, hs⟩ := id h
  have hs' : s.size ≤ 9223372036854775807 := hs
  have hcall := fun wx => refVar s wx hs _ rfl
  have H := Lib.hid h
  clear h
  cases b with
  | true =>
    have hR : numR s true = (0, s, true) := rfl
    have HR := Lib.hid hR; clear hR
    go_enter Try.func23, Try.ntmps23
    go_wp2_with (first | (go_at_call 43; refine (hcall _).mono ?_; rintro e w' ⟨rfl, rfl⟩))
    go_ret
    rw [HR.out]
    exact ⟨rfl, setIn_bad H.out⟩
  | false =>
    cases ht : takeNum s 1099511627776 with
    | none =>
      have hR : numR s false = (0, s, true) := by simp [numR, ht]
      have HR := Lib.hid hR; clear hR
      have hn := takeNum_none ht
      clear ht
      generalize varS s.data.toList = R at *
      obtain ⟨n, k, e⟩ := R
      simp only at hcall hn
      by_cases he : (e == 0) = true
      · have hd : decide (n ≤ 1099511627776) = false := by simpa using hn he
        have hd2 : 1099511627776 < n := by have := hn he; omega
        have he2 : (e != 0) = false := by simpa using he
        clear hn he
        go_enter Try.func23, Try.ntmps23
        go_wp2_with (first | (go_at_call 43; refine (hcall _).mono ?_; rintro e w' ⟨rfl, rfl⟩))
        go_ret
        rw [HR.out]
        exact ⟨rfl, setIn_bad H.out⟩
      · have he2 : (e != 0) = true := by simpa using he
        clear hn he
        go_enter Try.func23, Try.ntmps23
        go_wp2_with (first | (go_at_call 43; refine (hcall _).mono ?_; rintro e w' ⟨rfl, rfl⟩))
        go_ret
        rw [HR.out]
        exact ⟨rfl, setIn_bad H.out⟩
    | some y =>
      obtain ⟨n, r⟩ := y
      have hR : numR s false = (n, r, false) := by simp [numR, ht]
      have HR := Lib.hid hR; clear hR
      obtain ⟨k, hv, h0, hm, h63, hk0, hk, hr⟩ := takeNum_some ht
      have hcall := fun wx => refVar s wx hs _ hv
      have Hr := Lib.hid hr
      clear hv ht hr
      have hm' : ¬ 1099511627776 < n := by omega
      go_enter Try.func23, Try.ntmps23
      go_wp2_with (first | (go_at_call 43; refine (hcall _).mono ?_; rintro e w' ⟨rfl, rfl⟩))
      go_ret
      rw [HR.out]
      exact ⟨rfl, by rw [Hr.out]; exact setIn_good H.out⟩

set_option maxRecDepth 100000 in
set_option maxHeartbeats 1000000 in
theorem most_any (g : Nat) (s : ByteArray) (b : Bool) (m : Int) (w : World) (h : IsIn w g s b) :
    Calls Try.prog 27 #[.pointer (some ⟨g, 0, none⟩), .int .i64 m] w fun e w' => e = .returned (.int .i64 (mostR m s b).1) ∧ setIn w g (mostR m s b).2.1 (mostR m s b).2.2 = w' := by
  have hs := Nat.le_trans (numR_size s b) h.size
  have hset := h.set (c := (numR s b).2.2) hs
  have c1 := hset.c1
  have f1 := hset.f1
  have H := Lib.hid h
  have HS := Lib.hid hset
  clear h hset
  by_cases hle : (numR s b).1 ≤ m
  · have hR : mostR m s b = numR s b := by unfold mostR; rw [if_pos hle]
    have HR := Lib.hid hR; clear hR
    have hle' : ¬ m < (numR s b).1 := by omega
    go_enter Try.func27, Try.ntmps27
    go_wp2_with (first | (go_at_call 23; refine (num_any g s b _ H.out).mono ?_; rintro e w' ⟨rfl, rfl⟩))
    go_ret
    rw [HR.out]
    exact ⟨rfl, rfl⟩
  · have hR : mostR m s b = (0, (numR s b).2.1, true) := by unfold mostR; rw [if_neg hle]
    have HR := Lib.hid hR; clear hR
    have hle' : m < (numR s b).1 := by omega
    go_enter Try.func27, Try.ntmps27
    go_wp2_with (first | (go_at_call 23; refine (num_any g s b _ H.out).mono ?_; rintro e w' ⟨rfl, rfl⟩))
    go_ret
    rw [HR.out]
    refine ⟨rfl, ?_⟩
    show setIn w g (numR s b).2.1 true = (setIn w g (numR s b).2.1 (numR s b).2.2).setCell _ _
    rw [← setIn_bad HS.out, setIn_again]

end Go.Proofs.Ytibmaeckmnkmjaa

/- A number as bytes: package bits, and the reference. -/
import Derived.Test.YtibmaeckmnkmjaaB0
import Derived.Test.YtibmaeckmnkmjaaS0
import Derived.Laws.IdiomStrings
import Derived.Laws.AppendOwn
import Derived.Below
import Derived.Lib.BufferRead
namespace Go.Proofs.Ytibmaeckmnkmjaa
open Go.RowKit Go.Lib

def putV (n : Nat) : List UInt8 :=
  if h : n ≤ 127 then [UInt8.ofNat n] else UInt8.ofNat (n % 128 + 128) :: putV (n / 128)
termination_by n

theorem putV_small {n : Nat} (h : n ≤ 127) : putV n = [UInt8.ofNat n] := by rw [putV]; simp [h]
theorem putV_more {n : Nat} (h : ¬ n ≤ 127) : putV n = UInt8.ofNat (n % 128 + 128) :: putV (n / 128) := by rw [putV]; simp [h]

theorem putV_len (n : Nat) : (putV n).length ≤ n + 1 := by
  induction n using Nat.strongRecOn with
  | _ n ih =>
    by_cases h : n ≤ 127
    · rw [putV_small h]; simp
    · rw [putV_more h]
      have := ih (n / 128) (by omega)
      simp only [List.length_cons]; omega

theorem putV_len9 (k : Nat) : ∀ n, n < 128 ^ (k + 1) → (putV n).length ≤ k + 1 := by
  induction k with
  | zero => intro n hn; rw [putV_small (by simpa using Nat.le_of_lt_succ hn)]; simp
  | succ k ih =>
    intro n hn
    by_cases h : n ≤ 127
    · rw [putV_small h]; simp
    · rw [putV_more h]
      have := ih (n / 128) (by rw [Nat.div_lt_iff_lt_mul (by decide)]; rw [Nat.pow_succ] at hn; exact hn)
      simp only [List.length_cons]; omega

theorem conv_owned {w : World} {base : Nat} {v : Value} {n : Nat} {l : List UInt8} (h : w.ownsRow base 5 1 v n (byteCells l)) :
    (convert 71 9 v).run Try.prog w = .ok (.string ⟨l.toArray⟩) w := by
  have hl : l.length = n := by have := h.1; simpa [byteCells_length] using this
  rcases h.2 with ⟨rfl, h0⟩ | ⟨g, cap, cur, rfl, hb, hg, h1, h2, h3, h4⟩
  · subst hl
    obtain rfl := List.eq_nil_of_length_eq_zero h0
    exact run_convert_nil_bytes w 71 9 5 0 Try.underlying71 Try.underlying5 Try.underlying9
  · subst hl
    refine run_convert_bytes_back w 71 9 5 ⟨g, 0, none⟩ cap l Try.underlying71 Try.underlying5 Try.underlying9 ?_
    intro j hj
    exact h.cells rfl j _ (by simp [byteCells, List.getElem?_eq_getElem hj])

theorem info5 : (Try.prog.info? 5).map (fun i => (i.zero, i.size, i.bytes)) = some (some (.int .u8 0), 1, 1) := by kernel_rfl

set_option maxRecDepth 100000 in
theorem or_128 (a : Nat) (h : a < 256) : a ||| 128 = a % 128 + 128 := by
  have key : ∀ a : Fin 256, a.val ||| 128 = a.val % 128 + 128 := by decide
  exact key ⟨a, h⟩

theorem byte_more (n : Nat) : bits .or .u8 (IntKind.u8.wrap (n : Int)) 128 = ((UInt8.ofNat (n % 128 + 128)).toNat : Int) := by
  have h1 := bits_nat .u8 8 (by decide) wraps_u8 (n % 256) 128 (by omega) (by decide)
  rw [IntKind.wrap_u8, show ((n : Int) % 256) = ((n % 256 : Nat) : Int) by omega, show (128 : Int) = ((128 : Nat) : Int) from rfl, h1.2, or_128 _ (by omega)]
  simp only [UInt8.toNat_ofNat']
  congr 1; omega

theorem byte_ref (n : Nat) : 128 + (n : Int) % 128 = ((UInt8.ofNat (n % 128 + 128)).toNat : Int) := by
  simp only [UInt8.toNat_ofNat']
  omega

theorem byte_last (n : Nat) (_h : n ≤ 127) : IntKind.u8.wrap (n : Int) = ((UInt8.ofNat n).toNat : Int) := by
  rw [IntKind.wrap_u8]
  simp only [UInt8.toNat_ofNat']
  omega

theorem byte_same (n : Nat) (h : n ≤ 127) : (n : Int) = ((UInt8.ofNat n).toNat : Int) := by
  simp only [UInt8.toNat_ofNat']
  omega

theorem putV_nine {n : Nat} (h : n ≤ 9223372036854775807) : (putV n).length ≤ 9 := putV_len9 8 n (by omega)

theorem put_len {n m : Nat} {l : List UInt8} (hn : n ≤ 9223372036854775807) (h : l ++ putV m = putV n) : l.length ≤ 9 := by
  have := congrArg List.length h
  have := putV_nine hn
  simp only [List.length_append] at *
  omega

theorem put_step {n m : Nat} {l : List UInt8} (hm : (127 : Int) < (m : Int)) (h : l ++ putV m = putV n) : (l ++ [UInt8.ofNat (m % 128 + 128)]) ++ putV (m / 128) = putV n := by
  rw [← h, putV_more (n := m) (by omega), List.append_assoc]; rfl

theorem put_end {n m : Nat} {l : List UInt8} (hm : (m : Int) ≤ 127) (h : l ++ putV m = putV n) : l ++ [UInt8.ofNat m] = putV n := by
  rw [← h, putV_small (n := m) (by omega)]

theorem own_push {w : World} {base : Nat} {v : Value} {l : List UInt8} {b : UInt8} {x : Int} (hx : x = (b.toNat : Int)) (h : w.ownsRow base 5 1 v (l.length + 1) (byteCells l ++ [.int .u8 x])) : w.ownsRow base 5 1 v (l ++ [b]).length (byteCells (l ++ [b])) := by
  subst hx
  simpa [byteCells] using h

theorem below_push {B : Nat} {w wr w2 : World} {o : Obj} {v : Value} {n : Nat} {xs : List Value} (h : Below B w wr) (hB : B ≤ w.heap.size) (ho : wr.ownsRow B 5 1 v n xs) (hg : (wr.alloc o).grownBy w2 v.ownBlock) : Below B w w2 := by
  have := h.size
  exact (h.alloc (by omega) _).grown hg (by simp; omega) (fun k hk => (ho.lt k hk).1)

theorem one_new (w : World) (x : Value) (t : TypeId) : ∀ j u, [x][j]? = some u → (w.alloc (.cells #[x] t)).cell? ((⟨w.heap.size, 0, none⟩ : Addr).add j) = some u := by
  intro j u hj
  match j, hj with
  | 0, hj => simp at hj; subst hj; simp [Addr.add]

theorem byte_cell (l : List UInt8) (b : UInt8) : byteCells (l ++ [b]) = byteCells l ++ [.int .u8 b.toNat] := by simp [byteCells]

set_option maxRecDepth 100000 in
set_option maxHeartbeats 1000000 in
theorem bitsPutVar (n : Nat) (w : World) (hn : n ≤ 9223372036854775807) : Calls Try.prog 56 #[.int .i64 n] w fun e w' => e = .returned (.tuple #[.string ⟨(putV n).toArray⟩, .int .i64 0]) ∧ Below w.heap.size w w' := by
  obtain ⟨i0, hi, hz0, hz1, hz2⟩ := info_parts info5
  go_enter Try.func56, Try.ntmps56
  go_wp2
  go_loopw [0, 4] (fun c v wr => ∃ (m : Nat) (l : List UInt8), m ≤ 9223372036854775807 ∧ c = .int .i64 m ∧ wr.ownsRow w.heap.size 5 1 v l.length (byteCells l) ∧ Hid (l ++ putV m = putV n) ∧ Below w.heap.size w wr) (fun c _ _ => (RowKit.intOf c).toNat)
  case atStart => exact ⟨n, [], hn, rfl, World.ownsRow_nil _ _ _ _, Lib.hid rfl, Below.refl _ _⟩
  case round =>
    obtain ⟨m, l, hm, rfl, hown, hl, hbel⟩ := hrel
    go_wp2_with (first
      | (at_builtin; refine wpList_append_own _ rfl _ _ 71 rfl w.heap.size 5 i0 (.int .u8 0) 1 1 Try.underlying71 hi hz0 hz1 hz2 rfl (by decide) _ _ _ rfl (hown.alloc _) ⟨wr.heap.size, 0, none⟩ 1 1 [.int .u8 (bits .or .u8 (IntKind.u8.wrap m) 128)] rfl rfl (one_new _ _ _) (fun u hu => by simp at hu; subst hu; rfl) (by unfold maxLen; have := put_len hn hl.out; omega) (by have := put_len hn hl.out; omega) (by have := hbel.size; simp; omega) ?_; intro v' w2 hown' hgr _)
      | (at_builtin; refine wpList_append_own _ rfl _ _ 71 rfl w.heap.size 5 i0 (.int .u8 0) 1 1 Try.underlying71 hi hz0 hz1 hz2 rfl (by decide) _ _ _ rfl (hown.alloc _) ⟨wr.heap.size, 0, none⟩ 1 1 [.int .u8 (m : Int)] rfl rfl (one_new _ _ _) (fun u hu => by simp at hu; subst hu; rfl) (by unfold maxLen; have := put_len hn hl.out; omega) (by have := put_len hn hl.out; omega) (by have := hbel.size; simp; omega) ?_; intro v' w2 hown' hgr _)
      | go_in)
    · have hlt := (by assumption : (127 : Int) < (m : Int))
      have hown2 := own_push (byte_more m) hown'
      have hbel2 := below_push hbel (Nat.le_refl _) hown hgr
      clear hown hown' hgr hbel
      go_wp2
      go_roundw
      case rel => exact ⟨m / 128, _, by omega, by simp, hown2, Lib.hid (put_step (by omega) hl.out), hbel2⟩
      case measure => simp [RowKit.intOf]; omega
    · have hle := (by assumption : (m : Int) ≤ 127)
      have hown2 := own_push (byte_same m (by omega)) hown'
      have hbel2 := below_push hbel (Nat.le_refl _) hown hgr
      have hconv := conv_owned hown2
      clear hown hown' hgr hbel
      go_wp2
      rw [hconv]
      go_wp2
      go_ret2
      rw [put_end (by omega) hl.out]
      exact ⟨rfl, hbel2⟩

set_option maxRecDepth 100000 in
set_option maxHeartbeats 1000000 in
theorem refPutVar (n : Nat) (w : World) (hn : n ≤ 9223372036854775807) : Calls Try.prog 48 #[.int .i64 n] w fun e w' => e = .returned (.tuple #[.string ⟨(putV n).toArray⟩, .int .i64 0]) ∧ Below w.heap.size w w' := by
  obtain ⟨i0, hi, hz0, hz1, hz2⟩ := info_parts info5
  go_enter Try.func48, Try.ntmps48
  go_wp2
  go_loopw [0, 4] (fun c v wr => ∃ (m : Nat) (l : List UInt8), m ≤ 9223372036854775807 ∧ c = .int .i64 m ∧ wr.ownsRow w.heap.size 5 1 v l.length (byteCells l) ∧ Hid (l ++ putV m = putV n) ∧ Below w.heap.size w wr) (fun c _ _ => (RowKit.intOf c).toNat)
  case atStart => exact ⟨n, [], hn, rfl, World.ownsRow_nil _ _ _ _, Lib.hid rfl, Below.refl _ _⟩
  case round =>
    obtain ⟨m, l, hm, rfl, hown, hl, hbel⟩ := hrel
    go_wp2_with (first
      | (at_builtin; refine wpList_append_own _ rfl _ _ 71 rfl w.heap.size 5 i0 (.int .u8 0) 1 1 Try.underlying71 hi hz0 hz1 hz2 rfl (by decide) _ _ _ rfl (hown.alloc _) ⟨wr.heap.size, 0, none⟩ 1 1 [.int .u8 (128 + (m : Int) % 128)] rfl rfl (one_new _ _ _) (fun u hu => by simp at hu; subst hu; rfl) (by unfold maxLen; have := put_len hn hl.out; omega) (by have := put_len hn hl.out; omega) (by have := hbel.size; simp; omega) ?_; intro v' w2 hown' hgr _)
      | (at_builtin; refine wpList_append_own _ rfl _ _ 71 rfl w.heap.size 5 i0 (.int .u8 0) 1 1 Try.underlying71 hi hz0 hz1 hz2 rfl (by decide) _ _ _ rfl (hown.alloc _) ⟨wr.heap.size, 0, none⟩ 1 1 [.int .u8 (m : Int)] rfl rfl (one_new _ _ _) (fun u hu => by simp at hu; subst hu; rfl) (by unfold maxLen; have := put_len hn hl.out; omega) (by have := put_len hn hl.out; omega) (by have := hbel.size; simp; omega) ?_; intro v' w2 hown' hgr _)
      | go_in)
    · have hlt := (by assumption : (128 : Int) ≤ (m : Int))
      have hown2 := own_push (byte_ref m) hown'
      have hbel2 := below_push hbel (Nat.le_refl _) hown hgr
      clear hown hown' hgr hbel
      go_wp2
      go_roundw
      case rel => exact ⟨m / 128, _, by omega, by simp, hown2, Lib.hid (put_step (by omega) hl.out), hbel2⟩
      case measure => simp [RowKit.intOf]; omega
    · have hle := (by assumption : (m : Int) < 128)
      have hown2 := own_push (byte_same m (by omega)) hown'
      have hbel2 := below_push hbel (Nat.le_refl _) hown hgr
      have hconv := conv_owned hown2
      clear hown hown' hgr hbel
      go_wp2
      rw [hconv]
      go_wp2
      go_ret2
      rw [put_end (by omega) hl.out]
      exact ⟨rfl, hbel2⟩

end Go.Proofs.Ytibmaeckmnkmjaa

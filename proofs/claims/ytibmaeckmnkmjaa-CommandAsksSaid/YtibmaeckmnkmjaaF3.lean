/- 'FromAnswer' of the program's package command. -/
import Derived.Test.YtibmaeckmnkmjaaF2
namespace Go.Proofs.Ytibmaeckmnkmjaa
open Go.RowKit

def mA : ByteArray := ⟨#[65]⟩
def ansKs : List GK := [.flat .num, .flat .num, .flat .err, .flat .num, .posts]
def ansFs (b1 b2 : Nat) : List (GK × Addr) := [(.flat .num, ⟨b1, 0, none⟩), (.flat .num, ⟨b1, 1, none⟩), (.flat .err, ⟨b2, 0, none⟩), (.flat .num, ⟨b2, 1, none⟩), (.posts, ⟨b2, 2, none⟩)]

structure AnsV where
  s : Int
  q : Int
  e : Int
  a : Int
  n : Nat
  cs : List Value

def AnsV.fvs (x : AnsV) : List FV := [.val (.int .i64 x.s), .val (.int .i64 x.q), .val (.int .i64 x.e), .val (.int .i64 x.a), .row x.n x.cs]

theorem ans_shape {m s : ByteArray} {fvs : List FV} (h : fromG m ansKs s = some fvs) : ∃ x : AnsV, fvs = x.fvs := by
  obtain ⟨s1, r, ht⟩ := fromG_inv h
  obtain ⟨n0, _, _, rfl, ht1⟩ := num_inv ht
  obtain ⟨n1, _, _, rfl, ht2⟩ := num_inv ht1
  obtain ⟨n2, _, _, rfl, ht3⟩ := err_inv ht2
  obtain ⟨n3, _, _, rfl, ht4⟩ := num_inv ht3
  obtain ⟨n4, cs, _, _, rfl, ht5⟩ := posts_inv ht4
  simp only [takeAllG, Option.some.injEq, Prod.mk.injEq] at ht5
  rw [← ht5.1]
  exact ⟨⟨n0, n1, n2, n3, n4, cs⟩, rfl⟩

def zeroRep : Array Value := #[.int .i64 0, .int .i64 0, .slice none 0 0]

theorem cells3 {w : World} {b : Nat} {x y z : Value} {t : TypeId} (h : w.heap[b]? = some (.cells #[x, y, z] t)) :
    (w.cell? ⟨b, 0, none⟩ = some x ∧ w.cell? ⟨b, 1, none⟩ = some y ∧ w.cell? ⟨b, 2, none⟩ = some z) ∧ (∀ i, w.frozen? ⟨b, i, none⟩ = false) := by
  simp [World.cell?, World.frozen?, h]

theorem ans_fits {w : World} {b1 b2 g : Nat} (h1 : w.heap[b1]? = some (.cells zeroId 23)) (h2 : w.heap[b2]? = some (.cells zeroRep 31)) (hne : b1 ≠ b2) (hb1 : b1 ≠ g) (hb2 : b2 ≠ g)
    (hh : w.heap[g]? = some (.cells #[ifc 88 b1 0, ifc 88 b1 1, ifc 83 b2 0, ifc 88 b2 1, ifc 92 b2 2] 20)) : FitsW (ansFs b1 b2) g 0 w := by
  have hlt : g < w.heap.size := by
    rcases Nat.lt_or_ge g w.heap.size with h' | h'
    · exact h'
    · rw [Array.getElem?_eq_none h'] at hh; cases hh
  obtain ⟨c0, c1, f0, f1⟩ := cells2 h1
  obtain ⟨⟨d0, d1, d2⟩, df⟩ := cells3 h2
  refine ⟨hlt, ?_, ?_, ?_, ?_, ?_, ?_, ?_⟩
  · intro i hi
    have hi' : i < 5 := hi
    have e1 : w.cell? ⟨g, 0 + i, none⟩ = (#[ifc 88 b1 0, ifc 88 b1 1, ifc 83 b2 0, ifc 88 b2 1, ifc 92 b2 2] : Array Value)[i]? := by simp [World.cell?, hh]
    rw [e1]
    match i, hi' with
    | 0, _ | 1, _ | 2, _ | 3, _ | 4, _ => rfl
    | n + 5, h => omega
  · intro x hx
    simp only [ansFs, List.mem_cons, List.not_mem_nil, or_false] at hx
    rcases hx with rfl | rfl | rfl | rfl | rfl
    · exact ⟨_, c0⟩
    · exact ⟨_, c1⟩
    · exact ⟨_, d0⟩
    · exact ⟨_, d1⟩
    · exact ⟨_, d2⟩
  · intro x hx hk
    simp only [ansFs, List.mem_cons, List.not_mem_nil, or_false] at hx
    rcases hx with rfl | rfl | rfl | rfl | rfl <;> first | exact d2 | simp at hk
  · intro x hx
    simp only [ansFs, List.mem_cons, List.not_mem_nil, or_false] at hx
    rcases hx with rfl | rfl | rfl | rfl | rfl
    · exact f0
    · exact f1
    · exact df _
    · exact df _
    · exact df _
  · intro x hx
    simp only [ansFs, List.mem_cons, List.not_mem_nil, or_false] at hx
    rcases hx with rfl | rfl | rfl | rfl | rfl
    · exact hb1
    · exact hb1
    · exact hb2
    · exact hb2
    · exact hb2
  · intro x hx
    simp only [ansFs, List.mem_cons, List.not_mem_nil, or_false] at hx
    rcases hx with rfl | rfl | rfl | rfl | rfl <;> rfl
  · simp [ansFs]

theorem RepAll.row_inv {B : Nat} {w : World} {n : Nat} {cs : List Value} {ks : List GK} {fs : List FV} : ∀ {vs : List Value}, RepAll B w (.posts :: ks) (.row n cs :: fs) vs →
    ∃ u vs', vs = u :: vs' ∧ w.ownsRow B 38 2 u n cs ∧ RepAll B w ks fs vs'
  | [], h => h.elim
  | u :: vs', ⟨h1, h2⟩ => ⟨u, vs', rfl, h1, h2⟩

theorem own_slice {w : World} {B : Nat} {e : TypeId} {size : Nat} {v : Value} {n : Nat} {xs : List Value} (h : w.ownsRow B e size v n xs) : ∃ a c, v = .slice a n c := by
  rcases h.2 with ⟨rfl, rfl⟩ | ⟨g, cap, cur, rfl, _⟩
  · exact ⟨_, _, rfl⟩
  · exact ⟨_, _, rfl⟩

theorem ans_read {w1 w2 : World} {g b1 b2 : Nat} (F : FitsW (ansFs b1 b2) g 0 w1) {x : AnsV} {vs : List Value} (hb : Below w1.heap.size (puts w1 (((ansFs b1 b2).map (·.2)).zip vs)) w2)
    (hrep : RepAll w1.heap.size w2 ansKs x.fvs vs) :
    ∃ ua uc, (w2.cell? ⟨b1, 0, none⟩ = some (.int .i64 x.s) ∧ w2.cell? ⟨b1, 1, none⟩ = some (.int .i64 x.q)) ∧
    w2.cell? ⟨b2, 0, none⟩ = some (.int .i64 x.e) ∧ w2.cell? ⟨b2, 1, none⟩ = some (.int .i64 x.a) ∧ w2.cell? ⟨b2, 2, none⟩ = some (.slice ua x.n uc) ∧ w2.ownsRow w1.heap.size 38 2 (.slice ua x.n uc) x.n x.cs := by
  have hlen := RepAll.length hrep
  obtain ⟨s0, rfl, h0⟩ := RepAll.val_inv hrep
  obtain ⟨s1, rfl, h1⟩ := RepAll.val_inv h0
  obtain ⟨s2, rfl, h2⟩ := RepAll.val_inv h1
  obtain ⟨s3, rfl, h3⟩ := RepAll.val_inv h2
  obtain ⟨u, s4, rfl, hu, h4⟩ := RepAll.row_inv h3
  obtain rfl := RepAll.nil_inv h4
  obtain ⟨ua, uc, rfl⟩ := own_slice hu
  exact ⟨ua, uc, ⟨cell_of_post (i := 0) F hb hlen rfl rfl, cell_of_post (i := 1) F hb hlen rfl rfl⟩, cell_of_post (i := 2) F hb hlen rfl rfl, cell_of_post (i := 3) F hb hlen rfl rfl,
    cell_of_post (i := 4) F hb hlen rfl rfl, hu⟩

def ansW (w : World) : World := (((w.alloc (.cells zeroId 23)).alloc (.cells zeroRep 31)).alloc (.cells zeroId 23)).alloc (.cells zeroRep 31)

theorem ansW_size (w : World) : (ansW w).heap.size = w.heap.size + 4 := by simp [ansW]
theorem ansW_below (w : World) : Below w.heap.size w (ansW w) :=
  ((((Below.refl _ _).alloc (Nat.le_refl _) _).alloc (by simp) _).alloc (by simp; omega) _).alloc (by simp; omega) _

theorem ansW_heap (w : World) : (ansW w).heap[w.heap.size]? = some (.cells zeroId 23) ∧ (ansW w).heap[w.heap.size + 1]? = some (.cells zeroRep 31) ∧
    (ansW w).heap[w.heap.size + 1 + 1]? = some (.cells zeroId 23) ∧ (ansW w).heap[w.heap.size + 1 + 1 + 1]? = some (.cells zeroRep 31) := by
  unfold ansW
  refine ⟨?_, ?_, ?_, ?_⟩
  · rw [Below.heap_alloc _ _ _ (by simp; omega), Below.heap_alloc _ _ _ (by simp; omega), heap_last2 _ _ _ _ rfl]
  · rw [Below.heap_alloc _ _ _ (by simp), heap_last2 _ _ _ _ (by simp)]
  · rw [heap_last2 _ _ _ _ (by simp)]
  · rw [heap_last _ _ _ (by simp)]

theorem ansFs_block {b1 b2 : Nat} {y : GK × Addr} (h : y ∈ ansFs b1 b2) : y.2.block = b1 ∨ y.2.block = b2 := by
  simp only [ansFs, List.mem_cons, List.not_mem_nil, or_false] at h
  rcases h with rfl | rfl | rfl | rfl | rfl
  · exact Or.inl rfl
  · exact Or.inl rfl
  · exact Or.inr rfl
  · exact Or.inr rfl
  · exact Or.inr rfl

/-- Behind 'answer': what lies where. -/
theorem ans_start (w w1 : World) (hw : ((ansW w).alloc (.cells #[ifc 88 (w.heap.size + 1 + 1) 0, ifc 88 (w.heap.size + 1 + 1) 1, ifc 83 (w.heap.size + 1 + 1 + 1) 0, ifc 88 (w.heap.size + 1 + 1 + 1) 1, ifc 92 (w.heap.size + 1 + 1 + 1) 2] 20)).drew = w1) :
    FitsW (ansFs (w.heap.size + 1 + 1) (w.heap.size + 1 + 1 + 1)) (w.heap.size + 1 + 1 + 1 + 1) 0 w1 ∧ w1.heap[w.heap.size]? = some (.cells zeroId 23) ∧ w1.heap[w.heap.size + 1]? = some (.cells zeroRep 31) ∧
      Below w.heap.size w w1 ∧ w1.heap.size = w.heap.size + 5 := by
  subst hw
  obtain ⟨a1, a2, a3, a4⟩ := ansW_heap w
  have hs := ansW_size w
  have e : ∀ (o : Obj) (k : Nat), k < w.heap.size + 4 → ((ansW w).alloc o).drew.heap[k]? = (ansW w).heap[k]? := fun o k hk => Below.heap_alloc _ _ _ (by omega)
  refine ⟨ans_fits (by rw [e _ _ (by omega)]; exact a3) (by rw [e _ _ (by omega)]; exact a4) (by omega) (by omega) (by omega) (heap_last _ _ _ hs), by rw [e _ _ (by omega)]; exact a1, by rw [e _ _ (by omega)]; exact a2, ?_, by simp [hs]⟩
  exact ((ansW_below w).alloc (by omega) _).drew

set_option maxRecDepth 100000 in
set_option maxHeartbeats 2000000 in
theorem fromAnswer_none (S : ByteArray) (w : World) (hS : S.size ≤ maxLen) (h : fromG mA ansKs S = none) :
    Calls Try.prog 8 #[.string S] w fun e w' => e = .returned (.tuple #[.agg zeroId, .agg zeroRep, .int .i64 140]) ∧ Below w.heap.size w w' := by
  have HN := Lib.hid h
  clear h
  go_enter Try.func8, Try.ntmps8
  go_wp2_with (first | (go_at_call 26; refine (answer_any _ _ _ _ _).mono ?_; rintro e w1 ⟨rfl, hw⟩; have HW := Lib.hid hw; clear hw))
  obtain ⟨F, a1, a2, ab, hs⟩ := ans_start w w1 HW.out
  refine (from_any S mA (w.heap.size + 1 + 1 + 1 + 1) 0 5 (ansFs (w.heap.size + 1 + 1) (w.heap.size + 1 + 1 + 1)) w1 hS (by simp [ansFs]) F).mono ?_
  intro e w2 hp
  unfold FromPost at hp
  rw [show List.map (fun x => x.1) (ansFs (w.heap.size + 1 + 1) (w.heap.size + 1 + 1 + 1)) = ansKs from rfl, HN.out] at hp
  obtain ⟨rfl, hk⟩ := hp
  have hfar : ∀ k, k ≤ w.heap.size + 1 → ¬ ∃ y ∈ ansFs (w.heap.size + 1 + 1) (w.heap.size + 1 + 1 + 1), k = y.2.block := by
    rintro k hk ⟨y, hy, e⟩
    rcases ansFs_block hy with h | h <;> omega
  have h1 : w2.heap[w.heap.size]? = some (.cells zeroId 23) := by rw [hk.block _ (by omega) (hfar _ (by omega))]; exact a1
  have h2 : w2.heap[w.heap.size + 1]? = some (.cells zeroRep 31) := by rw [hk.block _ (by omega) (hfar _ (by omega))]; exact a2
  obtain ⟨c0, c1, f0, f1⟩ := cells2 h1
  obtain ⟨⟨d0, d1, d2⟩, df⟩ := cells3 h2
  have HF := Lib.hid (show Below w.heap.size w w2 from ab.trans (hk.below (by omega) (fun k hk => hfar k (by omega))))
  clear h1 h2 hk hfar F a1 a2 ab hs
  go_wp2
  refine bodyPost_ret (v := .tuple #[.agg zeroId, .agg zeroRep, .int .i64 140]) ?_ rfl ⟨rfl, ?_⟩
  · simp [results, Try.results8, go_sem, c0, c1, d0, d1, d2, zeroId, zeroRep]
  · iterate 5 refine Below.setCell ?_ (by simp) _
    exact HF.out

set_option maxRecDepth 100000 in
set_option maxHeartbeats 2000000 in
theorem fromAnswer_some (S : ByteArray) (w : World) (x : AnsV) (hS : S.size ≤ maxLen) (h : fromG mA ansKs S = some x.fvs) :
    Calls Try.prog 8 #[.string S] w fun e w' => ∃ ua uc, e = .returned (.tuple #[.agg #[.int .i64 x.s, .int .i64 x.q], .agg #[.int .i64 x.e, .int .i64 x.a, .slice ua x.n uc], .int .i64 0]) ∧ Below w.heap.size w w' ∧ w'.ownsRow w.heap.size 38 2 (.slice ua x.n uc) x.n x.cs := by
  have HN := Lib.hid h
  clear h
  go_enter Try.func8, Try.ntmps8
  go_wp2_with (first | (go_at_call 26; refine (answer_any _ _ _ _ _).mono ?_; rintro e w1 ⟨rfl, hw⟩; have HW := Lib.hid hw; clear hw))
  obtain ⟨F, a1, a2, ab, hs⟩ := ans_start w w1 HW.out
  refine (from_any S mA (w.heap.size + 1 + 1 + 1 + 1) 0 5 (ansFs (w.heap.size + 1 + 1) (w.heap.size + 1 + 1 + 1)) w1 hS (by simp [ansFs]) F).mono ?_
  intro e w2 hp
  unfold FromPost at hp
  rw [show List.map (fun x => x.1) (ansFs (w.heap.size + 1 + 1) (w.heap.size + 1 + 1 + 1)) = ansKs from rfl, HN.out] at hp
  obtain ⟨rfl, vs, hbl, hrep⟩ := hp
  obtain ⟨ua, uc, ⟨q0, q1⟩, r0, r1, r2, hu⟩ := ans_read F hbl hrep
  have hk := zip_kept hbl
  have hfar : ∀ k, k ≤ w.heap.size + 1 → ¬ ∃ y ∈ ansFs (w.heap.size + 1 + 1) (w.heap.size + 1 + 1 + 1), k = y.2.block := by
    rintro k hk ⟨y, hy, e⟩
    rcases ansFs_block hy with h | h <;> omega
  have h1 : w2.heap[w.heap.size]? = some (.cells zeroId 23) := by rw [hk.block _ (by omega) (hfar _ (by omega))]; exact a1
  have h2 : w2.heap[w.heap.size + 1]? = some (.cells zeroRep 31) := by rw [hk.block _ (by omega) (hfar _ (by omega))]; exact a2
  obtain ⟨c0, c1, f0, f1⟩ := cells2 h1
  obtain ⟨⟨d0, d1, d2⟩, df⟩ := cells3 h2
  have HF := Lib.hid (show Below w.heap.size w w2 from ab.trans (hk.below (by omega) (fun k hk => hfar k (by omega))))
  have HU := Lib.hid (show w2.ownsRow (w.heap.size + 5) 38 2 (.slice ua x.n uc) x.n x.cs from hs ▸ hu)
  clear h1 h2 hk hfar F a1 a2 ab hs hbl hrep hu
  go_wp2
  go_region
  all_goals go_wp2
  all_goals
    refine bodyPost_ret (v := .tuple #[.agg #[.int .i64 x.s, .int .i64 x.q], .agg #[.int .i64 x.e, .int .i64 x.a, .slice ua x.n uc], .int .i64 0]) ?_ rfl ⟨ua, uc, rfl, ?_, ?_⟩
    · simp [results, Try.results8, go_sem, c0, c1, d0, d1, d2]
    · refine Below.drew ?_
      iterate 5 refine Below.setCell ?_ (by simp) _
      exact HF.out
    · refine ownsRow_base (B := w.heap.size + 5) (ownsRow_kept HU.out fun b hb1 hb2 => ?_) (by omega)
      show ((((((w2.setCell _ _).setCell _ _).setCell _ _).setCell _ _).setCell _ _)).heap[b]? = _
      iterate 5 rw [Below.heap_setCell _ _ _ _ (by simp; omega)]
end Go.Proofs.Ytibmaeckmnkmjaa

/- 'FromAsk' of the program's package command: the walk. -/
import Derived.Test.YtibmaeckmnkmjaaF1
namespace Go.Proofs.Ytibmaeckmnkmjaa
open Go.RowKit

def mQ : ByteArray := ⟨#[81]⟩

def zeroId : Array Value := #[.int .i64 0, .int .i64 0]
def zeroOp : Array Value := #[.int .i64 0, .string ⟨#[]⟩, .string ⟨#[]⟩, .string ⟨#[]⟩, .string ⟨#[]⟩, .string ⟨#[]⟩, .string ⟨#[]⟩, .int .i64 0, .int .i64 0]

/-- Four new blocks: the results' and the variables'. -/
def askW (w : World) : World := (((w.alloc (.cells zeroId 23)).alloc (.cells zeroOp 25)).alloc (.cells zeroId 23)).alloc (.cells zeroOp 25)

theorem askW_size (w : World) : (askW w).heap.size = w.heap.size + 4 := by simp [askW]
theorem askW_below (w : World) : Below w.heap.size w (askW w) :=
  ((((Below.refl _ _).alloc (Nat.le_refl _) _).alloc (by simp) _).alloc (by simp; omega) _).alloc (by simp; omega) _

theorem heap_at (w : World) (o : Obj) (H : Nat) (h : w.heap.size = H) (k : Nat) (hk : k < H) : (w.alloc o).heap[k]? = w.heap[k]? := Below.heap_alloc _ _ _ (by omega)

theorem askW_heap (w : World) : (askW w).heap[w.heap.size]? = some (.cells zeroId 23) ∧ (askW w).heap[w.heap.size + 1]? = some (.cells zeroOp 25) ∧
    (askW w).heap[w.heap.size + 1 + 1]? = some (.cells zeroId 23) ∧ (askW w).heap[w.heap.size + 1 + 1 + 1]? = some (.cells zeroOp 25) := by
  unfold askW
  refine ⟨?_, ?_, ?_, ?_⟩
  · rw [Below.heap_alloc _ _ _ (by simp; omega), Below.heap_alloc _ _ _ (by simp; omega), heap_last2 _ _ _ _ rfl]
  · rw [Below.heap_alloc _ _ _ (by simp), heap_last2 _ _ _ _ (by simp)]
  · rw [heap_last2 _ _ _ _ (by simp)]
  · rw [heap_last _ _ _ (by simp)]

theorem cells2 {w : World} {b : Nat} {x y : Value} {t : TypeId} (h : w.heap[b]? = some (.cells #[x, y] t)) :
    w.cell? ⟨b, 0, none⟩ = some x ∧ w.cell? ⟨b, 1, none⟩ = some y ∧ w.frozen? ⟨b, 0, none⟩ = false ∧ w.frozen? ⟨b, 1, none⟩ = false := by
  simp [World.cell?, World.frozen?, h]

theorem cells9 {w : World} {b : Nat} {x0 x1 x2 x3 x4 x5 x6 x7 x8 : Value} {t : TypeId} (h : w.heap[b]? = some (.cells #[x0, x1, x2, x3, x4, x5, x6, x7, x8] t)) :
    (w.cell? ⟨b, 0, none⟩ = some x0 ∧ w.cell? ⟨b, 1, none⟩ = some x1 ∧ w.cell? ⟨b, 2, none⟩ = some x2 ∧ w.cell? ⟨b, 3, none⟩ = some x3 ∧ w.cell? ⟨b, 4, none⟩ = some x4 ∧
    w.cell? ⟨b, 5, none⟩ = some x5 ∧ w.cell? ⟨b, 6, none⟩ = some x6 ∧ w.cell? ⟨b, 7, none⟩ = some x7 ∧ w.cell? ⟨b, 8, none⟩ = some x8) ∧ (∀ i, w.frozen? ⟨b, i, none⟩ = false) := by
  simp [World.cell?, World.frozen?, h]

theorem askFs_block {b1 b2 : Nat} {y : GK × Addr} (h : y ∈ askFs b1 b2) : y.2.block = b1 ∨ y.2.block = b2 := by
  simp only [askFs, List.mem_cons, List.not_mem_nil, or_false] at h
  rcases h with rfl | rfl | rfl | rfl | rfl | rfl | rfl | rfl | rfl | rfl | rfl
  · exact Or.inl rfl
  · exact Or.inl rfl
  all_goals exact Or.inr rfl

set_option maxRecDepth 100000 in
set_option maxHeartbeats 2000000 in
theorem fromAsk_none (S : ByteArray) (w : World) (hS : S.size ≤ maxLen) (h : fromG mQ askKs S = none) :
    Calls Try.prog 6 #[.string S] w fun e w' => e = .returned (.tuple #[.agg zeroId, .agg zeroOp, .int .i64 140]) ∧ Below w.heap.size w w' := by
  have HN := Lib.hid h
  clear h
  have hA := askW_heap w
  have hAs := askW_size w
  have hAb := askW_below w
  have HA := Lib.hid (And.intro hA (And.intro hAs hAb)); clear hA hAs hAb
  go_enter Try.func6, Try.ntmps6
  go_wp2_with (first | (go_at_call 21; refine (ask_any _ _ _ _ _).mono ?_; rintro e w1 ⟨g, cap, rfl, ho, hb⟩; have HO := Lib.hid ho; have HB := Lib.hid hb; clear ho hb))
  have hb1 : Below (w.heap.size + 4) (askW w) w1 := by have h : Below (askW w).heap.size (askW w) w1 := HB.out; rw [askW_size] at h; exact h
  obtain ⟨⟨a1, a2, a3, a4⟩, hsz, ab⟩ := HA.out
  have p3 : Plain w1 (w.heap.size + 1 + 1) 2 := ⟨zeroId, 23, by rw [hb1.block _ (by omega)]; exact a3, rfl⟩
  have p4 : Plain w1 (w.heap.size + 1 + 1 + 1) 9 := ⟨zeroOp, 25, by rw [hb1.block _ (by omega)]; exact a4, rfl⟩
  have hs1 : w.heap.size + 4 ≤ w1.heap.size := by have := hb1.size; omega
  have F : FitsW (askFs (w.heap.size + 1 + 1) (w.heap.size + 1 + 1 + 1)) g 0 w1 := ask_fits p3 p4 (by omega) (by simp) (by simp) HO.out
  refine (from_any S mQ g 0 cap (askFs (w.heap.size + 1 + 1) (w.heap.size + 1 + 1 + 1)) w1 hS (by simp [askFs]) F).mono ?_
  intro e w2 hp
  unfold FromPost at hp
  rw [show List.map (fun x => x.1) (askFs (w.heap.size + 1 + 1) (w.heap.size + 1 + 1 + 1)) = askKs from rfl, HN.out] at hp
  obtain ⟨rfl, hk⟩ := hp
  have hfar : ∀ k, k ≤ w.heap.size + 1 → ¬ ∃ y ∈ askFs (w.heap.size + 1 + 1) (w.heap.size + 1 + 1 + 1), k = y.2.block := by
    rintro k hk ⟨y, hy, e⟩
    rcases askFs_block hy with h | h <;> omega
  have h1 : w2.heap[w.heap.size]? = some (.cells zeroId 23) := by rw [hk.block _ (by omega) (hfar _ (by omega)), hb1.block _ (by omega)]; exact a1
  have h2 : w2.heap[w.heap.size + 1]? = some (.cells zeroOp 25) := by rw [hk.block _ (by omega) (hfar _ (by omega)), hb1.block _ (by omega)]; exact a2
  obtain ⟨c0, c1, f0, f1⟩ := cells2 h1
  obtain ⟨⟨d0, d1, d2, d3, d4, d5, d6, d7, d8⟩, df⟩ := cells9 h2
  have HF := Lib.hid (show Below w.heap.size w w2 from (ab.trans (hb1.mono (by omega))).trans (hk.below (by omega) (fun k hk => hfar k (by omega))))
  clear h1 h2 hk hfar F p3 p4 hb1 a1 a2 a3 a4 ab hsz
  go_wp2
  refine bodyPost_ret (v := .tuple #[.agg zeroId, .agg zeroOp, .int .i64 140]) ?_ rfl ⟨rfl, ?_⟩
  · simp [results, Try.results6, go_sem, c0, c1, d0, d1, d2, d3, d4, d5, d6, d7, d8, zeroId, zeroOp]
  · iterate 11 refine Below.setCell ?_ (by simp) _
    exact HF.out

theorem cell_of_post {w1 w2 : World} {g fo : Nat} {fs : List (GK × Addr)} {vs : List Value} {i : Nat} {a : Addr} {v : Value} (H : FitsW fs g fo w1) (hb : Below w1.heap.size (puts w1 ((fs.map (·.2)).zip vs)) w2)
    (hl : vs.length = fs.length) (hi : (fs.map (·.2))[i]? = some a) (hv : vs[i]? = some v) : w2.cell? a = some v := by
  have hmem : a ∈ fs.map (·.2) := List.mem_of_getElem? hi
  obtain ⟨y, hy, rfl⟩ := List.mem_map.1 hmem
  obtain ⟨u, hu⟩ := H.cell y hy
  rw [hb.cell (World.block_lt_of_cell? _ _ hu)]
  have hz : (y.2, v) ∈ (fs.map (·.2)).zip vs := by
    refine List.mem_of_getElem? (i := i) ?_
    rw [List.getElem?_zip_eq_some]
    exact ⟨hi, hv⟩
  refine puts_cell_at _ w1 ?_ ?_ _ hz
  · have e : (((fs.map (·.2)).zip vs).map (·.1)) = fs.map (·.2) := by
      rw [List.map_fst_zip]; simp [hl]
    rw [e]; exact H.nodup
  · intro x hx
    obtain ⟨y, hy, e⟩ := List.mem_map.1 (List.of_mem_zip hx).1
    rw [← e]; exact H.cell y hy

theorem RepAll.length {B : Nat} {w : World} : ∀ {ks : List GK} {fs : List FV} {vs : List Value}, RepAll B w ks fs vs → vs.length = ks.length
  | [], [], [], _ => rfl
  | _ :: _, _ :: _, _ :: _, ⟨_, h⟩ => by simp [RepAll.length h]

theorem RepAll.val_inv {B : Nat} {w : World} {k : FK} {v : Value} {ks : List GK} {fs : List FV} : ∀ {vs : List Value}, RepAll B w (.flat k :: ks) (.val v :: fs) vs → ∃ vs', vs = v :: vs' ∧ RepAll B w ks fs vs'
  | [], h => h.elim
  | u :: vs', ⟨h1, h2⟩ => ⟨vs', by rw [show u = v from h1], h2⟩

theorem RepAll.nil_inv {B : Nat} {w : World} : ∀ {vs : List Value}, RepAll B w [] [] vs → vs = []
  | [], _ => rfl

theorem ask_read {w1 w2 : World} {g b1 b2 : Nat} (F : FitsW (askFs b1 b2) g 0 w1) {x : AskV} {vs : List Value} (hb : Below w1.heap.size (puts w1 (((askFs b1 b2).map (·.2)).zip vs)) w2)
    (hrep : RepAll w1.heap.size w2 askKs x.fvs vs) :
    (w2.cell? ⟨b1, 0, none⟩ = some (.int .i64 x.s) ∧ w2.cell? ⟨b1, 1, none⟩ = some (.int .i64 x.q)) ∧
    w2.cell? ⟨b2, 0, none⟩ = some (.int .i64 x.k) ∧ w2.cell? ⟨b2, 1, none⟩ = some (.string x.a) ∧ w2.cell? ⟨b2, 2, none⟩ = some (.string x.b) ∧ w2.cell? ⟨b2, 3, none⟩ = some (.string x.c) ∧
    w2.cell? ⟨b2, 4, none⟩ = some (.string x.d) ∧ w2.cell? ⟨b2, 5, none⟩ = some (.string x.e) ∧ w2.cell? ⟨b2, 6, none⟩ = some (.string x.f) ∧ w2.cell? ⟨b2, 7, none⟩ = some (.int .i64 x.m) ∧ w2.cell? ⟨b2, 8, none⟩ = some (.int .i64 x.n) := by
  have hlen := RepAll.length hrep
  obtain ⟨s0, rfl, h0⟩ := RepAll.val_inv hrep
  obtain ⟨s1, rfl, h1⟩ := RepAll.val_inv h0
  obtain ⟨s2, rfl, h2⟩ := RepAll.val_inv h1
  obtain ⟨s3, rfl, h3⟩ := RepAll.val_inv h2
  obtain ⟨s4, rfl, h4⟩ := RepAll.val_inv h3
  obtain ⟨s5, rfl, h5⟩ := RepAll.val_inv h4
  obtain ⟨s6, rfl, h6⟩ := RepAll.val_inv h5
  obtain ⟨s7, rfl, h7⟩ := RepAll.val_inv h6
  obtain ⟨s8, rfl, h8⟩ := RepAll.val_inv h7
  obtain ⟨s9, rfl, h9⟩ := RepAll.val_inv h8
  obtain ⟨s10, rfl, h10⟩ := RepAll.val_inv h9
  obtain rfl := RepAll.nil_inv h10
  exact ⟨⟨cell_of_post (i := 0) F hb hlen rfl rfl, cell_of_post (i := 1) F hb hlen rfl rfl⟩, cell_of_post (i := 2) F hb hlen rfl rfl, cell_of_post (i := 3) F hb hlen rfl rfl,
    cell_of_post (i := 4) F hb hlen rfl rfl, cell_of_post (i := 5) F hb hlen rfl rfl, cell_of_post (i := 6) F hb hlen rfl rfl, cell_of_post (i := 7) F hb hlen rfl rfl,
    cell_of_post (i := 8) F hb hlen rfl rfl, cell_of_post (i := 9) F hb hlen rfl rfl, cell_of_post (i := 10) F hb hlen rfl rfl⟩

set_option maxRecDepth 100000 in
set_option maxHeartbeats 2000000 in
theorem fromAsk_some (S : ByteArray) (w : World) (x : AskV) (hS : S.size ≤ maxLen) (h : fromG mQ askKs S = some x.fvs) :
    Calls Try.prog 6 #[.string S] w fun e w' => e = .returned (.tuple #[.agg #[.int .i64 x.s, .int .i64 x.q], .agg #[.int .i64 x.k, .string x.a, .string x.b, .string x.c, .string x.d, .string x.e, .string x.f, .int .i64 x.m, .int .i64 x.n], .int .i64 0]) ∧ Below w.heap.size w w' := by
  have HN := Lib.hid h
  clear h
  have hA := askW_heap w
  have hAs := askW_size w
  have hAb := askW_below w
  have HA := Lib.hid (And.intro hA (And.intro hAs hAb)); clear hA hAs hAb
  go_enter Try.func6, Try.ntmps6
  go_wp2_with (first | (go_at_call 21; refine (ask_any _ _ _ _ _).mono ?_; rintro e w1 ⟨g, cap, rfl, ho, hb⟩; have HO := Lib.hid ho; have HB := Lib.hid hb; clear ho hb))
  have hb1 : Below (w.heap.size + 4) (askW w) w1 := by have h : Below (askW w).heap.size (askW w) w1 := HB.out; rw [askW_size] at h; exact h
  obtain ⟨⟨a1, a2, a3, a4⟩, hsz, ab⟩ := HA.out
  have p3 : Plain w1 (w.heap.size + 1 + 1) 2 := ⟨zeroId, 23, by rw [hb1.block _ (by omega)]; exact a3, rfl⟩
  have p4 : Plain w1 (w.heap.size + 1 + 1 + 1) 9 := ⟨zeroOp, 25, by rw [hb1.block _ (by omega)]; exact a4, rfl⟩
  have hs1 : w.heap.size + 4 ≤ w1.heap.size := by have := hb1.size; omega
  have F : FitsW (askFs (w.heap.size + 1 + 1) (w.heap.size + 1 + 1 + 1)) g 0 w1 := ask_fits p3 p4 (by omega) (by simp) (by simp) HO.out
  refine (from_any S mQ g 0 cap (askFs (w.heap.size + 1 + 1) (w.heap.size + 1 + 1 + 1)) w1 hS (by simp [askFs]) F).mono ?_
  intro e w2 hp
  unfold FromPost at hp
  rw [show List.map (fun x => x.1) (askFs (w.heap.size + 1 + 1) (w.heap.size + 1 + 1 + 1)) = askKs from rfl, HN.out] at hp
  obtain ⟨rfl, vs, hbl, hrep⟩ := hp
  obtain ⟨⟨q0, q1⟩, r0, r1, r2, r3, r4, r5, r6, r7, r8⟩ := ask_read F hbl hrep
  have hk := zip_kept hbl
  have hfar : ∀ k, k ≤ w.heap.size + 1 → ¬ ∃ y ∈ askFs (w.heap.size + 1 + 1) (w.heap.size + 1 + 1 + 1), k = y.2.block := by
    rintro k hk ⟨y, hy, e⟩
    rcases askFs_block hy with h | h <;> omega
  have h1 : w2.heap[w.heap.size]? = some (.cells zeroId 23) := by rw [hk.block _ (by omega) (hfar _ (by omega)), hb1.block _ (by omega)]; exact a1
  have h2 : w2.heap[w.heap.size + 1]? = some (.cells zeroOp 25) := by rw [hk.block _ (by omega) (hfar _ (by omega)), hb1.block _ (by omega)]; exact a2
  obtain ⟨c0, c1, f0, f1⟩ := cells2 h1
  obtain ⟨⟨d0, d1, d2, d3, d4, d5, d6, d7, d8⟩, df⟩ := cells9 h2
  have HF := Lib.hid (show Below w.heap.size w w2 from (ab.trans (hb1.mono (by omega))).trans (hk.below (by omega) (fun k hk => hfar k (by omega))))
  clear h1 h2 hk hfar F p3 p4 hb1 a1 a2 a3 a4 ab hsz hbl hrep
  go_wp2
  go_region
  all_goals go_wp2
  all_goals
    refine bodyPost_ret (v := .tuple #[.agg #[.int .i64 x.s, .int .i64 x.q], .agg #[.int .i64 x.k, .string x.a, .string x.b, .string x.c, .string x.d, .string x.e, .string x.f, .int .i64 x.m, .int .i64 x.n], .int .i64 0]) ?_ rfl ⟨rfl, ?_⟩
    · simp [results, Try.results6, go_sem, c0, c1, d0, d1, d2, d3, d4, d5, d6, d7, d8]
    · refine Below.drew ?_
      iterate 11 refine Below.setCell ?_ (by simp) _
      exact HF.out
end Go.Proofs.Ytibmaeckmnkmjaa

/- 'From' of the program's package command. -/
import Derived.Test.YtibmaeckmnkmjaaC2
import Derived.Test.YtibmaeckmnkmjaaF3
import Derived.Laws.Tables
import Derived.Deep.MidRow
namespace Go.Proofs.Ytibmaeckmnkmjaa
open Go.RowKit

def zeroCmd : Array Value := #[.int .i64 0, .int .i64 0, .int .i64 0, .int .i64 0, .string ⟨#[]⟩, .string ⟨#[]⟩, .string ⟨#[]⟩, .string ⟨#[]⟩, .string ⟨#[]⟩, .string ⟨#[]⟩, .int .i64 0, .int .i64 0, .int .i64 0, .int .i64 0, .int .i64 0, .int .i64 0, .int .i64 0, .bool false, .int .i64 0, .string ⟨#[]⟩]

def cmdFs (g : Nat) : List (GK × Addr) := [(.flat .num, ⟨g, 0, none⟩), (.flat .num, ⟨g, 1, none⟩), (.flat .num, ⟨g, 2, none⟩), (.flat .num, ⟨g, 12, none⟩), (.flat .num, ⟨g, 13, none⟩), (.flat .num, ⟨g, 14, none⟩), (.flat .num, ⟨g, 15, none⟩), (.flat .num, ⟨g, 16, none⟩),
  (.flat .tru, ⟨g, 17, none⟩), (.flat .err, ⟨g, 18, none⟩), (.flat .num, ⟨g, 3, none⟩), (.flat .txt, ⟨g, 4, none⟩), (.flat .txt, ⟨g, 5, none⟩), (.flat .txt, ⟨g, 6, none⟩), (.flat .txt, ⟨g, 7, none⟩), (.flat .txt, ⟨g, 8, none⟩), (.flat .txt, ⟨g, 9, none⟩), (.flat .num, ⟨g, 10, none⟩), (.flat .num, ⟨g, 11, none⟩), (.flat .txt, ⟨g, 19, none⟩)]
def cmdKs : List GK := [.flat .num, .flat .num, .flat .num, .flat .num, .flat .num, .flat .num, .flat .num, .flat .num, .flat .tru, .flat .err] ++ opKs ++ [.flat .txt]

def CmdV.fvs (x : CmdV) : List FV := [.val (.int .i64 x.kd), .val (.int .i64 x.s), .val (.int .i64 x.q), .val (.int .i64 x.tx), .val (.int .i64 x.pl), .val (.int .i64 x.sl), .val (.int .i64 x.ep), .val (.int .i64 x.gr), .val (.bool x.ok), .val (.int .i64 x.er),
  .val (.int .i64 x.k), .val (.string x.a), .val (.string x.b), .val (.string x.c), .val (.string x.d), .val (.string x.e), .val (.string x.f), .val (.int .i64 x.m), .val (.int .i64 x.n), .val (.string x.dt)]

theorem cmd_fits {w : World} {b g cap base : Nat} (h1 : Plain w b 20) (hb : b < base)
    (ho : w.ownsRow base 20 1 (.slice (some ⟨g, 0, none⟩) 20 cap) 20 (cmdIfs b)) : FitsW (cmdFs b) g 0 w := by
  obtain ⟨hlt, hbg, hc⟩ := own_cells20 ho (by simp [cmdIfs, cmd10])
  refine ⟨hlt, ?_, ?_, ?_, ?_, ?_, ?_, ?_⟩
  · intro i hi
    have hi' : i < 20 := hi
    apply hc
    match i, hi' with
    | 0, _ | 1, _ | 2, _ | 3, _ | 4, _ | 5, _ | 6, _ | 7, _ | 8, _ | 9, _ | 10, _ | 11, _ | 12, _ | 13, _ | 14, _ | 15, _ | 16, _ | 17, _ | 18, _ | 19, _ => rfl
    | n + 20, h => omega
  · intro x hx
    simp only [cmdFs, List.mem_cons, List.not_mem_nil, or_false] at hx
    rcases hx with rfl | rfl | rfl | rfl | rfl | rfl | rfl | rfl | rfl | rfl | rfl | rfl | rfl | rfl | rfl | rfl | rfl | rfl | rfl | rfl
    all_goals exact h1.cell _ (by decide)
  · intro x hx hk
    simp only [cmdFs, List.mem_cons, List.not_mem_nil, or_false] at hx
    rcases hx with rfl | rfl | rfl | rfl | rfl | rfl | rfl | rfl | rfl | rfl | rfl | rfl | rfl | rfl | rfl | rfl | rfl | rfl | rfl | rfl <;> simp at hk
  · intro x hx
    simp only [cmdFs, List.mem_cons, List.not_mem_nil, or_false] at hx
    rcases hx with rfl | rfl | rfl | rfl | rfl | rfl | rfl | rfl | rfl | rfl | rfl | rfl | rfl | rfl | rfl | rfl | rfl | rfl | rfl | rfl
    all_goals exact h1.frozen _
  · intro x hx
    simp only [cmdFs, List.mem_cons, List.not_mem_nil, or_false] at hx
    rcases hx with rfl | rfl | rfl | rfl | rfl | rfl | rfl | rfl | rfl | rfl | rfl | rfl | rfl | rfl | rfl | rfl | rfl | rfl | rfl | rfl <;> simp only <;> omega
  · intro x hx
    simp only [cmdFs, List.mem_cons, List.not_mem_nil, or_false] at hx
    rcases hx with rfl | rfl | rfl | rfl | rfl | rfl | rfl | rfl | rfl | rfl | rfl | rfl | rfl | rfl | rfl | rfl | rfl | rfl | rfl | rfl <;> rfl
  · simp [cmdFs]

def cmdW (w : World) : World := (w.alloc (.cells zeroCmd 45)).alloc (.cells zeroCmd 45)
theorem cmdW_size (w : World) : (cmdW w).heap.size = w.heap.size + 2 := by simp [cmdW]
theorem cmdW_below (w : World) : Below w.heap.size w (cmdW w) := ((Below.refl _ _).alloc (Nat.le_refl _) _).alloc (by simp) _
theorem cmdW_heap (w : World) : (cmdW w).heap[w.heap.size]? = some (.cells zeroCmd 45) ∧ (cmdW w).heap[w.heap.size + 1]? = some (.cells zeroCmd 45) :=
  ⟨heap_last2 w _ _ _ rfl, heap_last _ _ _ (by simp)⟩

theorem cells20 {w : World} {b : Nat} {x0 x1 x2 x3 x4 x5 x6 x7 x8 x9 x10 x11 x12 x13 x14 x15 x16 x17 x18 x19 : Value} {t : TypeId} (h : w.heap[b]? = some (.cells #[x0, x1, x2, x3, x4, x5, x6, x7, x8, x9, x10, x11, x12, x13, x14, x15, x16, x17, x18, x19] t)) :
    (w.cell? ⟨b, 0, none⟩ = some x0 ∧ w.cell? ⟨b, 1, none⟩ = some x1 ∧ w.cell? ⟨b, 2, none⟩ = some x2 ∧ w.cell? ⟨b, 3, none⟩ = some x3 ∧ w.cell? ⟨b, 4, none⟩ = some x4 ∧ w.cell? ⟨b, 5, none⟩ = some x5 ∧ w.cell? ⟨b, 6, none⟩ = some x6 ∧ w.cell? ⟨b, 7, none⟩ = some x7 ∧ w.cell? ⟨b, 8, none⟩ = some x8 ∧ w.cell? ⟨b, 9, none⟩ = some x9) ∧
    (w.cell? ⟨b, 10, none⟩ = some x10 ∧ w.cell? ⟨b, 11, none⟩ = some x11 ∧ w.cell? ⟨b, 12, none⟩ = some x12 ∧ w.cell? ⟨b, 13, none⟩ = some x13 ∧ w.cell? ⟨b, 14, none⟩ = some x14 ∧ w.cell? ⟨b, 15, none⟩ = some x15 ∧ w.cell? ⟨b, 16, none⟩ = some x16 ∧ w.cell? ⟨b, 17, none⟩ = some x17 ∧ w.cell? ⟨b, 18, none⟩ = some x18 ∧ w.cell? ⟨b, 19, none⟩ = some x19) ∧
    ∀ k, w.frozen? ⟨b, k, none⟩ = false := by
  refine ⟨?_, ?_, ?_⟩
  · simp [World.cell?, h]
  · simp [World.cell?, h]
  · intro k; simp [World.frozen?, h]

theorem zeroCmd_one : zeroCmd.all (·.oneCell') = true := by simp [zeroCmd, Value.oneCell']
theorem arr_one (x : CmdV) : x.arr.all (·.oneCell') = true := by simp [CmdV.arr, Value.oneCell']
theorem below_setRow {B g : Nat} {a w : World} (h : Below B a w) (hg : B ≤ g) (cs : Array Value) : Below B a (w.setRow g cs) where
  os := h.os
  tape := h.tape
  output := h.output
  size := by simp only [World.setRow, Array.size_modify]; exact h.size
  block k hk := by
    rw [← h.block k hk]
    simp only [World.setRow, Array.getElem?_modify]
    rw [if_neg (by omega)]

theorem results_cell_tmp {P : Program} {fn : Func} {tmps : Array Value} {w : World} {a b : Nat} {t : TypeId} {p : Addr} {v u : Value} (hr : fn.results = #[.cell a t, .tmp b]) (ha : tmps[a]?.getD undef = .pointer (some p)) (hb : tmps[b]?.getD undef = u)
    (hl : (loadVar t p).run P w = .ok v w) : (results fn tmps).run P w = .ok (.tuple #[v, u]) w := by
  unfold results
  rw [hr]
  simp [ha, hb, asAddr, hl, Result.andThen_ok]

theorem built45 : Try.prog.built 45 [] = some zeroCmd := by kernel_rfl

theorem wpList_built {P : Program} {ops : Array Oper} {rest : List Oper} {o : Oper} {a : Act} {w : World} {Q : Exit → Act → World → Prop} (hg : o.guard = none) (t : TypeId) (ho : o.op = .build t #[]) {cs : Array Value}
    (hf : P.built t [] = some cs) (h : wpList P ops Q rest (a.put o.dst (.agg cs)) w) : wpList P ops Q (o :: rest) a w :=
  wpList_build hg t #[] ho (by simp [hf]) (by simpa [hf] using h)

theorem info45 : (Try.prog.info? 45).map (·.size) = some 20 := by kernel_rfl

theorem cmdFs_block {b : Nat} {y : GK × Addr} (h : y ∈ cmdFs b) : y.2.block = b := by
  simp only [cmdFs, List.mem_cons, List.not_mem_nil, or_false] at h
  rcases h with rfl | rfl | rfl | rfl | rfl | rfl | rfl | rfl | rfl | rfl | rfl | rfl | rfl | rfl | rfl | rfl | rfl | rfl | rfl | rfl <;> rfl

set_option maxRecDepth 100000 in
set_option maxHeartbeats 2000000 in
theorem fromCmd_none (S : ByteArray) (w : World) (hS : S.size ≤ maxLen) (h : fromG mC cmdKs S = none) :
    Calls Try.prog 18 #[.string S] w fun e w' => e = .returned (.tuple #[.agg zeroCmd, .int .i64 140]) ∧ Below w.heap.size w w' := by
  have HN := Lib.hid h
  clear h
  have hA := cmdW_heap w
  have hAs := cmdW_size w
  have hAb := cmdW_below w
  have HA := Lib.hid (And.intro hA (And.intro hAs hAb)); clear hA hAs hAb
  go_enter Try.func18, Try.ntmps18
  go_wp2_with (first | (go_at_call 36; refine (fields_any _ _).mono ?_; rintro e w1 ⟨g, cap, rfl, ho, hb⟩; have HO := Lib.hid ho; have HB := Lib.hid hb; clear ho hb))
  have hb1 : Below (w.heap.size + 2) (cmdW w) w1 := by have h : Below (cmdW w).heap.size (cmdW w) w1 := HB.out; rw [cmdW_size] at h; exact h
  obtain ⟨⟨a1, a2⟩, hsz, ab⟩ := HA.out
  have p3 : Plain w1 (w.heap.size + 1) 20 := ⟨zeroCmd, 45, by rw [hb1.block _ (by omega)]; exact a2, rfl⟩
  have hs1 : w.heap.size + 2 ≤ w1.heap.size := by have := hb1.size; omega
  have F : FitsW (cmdFs (w.heap.size + 1)) g 0 w1 := cmd_fits p3 (by simp) HO.out
  refine (from_any S mC g 0 cap (cmdFs (w.heap.size + 1)) w1 hS (by simp [cmdFs]) F).mono ?_
  intro e w2 hp
  unfold FromPost at hp
  rw [show List.map (fun x => x.1) (cmdFs (w.heap.size + 1)) = cmdKs from rfl, HN.out] at hp
  obtain ⟨rfl, hk⟩ := hp
  have hfar : ∀ k, k ≤ w.heap.size → ¬ ∃ y ∈ cmdFs (w.heap.size + 1), k = y.2.block := by
    rintro k hk ⟨y, hy, e⟩
    have := cmdFs_block hy
    omega
  have h1 : w2.heap[w.heap.size]? = some (.cells zeroCmd 45) := by rw [hk.block _ (by omega) (hfar _ (by omega)), hb1.block _ (by omega)]; exact a1
  have HF := Lib.hid (show Below w.heap.size w w2 from (ab.trans (hb1.mono (by omega))).trans (hk.below (by omega) (fun k hk => hfar k (by omega))))
  have H1 := Lib.hid h1
  clear h1 hk hfar F p3 hb1 a1 a2 ab hsz
  go_wp2_with (first | (refine wpList_built rfl 45 rfl built45 ?_) | (refine wpList_store_row rfl 45 _ _ rfl w.heap.size zeroCmd rfl rfl 45 zeroCmd H1.out info45 rfl zeroCmd_one ?_))
  have hload : (loadVar 45 ⟨w.heap.size, 0, none⟩).run Try.prog (w2.setRow w.heap.size zeroCmd) = .ok (.agg zeroCmd) (w2.setRow w.heap.size zeroCmd) :=
    run_loadVar_row _ w.heap.size 45 45 zeroCmd (0, 0) _ (setRow_heap w2 w.heap.size zeroCmd zeroCmd 45 (0, 0) H1.out) Try.underlying45 rfl info45
  exact bodyPost_ret (v := .tuple #[.agg zeroCmd, .int .i64 140]) (results_cell_tmp Try.results18 rfl rfl hload) rfl ⟨rfl, below_setRow HF.out (Nat.le_refl _) _⟩

theorem cmd_read {w1 w2 : World} {g b : Nat} (F : FitsW (cmdFs b) g 0 w1) {x : CmdV} {vs : List Value} (hb : Below w1.heap.size (puts w1 (((cmdFs b).map (·.2)).zip vs)) w2) (hr : RepAll w1.heap.size w2 cmdKs x.fvs vs) :
    (w2.cell? ⟨b, 0, none⟩ = some (.int .i64 x.kd) ∧ w2.cell? ⟨b, 1, none⟩ = some (.int .i64 x.s) ∧ w2.cell? ⟨b, 2, none⟩ = some (.int .i64 x.q) ∧ w2.cell? ⟨b, 3, none⟩ = some (.int .i64 x.k) ∧ w2.cell? ⟨b, 4, none⟩ = some (.string x.a) ∧ w2.cell? ⟨b, 5, none⟩ = some (.string x.b) ∧ w2.cell? ⟨b, 6, none⟩ = some (.string x.c) ∧ w2.cell? ⟨b, 7, none⟩ = some (.string x.d) ∧ w2.cell? ⟨b, 8, none⟩ = some (.string x.e) ∧ w2.cell? ⟨b, 9, none⟩ = some (.string x.f)) ∧
    w2.cell? ⟨b, 10, none⟩ = some (.int .i64 x.m) ∧ w2.cell? ⟨b, 11, none⟩ = some (.int .i64 x.n) ∧ w2.cell? ⟨b, 12, none⟩ = some (.int .i64 x.tx) ∧ w2.cell? ⟨b, 13, none⟩ = some (.int .i64 x.pl) ∧ w2.cell? ⟨b, 14, none⟩ = some (.int .i64 x.sl) ∧ w2.cell? ⟨b, 15, none⟩ = some (.int .i64 x.ep) ∧ w2.cell? ⟨b, 16, none⟩ = some (.int .i64 x.gr) ∧ w2.cell? ⟨b, 17, none⟩ = some (.bool x.ok) ∧ w2.cell? ⟨b, 18, none⟩ = some (.int .i64 x.er) ∧ w2.cell? ⟨b, 19, none⟩ = some (.string x.dt) := by
  have hlen : vs.length = (cmdFs b).length := RepAll.length hr
  obtain ⟨vs1, rfl, h1⟩ := RepAll.val_inv hr
  obtain ⟨vs2, rfl, h2⟩ := RepAll.val_inv h1
  obtain ⟨vs3, rfl, h3⟩ := RepAll.val_inv h2
  obtain ⟨vs4, rfl, h4⟩ := RepAll.val_inv h3
  obtain ⟨vs5, rfl, h5⟩ := RepAll.val_inv h4
  obtain ⟨vs6, rfl, h6⟩ := RepAll.val_inv h5
  obtain ⟨vs7, rfl, h7⟩ := RepAll.val_inv h6
  obtain ⟨vs8, rfl, h8⟩ := RepAll.val_inv h7
  obtain ⟨vs9, rfl, h9⟩ := RepAll.val_inv h8
  obtain ⟨vs10, rfl, h10⟩ := RepAll.val_inv h9
  obtain ⟨vs11, rfl, h11⟩ := RepAll.val_inv h10
  obtain ⟨vs12, rfl, h12⟩ := RepAll.val_inv h11
  obtain ⟨vs13, rfl, h13⟩ := RepAll.val_inv h12
  obtain ⟨vs14, rfl, h14⟩ := RepAll.val_inv h13
  obtain ⟨vs15, rfl, h15⟩ := RepAll.val_inv h14
  obtain ⟨vs16, rfl, h16⟩ := RepAll.val_inv h15
  obtain ⟨vs17, rfl, h17⟩ := RepAll.val_inv h16
  obtain ⟨vs18, rfl, h18⟩ := RepAll.val_inv h17
  obtain ⟨vs19, rfl, h19⟩ := RepAll.val_inv h18
  obtain ⟨vs20, rfl, h20⟩ := RepAll.val_inv h19
  obtain rfl := RepAll.nil_inv h20
  exact ⟨⟨cell_of_post (i := 0) F hb hlen rfl rfl, cell_of_post (i := 1) F hb hlen rfl rfl, cell_of_post (i := 2) F hb hlen rfl rfl, cell_of_post (i := 10) F hb hlen rfl rfl, cell_of_post (i := 11) F hb hlen rfl rfl, cell_of_post (i := 12) F hb hlen rfl rfl, cell_of_post (i := 13) F hb hlen rfl rfl, cell_of_post (i := 14) F hb hlen rfl rfl, cell_of_post (i := 15) F hb hlen rfl rfl, cell_of_post (i := 16) F hb hlen rfl rfl⟩, cell_of_post (i := 17) F hb hlen rfl rfl, cell_of_post (i := 18) F hb hlen rfl rfl, cell_of_post (i := 3) F hb hlen rfl rfl, cell_of_post (i := 4) F hb hlen rfl rfl, cell_of_post (i := 5) F hb hlen rfl rfl, cell_of_post (i := 6) F hb hlen rfl rfl, cell_of_post (i := 7) F hb hlen rfl rfl, cell_of_post (i := 8) F hb hlen rfl rfl, cell_of_post (i := 9) F hb hlen rfl rfl, cell_of_post (i := 19) F hb hlen rfl rfl⟩

set_option maxRecDepth 100000 in
set_option maxHeartbeats 2000000 in
theorem fromCmd_some (S : ByteArray) (w : World) (x : CmdV) (hS : S.size ≤ maxLen) (h : fromG mC cmdKs S = some x.fvs) :
    Calls Try.prog 18 #[.string S] w fun e w' => e = .returned (.tuple #[.agg x.arr, .int .i64 0]) ∧ Below w.heap.size w w' := by
  have HN := Lib.hid h
  clear h
  have hA := cmdW_heap w
  have hAs := cmdW_size w
  have hAb := cmdW_below w
  have HA := Lib.hid (And.intro hA (And.intro hAs hAb)); clear hA hAs hAb
  go_enter Try.func18, Try.ntmps18
  go_wp2_with (first | (go_at_call 36; refine (fields_any _ _).mono ?_; rintro e w1 ⟨g, cap, rfl, ho, hb⟩; have HO := Lib.hid ho; have HB := Lib.hid hb; clear ho hb))
  have hb1 : Below (w.heap.size + 2) (cmdW w) w1 := by have h : Below (cmdW w).heap.size (cmdW w) w1 := HB.out; rw [cmdW_size] at h; exact h
  obtain ⟨⟨a1, a2⟩, hsz, ab⟩ := HA.out
  have p3 : Plain w1 (w.heap.size + 1) 20 := ⟨zeroCmd, 45, by rw [hb1.block _ (by omega)]; exact a2, rfl⟩
  have hs1 : w.heap.size + 2 ≤ w1.heap.size := by have := hb1.size; omega
  have F : FitsW (cmdFs (w.heap.size + 1)) g 0 w1 := cmd_fits p3 (by simp) HO.out
  refine (from_any S mC g 0 cap (cmdFs (w.heap.size + 1)) w1 hS (by simp [cmdFs]) F).mono ?_
  intro e w2 hp
  unfold FromPost at hp
  rw [show List.map (fun x => x.1) (cmdFs (w.heap.size + 1)) = cmdKs from rfl, HN.out] at hp
  obtain ⟨rfl, vs, hbl, hrep⟩ := hp
  obtain ⟨⟨q0, q1, q2, q3, q4, q5, q6, q7, q8, q9⟩, r0, r1, r2, r3, r4, r5, r6, r7, r8, r9⟩ := cmd_read F hbl hrep
  have hrg : w2.rangeAt (w.heap.size + 1) 0 x.arr.toList := by
    intro j v hv
    rw [Nat.zero_add]
    match j, hv with
    | 0, hv => simp [CmdV.arr] at hv; subst hv; exact q0
    | 1, hv => simp [CmdV.arr] at hv; subst hv; exact q1
    | 2, hv => simp [CmdV.arr] at hv; subst hv; exact q2
    | 3, hv => simp [CmdV.arr] at hv; subst hv; exact q3
    | 4, hv => simp [CmdV.arr] at hv; subst hv; exact q4
    | 5, hv => simp [CmdV.arr] at hv; subst hv; exact q5
    | 6, hv => simp [CmdV.arr] at hv; subst hv; exact q6
    | 7, hv => simp [CmdV.arr] at hv; subst hv; exact q7
    | 8, hv => simp [CmdV.arr] at hv; subst hv; exact q8
    | 9, hv => simp [CmdV.arr] at hv; subst hv; exact q9
    | 10, hv => simp [CmdV.arr] at hv; subst hv; exact r0
    | 11, hv => simp [CmdV.arr] at hv; subst hv; exact r1
    | 12, hv => simp [CmdV.arr] at hv; subst hv; exact r2
    | 13, hv => simp [CmdV.arr] at hv; subst hv; exact r3
    | 14, hv => simp [CmdV.arr] at hv; subst hv; exact r4
    | 15, hv => simp [CmdV.arr] at hv; subst hv; exact r5
    | 16, hv => simp [CmdV.arr] at hv; subst hv; exact r6
    | 17, hv => simp [CmdV.arr] at hv; subst hv; exact r7
    | 18, hv => simp [CmdV.arr] at hv; subst hv; exact r8
    | 19, hv => simp [CmdV.arr] at hv; subst hv; exact r9
    | n + 20, hv => simp [CmdV.arr] at hv
  have HRG := Lib.hid hrg
  clear hrg q0 q1 q2 q3 q4 q5 q6 q7 q8 q9 r0 r1 r2 r3 r4 r5 r6 r7 r8 r9
  have hk := zip_kept hbl
  have hfar : ∀ k, k ≤ w.heap.size → ¬ ∃ y ∈ cmdFs (w.heap.size + 1), k = y.2.block := by
    rintro k hk ⟨y, hy, e⟩
    have := cmdFs_block hy
    omega
  have h1 : w2.heap[w.heap.size]? = some (.cells zeroCmd 45) := by rw [hk.block _ (by omega) (hfar _ (by omega)), hb1.block _ (by omega)]; exact a1
  have HF := Lib.hid (show Below w.heap.size w w2 from (ab.trans (hb1.mono (by omega))).trans (hk.below (by omega) (fun k hk => hfar k (by omega))))
  have H1 := Lib.hid h1
  clear h1 hk hfar F p3 hb1 a1 a2 ab hsz hbl hrep
  go_wp2_with (first | (refine wpList_load_mid rfl 45 _ rfl (w.heap.size + 1) 0 rfl x.arr.toList _ HRG.out Try.underlying45 rfl info45 ?_) | (refine wpList_store_row rfl 45 _ _ rfl w.heap.size x.arr rfl rfl 45 zeroCmd H1.out info45 rfl (arr_one x) ?_))
  have hload : (loadVar 45 ⟨w.heap.size, 0, none⟩).run Try.prog (w2.setRow w.heap.size x.arr) = .ok (.agg x.arr) (w2.setRow w.heap.size x.arr) :=
    run_loadVar_row _ w.heap.size 45 45 x.arr (0, 0) _ (setRow_heap w2 w.heap.size zeroCmd x.arr 45 (0, 0) H1.out) Try.underlying45 rfl info45
  exact bodyPost_ret (v := .tuple #[.agg x.arr, .int .i64 0]) (results_cell_tmp Try.results18 rfl rfl hload) rfl ⟨rfl, below_setRow HF.out (Nat.le_refl _) _⟩
end Go.Proofs.Ytibmaeckmnkmjaa

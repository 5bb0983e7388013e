/- 'FromMessage' of the program's package command. -/
import Derived.Test.YtibmaeckmnkmjaaE0
import Derived.Test.YtibmaeckmnkmjaaF3
namespace Go.Proofs.Ytibmaeckmnkmjaa
open Go.RowKit

def mM : ByteArray := ⟨#[77]⟩
def zeroMsg : Array Value := #[.int .i64 0, .int .i64 0, .int .i64 0, .int .i64 0, .int .i64 0, .int .i64 0, .int .i64 0, .slice none 0 0, .int .i64 0, .bool false, .string ⟨#[]⟩]
def msgFs (b : Nat) : List (GK × Addr) := [(.flat .num, ⟨b, 0, none⟩), (.flat .num, ⟨b, 1, none⟩), (.flat .num, ⟨b, 2, none⟩), (.flat .num, ⟨b, 3, none⟩), (.flat .num, ⟨b, 4, none⟩), (.flat .num, ⟨b, 5, none⟩), (.flat .num, ⟨b, 6, none⟩), (.flat .num, ⟨b, 8, none⟩), (.flat .tru, ⟨b, 9, none⟩), (.ents, ⟨b, 7, none⟩), (.flat .txt, ⟨b, 10, none⟩)]
def msgKs : List GK := [.flat .num, .flat .num, .flat .num, .flat .num, .flat .num, .flat .num, .flat .num, .flat .num, .flat .tru, .ents, .flat .txt]
def msgIfs (b : Nat) : Array Value := #[ifc 88 b 0, ifc 88 b 1, ifc 88 b 2, ifc 88 b 3, ifc 88 b 4, ifc 88 b 5, ifc 88 b 6, ifc 88 b 8, ifc 103 b 9, ifc 104 b 7, ifc 87 b 10]

structure MsgV where
  kd : Int
  gr : Int
  fr : Int
  to : Int
  te : Int
  ix : Int
  at' : Int
  cm : Int
  ok : Bool
  n : Nat
  cs : List Value
  dt : ByteArray

def MsgV.fvs (x : MsgV) : List FV := [.val (.int .i64 x.kd), .val (.int .i64 x.gr), .val (.int .i64 x.fr), .val (.int .i64 x.to), .val (.int .i64 x.te), .val (.int .i64 x.ix), .val (.int .i64 x.at'), .val (.int .i64 x.cm), .val (.bool x.ok), .row x.n x.cs, .val (.string x.dt)]
def MsgV.arr (x : MsgV) (ua : Option Addr) (uc : Nat) : Array Value := #[.int .i64 x.kd, .int .i64 x.gr, .int .i64 x.fr, .int .i64 x.to, .int .i64 x.te, .int .i64 x.ix, .int .i64 x.at', .slice ua x.n uc, .int .i64 x.cm, .bool x.ok, .string x.dt]

theorem ents_inv {ks : List GK} {s r : ByteArray} {fvs : List FV} (h : takeAllG (.ents :: ks) s = some (fvs, r)) : ∃ n cs r1 fvs', fvs = .row n cs :: fvs' ∧ takeAllG ks r1 = some (fvs', r) := by
  cases ho : takeOneG .ents s with
  | none => rw [takeAllG_cons_none ho] at h; simp at h
  | some y =>
    obtain ⟨v, r1⟩ := y
    rw [takeAllG_cons_some ho] at h
    simp only [Option.map_eq_some_iff, Prod.exists, Prod.mk.injEq] at h
    obtain ⟨a, b, h1, rfl, rfl⟩ := h
    simp only [takeOneG] at ho
    split at ho
    · simp at ho
    · simp only [Option.map_eq_some_iff, Prod.exists, Prod.mk.injEq] at ho
      obtain ⟨_, _, _, rfl, rfl⟩ := ho
      exact ⟨_, _, _, a, rfl, h1⟩

theorem msg_shape {m s : ByteArray} {fvs : List FV} (h : fromG m msgKs s = some fvs) : ∃ x : MsgV, fvs = x.fvs := by
  obtain ⟨s1, r, ht⟩ := fromG_inv h
  obtain ⟨n0, _, _, rfl, h0⟩ := num_inv ht
  obtain ⟨n1, _, _, rfl, h1⟩ := num_inv h0
  obtain ⟨n2, _, _, rfl, h2⟩ := num_inv h1
  obtain ⟨n3, _, _, rfl, h3⟩ := num_inv h2
  obtain ⟨n4, _, _, rfl, h4⟩ := num_inv h3
  obtain ⟨n5, _, _, rfl, h5⟩ := num_inv h4
  obtain ⟨n6, _, _, rfl, h6⟩ := num_inv h5
  obtain ⟨n7, _, _, rfl, h7⟩ := num_inv h6
  obtain ⟨b, _, _, rfl, h8⟩ := tru_inv h7
  obtain ⟨n, cs, _, _, rfl, h9⟩ := ents_inv h8
  obtain ⟨t, _, _, rfl, h10⟩ := txt_inv h9
  simp only [takeAllG, Option.some.injEq, Prod.mk.injEq] at h10
  rw [← h10.1]
  exact ⟨⟨n0, n1, n2, n3, n4, n5, n6, n7, b, n, cs, t⟩, rfl⟩

theorem cells11 {w : World} {b : Nat} {x0 x1 x2 x3 x4 x5 x6 x7 x8 x9 x10 : Value} {t : TypeId} (h : w.heap[b]? = some (.cells #[x0, x1, x2, x3, x4, x5, x6, x7, x8, x9, x10] t)) :
    (w.cell? ⟨b, 0, none⟩ = some x0 ∧ w.cell? ⟨b, 1, none⟩ = some x1 ∧ w.cell? ⟨b, 2, none⟩ = some x2 ∧ w.cell? ⟨b, 3, none⟩ = some x3 ∧ w.cell? ⟨b, 4, none⟩ = some x4 ∧ w.cell? ⟨b, 5, none⟩ = some x5 ∧ w.cell? ⟨b, 6, none⟩ = some x6 ∧ w.cell? ⟨b, 7, none⟩ = some x7 ∧ w.cell? ⟨b, 8, none⟩ = some x8 ∧ w.cell? ⟨b, 9, none⟩ = some x9 ∧ w.cell? ⟨b, 10, none⟩ = some x10) ∧ ∀ k, w.frozen? ⟨b, k, none⟩ = false := by
  refine ⟨?_, ?_⟩
  · simp [World.cell?, h]
  · intro k; simp [World.frozen?, h]

theorem msg_fits {w : World} {b g : Nat} (h1 : w.heap[b]? = some (.cells zeroMsg 50)) (hbg : b ≠ g) (hh : w.heap[g]? = some (.cells (msgIfs b) 20)) : FitsW (msgFs b) g 0 w := by
  have hlt : g < w.heap.size := (Array.getElem?_eq_some_iff.1 hh).1
  obtain ⟨⟨d0, d1, d2, d3, d4, d5, d6, d7, d8, d9, d10⟩, df⟩ := cells11 h1
  refine ⟨hlt, ?_, ?_, ?_, ?_, ?_, ?_, ?_⟩
  · intro i hi
    have hi' : i < 11 := hi
    have e1 : w.cell? ⟨g, 0 + i, none⟩ = (msgIfs b)[i]? := by simp [World.cell?, hh]
    rw [e1]
    match i, hi' with
    | 0, _ | 1, _ | 2, _ | 3, _ | 4, _ | 5, _ | 6, _ | 7, _ | 8, _ | 9, _ | 10, _ => rfl
    | n + 11, h => omega
  · intro x hx
    simp only [msgFs, List.mem_cons, List.not_mem_nil, or_false] at hx
    rcases hx with rfl | rfl | rfl | rfl | rfl | rfl | rfl | rfl | rfl | rfl | rfl
    · exact ⟨_, d0⟩
    · exact ⟨_, d1⟩
    · exact ⟨_, d2⟩
    · exact ⟨_, d3⟩
    · exact ⟨_, d4⟩
    · exact ⟨_, d5⟩
    · exact ⟨_, d6⟩
    · exact ⟨_, d8⟩
    · exact ⟨_, d9⟩
    · exact ⟨_, d7⟩
    · exact ⟨_, d10⟩
  · intro x hx hk
    simp only [msgFs, List.mem_cons, List.not_mem_nil, or_false] at hx
    rcases hx with rfl | rfl | rfl | rfl | rfl | rfl | rfl | rfl | rfl | rfl | rfl <;> first | exact d7 | simp at hk
  · intro x hx
    simp only [msgFs, List.mem_cons, List.not_mem_nil, or_false] at hx
    rcases hx with rfl | rfl | rfl | rfl | rfl | rfl | rfl | rfl | rfl | rfl | rfl <;> exact df _
  · intro x hx
    simp only [msgFs, List.mem_cons, List.not_mem_nil, or_false] at hx
    rcases hx with rfl | rfl | rfl | rfl | rfl | rfl | rfl | rfl | rfl | rfl | rfl <;> exact hbg
  · intro x hx
    simp only [msgFs, List.mem_cons, List.not_mem_nil, or_false] at hx
    rcases hx with rfl | rfl | rfl | rfl | rfl | rfl | rfl | rfl | rfl | rfl | rfl <;> rfl
  · simp [msgFs]

theorem msgFs_block {b : Nat} {y : GK × Addr} (h : y ∈ msgFs b) : y.2.block = b := by
  simp only [msgFs, List.mem_cons, List.not_mem_nil, or_false] at h
  rcases h with rfl | rfl | rfl | rfl | rfl | rfl | rfl | rfl | rfl | rfl | rfl <;> rfl

theorem RepAll.ents_inv {B : Nat} {w : World} {n : Nat} {cs : List Value} {ks : List GK} {fs : List FV} : ∀ {vs : List Value}, RepAll B w (.ents :: ks) (.row n cs :: fs) vs →
    ∃ u vs', vs = u :: vs' ∧ w.ownsRow B 109 2 u n cs ∧ RepAll B w ks fs vs'
  | [], h => h.elim
  | u :: vs', ⟨h1, h2⟩ => ⟨u, vs', rfl, h1, h2⟩

theorem msg_read {w1 w2 : World} {g b : Nat} (F : FitsW (msgFs b) g 0 w1) {x : MsgV} {vs : List Value} (hb : Below w1.heap.size (puts w1 (((msgFs b).map (·.2)).zip vs)) w2)
    (hrep : RepAll w1.heap.size w2 msgKs x.fvs vs) :
    ∃ ua uc, w2.rangeAt b 0 (x.arr ua uc).toList ∧ w2.ownsRow w1.heap.size 109 2 (.slice ua x.n uc) x.n x.cs := by
  have hlen := RepAll.length hrep
  obtain ⟨s0, rfl, h0⟩ := RepAll.val_inv hrep
  obtain ⟨s1, rfl, h1⟩ := RepAll.val_inv h0
  obtain ⟨s2, rfl, h2⟩ := RepAll.val_inv h1
  obtain ⟨s3, rfl, h3⟩ := RepAll.val_inv h2
  obtain ⟨s4, rfl, h4⟩ := RepAll.val_inv h3
  obtain ⟨s5, rfl, h5⟩ := RepAll.val_inv h4
  obtain ⟨s6, rfl, h6⟩ := RepAll.val_inv h5
  obtain ⟨s7, rfl, h7⟩ := RepAll.val_inv h6
  obtain ⟨s8, rfl, h8⟩ := RepAll.val_inv h7
  obtain ⟨u, s9, rfl, hu, h9⟩ := RepAll.ents_inv h8
  obtain ⟨s10, rfl, h10⟩ := RepAll.val_inv h9
  obtain rfl := RepAll.nil_inv h10
  obtain ⟨ua, uc, rfl⟩ := own_slice hu
  refine ⟨ua, uc, ?_, hu⟩
  intro j v hv
  rw [Nat.zero_add]
  match j, hv with
  | 0, hv => simp [MsgV.arr] at hv; subst hv; exact cell_of_post (i := 0) F hb hlen rfl rfl
  | 1, hv => simp [MsgV.arr] at hv; subst hv; exact cell_of_post (i := 1) F hb hlen rfl rfl
  | 2, hv => simp [MsgV.arr] at hv; subst hv; exact cell_of_post (i := 2) F hb hlen rfl rfl
  | 3, hv => simp [MsgV.arr] at hv; subst hv; exact cell_of_post (i := 3) F hb hlen rfl rfl
  | 4, hv => simp [MsgV.arr] at hv; subst hv; exact cell_of_post (i := 4) F hb hlen rfl rfl
  | 5, hv => simp [MsgV.arr] at hv; subst hv; exact cell_of_post (i := 5) F hb hlen rfl rfl
  | 6, hv => simp [MsgV.arr] at hv; subst hv; exact cell_of_post (i := 6) F hb hlen rfl rfl
  | 7, hv => simp [MsgV.arr] at hv; subst hv; exact cell_of_post (i := 9) F hb hlen rfl rfl
  | 8, hv => simp [MsgV.arr] at hv; subst hv; exact cell_of_post (i := 7) F hb hlen rfl rfl
  | 9, hv => simp [MsgV.arr] at hv; subst hv; exact cell_of_post (i := 8) F hb hlen rfl rfl
  | 10, hv => simp [MsgV.arr] at hv; subst hv; exact cell_of_post (i := 10) F hb hlen rfl rfl
  | n + 11, hv => simp [MsgV.arr] at hv

def msgW (w : World) : World := (w.alloc (.cells zeroMsg 50)).alloc (.cells zeroMsg 50)

/-- Behind 'message': what lies where. -/
theorem msg_start (w w1 : World) (hw : ((msgW w).alloc (.cells (msgIfs (w.heap.size + 1)) 20)).drew = w1) :
    FitsW (msgFs (w.heap.size + 1)) (w.heap.size + 2) 0 w1 ∧ w1.heap[w.heap.size]? = some (.cells zeroMsg 50) ∧ Below w.heap.size w w1 ∧ w1.heap.size = w.heap.size + 3 := by
  subst hw
  have hs : (msgW w).heap.size = w.heap.size + 2 := by simp [msgW]
  have a1 : (msgW w).heap[w.heap.size]? = some (.cells zeroMsg 50) := heap_last2 w _ _ _ rfl
  have a2 : (msgW w).heap[w.heap.size + 1]? = some (.cells zeroMsg 50) := heap_last _ _ _ (by simp)
  have e : ∀ (o : Obj) (k : Nat), k < w.heap.size + 2 → ((msgW w).alloc o).drew.heap[k]? = (msgW w).heap[k]? := fun o k hk => Below.heap_alloc _ _ _ (by omega)
  refine ⟨msg_fits (by rw [e _ _ (by omega)]; exact a2) (by omega) (heap_last _ _ _ hs), by rw [e _ _ (by omega)]; exact a1, ?_, by simp [hs]⟩
  exact ((((Below.refl _ _).alloc (Nat.le_refl _) _).alloc (by simp) _).alloc (by simp; omega) _).drew

theorem zeroMsg_one : zeroMsg.all (·.oneCell') = true := by simp [zeroMsg, Value.oneCell']
theorem MsgV.arr_one (x : MsgV) (ua : Option Addr) (uc : Nat) : (x.arr ua uc).all (·.oneCell') = true := by simp [MsgV.arr, Value.oneCell']
theorem built50 : Try.prog.built 50 [] = some zeroMsg := by kernel_rfl
theorem info50 : (Try.prog.info? 50).map (·.size) = some 11 := by kernel_rfl

set_option maxRecDepth 100000 in
set_option maxHeartbeats 2000000 in
theorem fromMsg_none (S : ByteArray) (w : World) (hS : S.size ≤ maxLen) (h : fromG mM msgKs S = none) :
    Calls Try.prog 19 #[.string S] w fun e w' => e = .returned (.tuple #[.agg zeroMsg, .int .i64 140]) ∧ Below w.heap.size w w' := by
  have HN := Lib.hid h
  clear h
  go_enter Try.func19, Try.ntmps19
  go_wp2_with (first | (go_at_call 37; refine (message_any _ _ _).mono ?_; rintro e w1 ⟨rfl, hw⟩; have HW := Lib.hid hw; clear hw))
  obtain ⟨F, a1, ab, hs⟩ := msg_start w w1 HW.out
  refine (from_any S mM (w.heap.size + 2) 0 11 (msgFs (w.heap.size + 1)) w1 hS (by simp [msgFs]) F).mono ?_
  intro e w2 hp
  unfold FromPost at hp
  rw [show List.map (fun x => x.1) (msgFs (w.heap.size + 1)) = msgKs from rfl, HN.out] at hp
  obtain ⟨rfl, hk⟩ := hp
  have hfar : ∀ k, k ≤ w.heap.size → ¬ ∃ y ∈ msgFs (w.heap.size + 1), k = y.2.block := by
    rintro k hk ⟨y, hy, e⟩
    have := msgFs_block hy
    omega
  have h1 : w2.heap[w.heap.size]? = some (.cells zeroMsg 50) := by rw [hk.block _ (by omega) (hfar _ (by omega))]; exact a1
  have HF := Lib.hid (show Below w.heap.size w w2 from ab.trans (hk.below (by omega) (fun k hk => hfar k (by omega))))
  have H1 := Lib.hid h1
  clear h1 hk hfar F a1 ab hs
  go_wp2_with (first | (refine wpList_built rfl 50 rfl built50 ?_) | (refine wpList_store_row rfl 50 _ _ rfl w.heap.size zeroMsg rfl rfl 50 zeroMsg H1.out info50 rfl zeroMsg_one ?_))
  have hload : (loadVar 50 ⟨w.heap.size, 0, none⟩).run Try.prog (w2.setRow w.heap.size zeroMsg) = .ok (.agg zeroMsg) (w2.setRow w.heap.size zeroMsg) :=
    run_loadVar_row _ w.heap.size 50 50 zeroMsg (0, 0) _ (setRow_heap w2 w.heap.size zeroMsg zeroMsg 50 (0, 0) H1.out) Try.underlying50 rfl info50
  exact bodyPost_ret (v := .tuple #[.agg zeroMsg, .int .i64 140]) (results_cell_tmp Try.results19 rfl rfl hload) rfl ⟨rfl, below_setRow HF.out (Nat.le_refl _) _⟩

set_option maxRecDepth 100000 in
set_option maxHeartbeats 2000000 in
theorem fromMsg_some (S : ByteArray) (w : World) (x : MsgV) (hS : S.size ≤ maxLen) (h : fromG mM msgKs S = some x.fvs) :
    Calls Try.prog 19 #[.string S] w fun e w' => ∃ ua uc, e = .returned (.tuple #[.agg (x.arr ua uc), .int .i64 0]) ∧ Below w.heap.size w w' := by
  have HN := Lib.hid h
  clear h
  go_enter Try.func19, Try.ntmps19
  go_wp2_with (first | (go_at_call 37; refine (message_any _ _ _).mono ?_; rintro e w1 ⟨rfl, hw⟩; have HW := Lib.hid hw; clear hw))
  obtain ⟨F, a1, ab, hs⟩ := msg_start w w1 HW.out
  refine (from_any S mM (w.heap.size + 2) 0 11 (msgFs (w.heap.size + 1)) w1 hS (by simp [msgFs]) F).mono ?_
  intro e w2 hp
  unfold FromPost at hp
  rw [show List.map (fun x => x.1) (msgFs (w.heap.size + 1)) = msgKs from rfl, HN.out] at hp
  obtain ⟨rfl, vs, hbl, hrep⟩ := hp
  obtain ⟨ua, uc, hrg, _⟩ := msg_read F hbl hrep
  have HRG := Lib.hid hrg
  have hk := zip_kept hbl
  have hfar : ∀ k, k ≤ w.heap.size → ¬ ∃ y ∈ msgFs (w.heap.size + 1), k = y.2.block := by
    rintro k hk ⟨y, hy, e⟩
    have := msgFs_block hy
    omega
  have h1 : w2.heap[w.heap.size]? = some (.cells zeroMsg 50) := by rw [hk.block _ (by omega) (hfar _ (by omega))]; exact a1
  have HF := Lib.hid (show Below w.heap.size w w2 from ab.trans (hk.below (by omega) (fun k hk => hfar k (by omega))))
  have H1 := Lib.hid h1
  clear h1 hk hfar F a1 ab hs hbl hrep hrg
  go_wp2_with (first | (refine wpList_load_mid rfl 50 _ rfl (w.heap.size + 1) 0 rfl (x.arr ua uc).toList _ HRG.out Try.underlying50 rfl info50 ?_) | (refine wpList_store_row rfl 50 _ _ rfl w.heap.size (x.arr ua uc) rfl rfl 50 zeroMsg H1.out info50 rfl (x.arr_one ua uc) ?_))
  have hload : (loadVar 50 ⟨w.heap.size, 0, none⟩).run Try.prog (w2.setRow w.heap.size (x.arr ua uc)) = .ok (.agg (x.arr ua uc)) (w2.setRow w.heap.size (x.arr ua uc)) :=
    run_loadVar_row _ w.heap.size 50 50 (x.arr ua uc) (0, 0) _ (setRow_heap w2 w.heap.size zeroMsg (x.arr ua uc) 50 (0, 0) H1.out) Try.underlying50 rfl info50
  exact bodyPost_ret (v := .tuple #[.agg (x.arr ua uc), .int .i64 0]) (results_cell_tmp Try.results19 rfl rfl hload) rfl ⟨ua, uc, rfl, below_setRow HF.out (Nat.le_refl _) _⟩
end Go.Proofs.Ytibmaeckmnkmjaa

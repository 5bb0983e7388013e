/- 'awake' of the statements' package: what must come, whatever the arguments are. -/
import Derived.Test.YtibmaeckmnkmjaaC3
namespace Go.Proofs.Ytibmaeckmnkmjaa
open Go.RowKit

def e0 : ByteArray := ⟨#[]⟩
def awA : AskV := ⟨5, 1, 6, ⟨#[119]⟩, e0, e0, e0, e0, e0, 0, 0⟩

theorem numB_small {n : Nat} (h : n ≤ 127) : numB (n : Int) = some [UInt8.ofNat n] := by
  unfold numB; rw [if_pos (by omega), Int.toNat_natCast, putV_small h]
theorem textB_small {t : ByteArray} (h : t.size ≤ 127) : textB t = some (UInt8.ofNat t.size :: t.data.toList) := by
  unfold textB; rw [if_pos (by omega), putV_small h]; rfl

theorem allB_go {α : Type} {f : α → Option (List UInt8)} {x : α} {r : List α} {a l : List UInt8} (h : f x = some a) (k : allB f r = some l) : allB f (x :: r) = some (a ++ l) := by simp [allB, h, k]

theorem put5 : (PF.num 5).put = some [5] := numB_small (n := 5) (by decide)
theorem put1 : (PF.num 1).put = some [1] := numB_small (n := 1) (by decide)
theorem put6 : (PF.num 6).put = some [6] := numB_small (n := 6) (by decide)
theorem put0 : (PF.num 0).put = some [0] := numB_small (n := 0) (by decide)
theorem put9 : (PF.num 9).put = some [9] := numB_small (n := 9) (by decide)
theorem put3 : (PF.num 3).put = some [3] := numB_small (n := 3) (by decide)
theorem pute : (PF.err 0).put = some [0] := numB_small (n := 0) (by decide)
theorem putf : (PF.tru false).put = some [0] := numB_small (n := 0) (by decide)
theorem putt : (PF.txt e0).put = some [0] := textB_small (t := e0) (by decide)
theorem putw : (PF.txt ⟨#[119]⟩).put = some [1, 119] := textB_small (t := ⟨#[119]⟩) (by decide)

theorem awA_put : putAll awA.pfs = some [5, 1, 6, 1, 119, 0, 0, 0, 0, 0, 0, 0] :=
  show allB PF.put [.num 5, .num 1, .num 6, .txt ⟨#[119]⟩, .txt e0, .txt e0, .txt e0, .txt e0, .txt e0, .num 0, .num 0] = _ from
  allB_go put5 (allB_go put1 (allB_go put6 (allB_go putw (allB_go putt (allB_go putt (allB_go putt (allB_go putt (allB_go putt (allB_go put0 (allB_go put0 rfl))))))))))

theorem awA_sized : awA.sized := ⟨by decide, by decide, by decide, by decide, by decide, by decide, by decide, by decide, by decide, by decide, by decide⟩

theorem awA_call (w : World) : Calls Try.prog 14 #[.agg #[.int .i64 5, .int .i64 1], .agg #[.int .i64 6, .string ⟨#[119]⟩, .string ⟨#[]⟩, .string ⟨#[]⟩, .string ⟨#[]⟩, .string ⟨#[]⟩, .string ⟨#[]⟩, .int .i64 0, .int .i64 0]] w
    fun e w' => e = .returned (.tuple #[.string ⟨#[81, 5, 1, 6, 1, 119, 0, 0, 0, 0, 0, 0, 0]⟩, .int .i64 0]) ∧ Below w.heap.size w w' := by
  refine (putAsk_any awA w awA_sized).mono ?_
  intro e w' h
  unfold PutAskPost at h
  rw [awA_put] at h
  exact h

def awC : CmdV := ⟨9, 0, 0, 0, e0, e0, e0, e0, e0, e0, 0, 0, 0, 0, 3, 0, 0, false, 0, e0⟩
def awL : List UInt8 := [9, 0, 0, 0, 0, 3, 0, 0, 0, 0, 0, 0, 0, 0, 0, 0, 0, 0, 0, 0]

theorem awC_put : putAll awC.pfs = some awL :=
  show allB PF.put [.num 9, .num 0, .num 0, .num 0, .num 0, .num 3, .num 0, .num 0, .tru false, .err 0, .num 0, .txt e0, .txt e0, .txt e0, .txt e0, .txt e0, .txt e0, .num 0, .num 0, .txt e0] = _ from
  allB_go put9 (allB_go put0 (allB_go put0 (allB_go put0 (allB_go put0 (allB_go put3 (allB_go put0 (allB_go put0 (allB_go putf (allB_go pute (allB_go put0 (allB_go putt (allB_go putt (allB_go putt (allB_go putt (allB_go putt (allB_go putt (allB_go put0 (allB_go put0 (allB_go putt rfl)))))))))))))))))))

theorem awC_sized : awC.sized := ⟨by decide, by decide, by decide, by decide, by decide, by decide, by decide, by decide, by decide, by decide, by decide, by decide, by decide, by decide, by decide, by decide, by decide, by decide, by decide⟩

def awS : ByteArray := ⟨#[67, 9, 0, 0, 0, 0, 3, 0, 0, 0, 0, 0, 0, 0, 0, 0, 0, 0, 0, 0, 0]⟩

theorem awC_from : fromG mC cmdKs awS = some awC.fvs := by kernel_rfl

def awV : Array Value := #[.int .i64 9, .int .i64 0, .int .i64 0, .int .i64 0, .string ⟨#[]⟩, .string ⟨#[]⟩, .string ⟨#[]⟩, .string ⟨#[]⟩, .string ⟨#[]⟩, .string ⟨#[]⟩, .int .i64 0, .int .i64 0,
  .int .i64 0, .int .i64 0, .int .i64 3, .int .i64 0, .int .i64 0, .bool false, .int .i64 0, .string ⟨#[]⟩]

theorem awC_call (w : World) : Calls Try.prog 30 #[.agg awV] w fun e w' => e = .returned (.tuple #[.string awS, .int .i64 0]) ∧ Below w.heap.size w w' := by
  refine (putCmd_any awC w awC_sized).mono ?_
  intro e w' h
  unfold PutCmdPost at h
  rw [awC_put] at h
  exact h

theorem awC_back (w : World) : Calls Try.prog 18 #[.string awS] w fun e w' => e = .returned (.tuple #[.agg awV, .int .i64 0]) ∧ Below w.heap.size w w' :=
  fromCmd_some awS w awC (by decide) awC_from

theorem awV_one : awV.all (·.oneCell') = true := arr_one awC
theorem awV_eq (w : World) : (binOp .eql 45 (.agg awV) (.agg awV)).run Try.prog w = .ok (.bool true) w := by kernel_rfl

theorem awV_guard (x y : Operand) (w : World) : (eqGuard .eql 45 x y (.agg awV) (.agg awV)).run Try.prog w = .ok () w := by kernel_rfl

theorem wpList_store_new {P : Program} {ops : Array Oper} {rest : List Oper} {o : Oper} {a : Act} {w : World} {Q : Exit → Act → World → Prop} (hgd : o.guard = none) (ty : TypeId) (x y : Operand) (ho : o.op = .store ty x y)
    (g : Nat) (cells : Array Value) (hx : a.eval x = .pointer (some ⟨g, 0, none⟩)) (hy : a.eval y = .agg cells)
    (t : TypeId) (old : Array Value) (hg : w.heap[g]? = some (.cells old t (0, 0))) (hi : (P.info? ty).map (·.size) = some cells.size)
    (hold : old.size = cells.size) (h1 : cells.all (·.oneCell') = true)
    (h : ∀ w4, w4.heap[g]? = some (.cells cells t (0, 0)) → Hid (w.setRow g cells = w4) → wpList P ops Q rest (a.put o.dst undef) w4) : wpList P ops Q (o :: rest) a w :=
  wpList_store_row hgd ty x y ho g cells hx hy t old hg hi hold h1 (h _ (setRow_heap _ _ _ _ _ _ hg) (Lib.hid rfl))

theorem wpList_load_want {P : Program} {ops : Array Oper} {rest : List Oper} {o : Oper} {a : Act} {w : World} {Q : Exit → Act → World → Prop} (hw : Region.wanted o (yielded ops a.tmps) = true) (ty : TypeId) (x : Operand) (ho : o.op = .load ty x)
    (g : Nat) (hx : a.eval x = .pointer (some ⟨g, 0, none⟩)) (t : TypeId) (cs : Array Value) (fr : Nat × Nat) (d : TypeDesc) (hg : w.heap[g]? = some (.cells cs t fr))
    (hu : P.underlying ty = some d) (hd : (match d with | .struct _ | .array _ _ => true | _ => false) = true) (hi : (P.info? ty).map (·.size) = some cs.size)
    (h : wpList P ops Q rest (a.put o.dst (.agg cs)) w) : wpList P ops Q (o :: rest) a w :=
  wpList_step fun K hK => by rw [if_pos hw]; exact wp_load_row ty x ho g hx t cs fr d hg hu hd hi (hK _ _ h)

theorem wpList_bin_want {P : Program} {ops : Array Oper} {rest : List Oper} {o : Oper} {a : Act} {w : World} {Q : Exit → Act → World → Prop} (hw : Region.wanted o (yielded ops a.tmps) = true) (b : BinOp) (t u : TypeId) (x y : Operand) (ho : o.op = .binOp b t x y u)
    (v1 v2 v : Value) (hx : a.eval x = v1) (hy : a.eval y = v2) (hq : (eqGuard b t x y v1 v2).run P w = .ok () w) (hr : (binOp b t v1 v2).run P w = .ok v w)
    (h : wpList P ops Q rest (a.put o.dst v) w) : wpList P ops Q (o :: rest) a w :=
  wpList_step fun K hK => by
    rw [if_pos hw]
    unfold Oper.wp execOp
    simp only [ho, hx, hy, Sem.run_bind, Sem.run_pure, hq, hr, Result.andThen_ok]
    exact hK _ _ h

set_option maxRecDepth 100000 in
set_option maxHeartbeats 2000000 in
theorem awake_any (w : World) : Calls Try.prog 11 #[] w fun e w' => e = .returned (.bool true) ∧ Below w.heap.size w w' := by
  go_enter Try.func11, Try.ntmps11
  go_wp2_with (first
    | (go_at_call 14; refine (awA_call _).mono ?_; rintro e w1 ⟨rfl, hb1⟩)
    | (go_at_call 30; refine (awC_call _).mono ?_; rintro e w2 ⟨rfl, hb2⟩)
    | (go_at_call 18; refine (awC_back _).mono ?_; rintro e w3 ⟨rfl, hb3⟩)
    | (refine wpList_store_new rfl 45 _ _ rfl w3.heap.size awV rfl rfl 45 zeroCmd (heap_alloc_new w3 _) info45 rfl awV_one ?_; intro w4 h4 hw4; have H4 := Lib.hid h4; clear h4)
    | (refine wpList_load_want (by rfl) 45 _ rfl w3.heap.size rfl 45 awV (0, 0) _ H4.out Try.underlying45 rfl info45 ?_)
    | (refine wpList_bin_want (by rfl) .eql 45 45 _ _ rfl (.agg awV) (.agg awV) (.bool true) rfl rfl (awV_guard _ _ _) (awV_eq _) ?_))
  go_ret
  rw [← hw4.out]
  have hb := hb1.trans ((hb2.mono hb1.size).trans (hb3.mono (Nat.le_trans hb1.size hb2.size)))
  exact ⟨rfl, below_setRow (hb.alloc hb.size _) hb.size _⟩
end Go.Proofs.Ytibmaeckmnkmjaa

/- The statement's walk: what is asked, and what is answered, of any bytes. -/
import Derived.Test.YtibmaeckmnkmjaaE0
import Derived.Test.YtibmaeckmnkmjaaL1
namespace Go.Proofs.Ytibmaeckmnkmjaa
open Go.RowKit

theorem info23 : (Try.prog.info? 23).map (·.size) = some 2 := by kernel_rfl
theorem info25 : (Try.prog.info? 25).map (·.size) = some 9 := by kernel_rfl
theorem info31 : (Try.prog.info? 31).map (·.size) = some 3 := by kernel_rfl

theorem idv_eq (a b : Int) (w : World) : (binOp .eql 23 (.agg #[.int .i64 a, .int .i64 b]) (.agg #[.int .i64 a, .int .i64 b])).run Try.prog w = .ok (.bool true) w := by
  simp [go_sem, Try.underlying23]
theorem idv_guard (x y : Operand) (a b c d : Int) (w : World) : (eqGuard .eql 23 x y (.agg #[.int .i64 a, .int .i64 b]) (.agg #[.int .i64 c, .int .i64 d])).run Try.prog w = .ok () w :=
  run_eqGuard_agg w _ _ _ _ _ _ (by kernel_rfl)
theorem opv_eq (k : Int) (a b c d e f : ByteArray) (m n : Int) (w : World) : (binOp .eql 25 (.agg #[.int .i64 k, .string a, .string b, .string c, .string d, .string e, .string f, .int .i64 m, .int .i64 n]) (.agg #[.int .i64 k, .string a, .string b, .string c, .string d, .string e, .string f, .int .i64 m, .int .i64 n])).run Try.prog w = .ok (.bool true) w := by
  simp [go_sem, Try.underlying25]
theorem opv_guard (x y : Operand) (u v : Array Value) (w : World) : (eqGuard .eql 25 x y (.agg u) (.agg v)).run Try.prog w = .ok () w :=
  run_eqGuard_agg w _ _ _ _ _ _ (by kernel_rfl)

set_option maxRecDepth 100000 in
set_option maxHeartbeats 20000000 in
theorem tells_any (S : ByteArray) (w : World) (hS : S.size ≤ maxLen) : Calls Try.prog 3 #[.string S] w fun e w' => e = .returned (.bool true) ∧ Below w.heap.size w w' := by
  obtain ⟨x, er, hA, hB⟩ := ask_both S hS
  obtain ⟨s, q, e, a, n, ps, er2, hn, hC, hD⟩ := ans_both S hS
  unfold AskV.idv AskV.opv at hA hB
  have HA := Lib.hid hA; have HB := Lib.hid hB; have HC := Lib.hid hC; have HD := Lib.hid hD
  clear hA hB hC hD
  have E0 := Lib.hid (Ever.start w)
  go_enter Try.func3, Try.ntmps3
  go_wp2_with fail
  refine (HA.out _).mono ?_
  rintro o w1 ⟨rfl, hb⟩
  have E1 := Lib.hid (E0.out.later hb)
  clear hb E0
  go_wp2_with (first
    | ((with_reducible refine wpList_selS 3 ?_); refine wpList_store_row rfl 23 (.tmp 3) (.tmp 18) rfl w1.heap.size #[.int .i64 x.s, .int .i64 x.q] rfl rfl 23 zeroId (heap_last2 w1 _ _ _ rfl) info23 rfl (by simp [Value.oneCell']) ?_)
    | ((with_reducible refine wpList_selS 4 ?_); refine wpList_two rfl 25 (.tmp 4) (.tmp 19) rfl #[.int .i64 x.k, .string x.a, .string x.b, .string x.c, .string x.d, .string x.e, .string x.f, .int .i64 x.m, .int .i64 x.n] rfl rfl rfl info25 rfl (by simp [Value.oneCell']) E1.out ?_; intro w2 E2; clear E1))
  refine (HB.out _).mono ?_
  rintro o w3 ⟨rfl, hb⟩
  have E3 := Lib.hid (E2.out.later hb)
  clear hb E2
  go_wp2_with (first
    | ((with_reducible refine wpList_selS 6 ?_); refine wpList_store_row rfl 23 (.tmp 6) (.tmp 24) rfl w3.heap.size #[.int .i64 x.s, .int .i64 x.q] rfl rfl 23 zeroId (heap_last2 w3 _ _ _ rfl) info23 rfl (by simp [Value.oneCell']) ?_)
    | ((with_reducible refine wpList_selS 7 ?_); refine wpList_two rfl 25 (.tmp 7) (.tmp 25) rfl #[.int .i64 x.k, .string x.a, .string x.b, .string x.c, .string x.d, .string x.e, .string x.f, .int .i64 x.m, .int .i64 x.n] rfl rfl rfl info25 rfl (by simp [Value.oneCell']) E3.out ?_; intro w4 E4; clear E3))
  refine (HC.out _).mono ?_
  rintro o w5 ⟨ua, uc, rfl, hb, ho⟩
  have E5 := Lib.hid ((E4.out.later hb).and (Ever.own ho))
  clear hb ho E4
  go_wp2_with (first
    | ((with_reducible refine wpList_selS 9 ?_); refine wpList_store_row rfl 23 (.tmp 9) (.tmp 30) rfl w5.heap.size #[.int .i64 s, .int .i64 q] rfl rfl 23 zeroId (heap_last2 w5 _ _ _ rfl) info23 rfl (by simp [Value.oneCell']) ?_)
    | ((with_reducible refine wpList_selS 10 ?_); refine wpList_two rfl 31 (.tmp 10) (.tmp 31) rfl #[.int .i64 e, .int .i64 a, .slice ua n uc] rfl rfl rfl info31 rfl (by simp [Value.oneCell']) E5.out ?_; intro w6 E6; clear E5))
  refine (HD.out _).mono ?_
  rintro o w7 ⟨ub, ud, rfl, hb, ho⟩
  have E7 := Lib.hid ((E6.out.later hb).and (Ever.own ho))
  clear hb ho E6
  go_wp2_with (first
    | ((with_reducible refine wpList_selS 12 ?_); refine wpList_store_row rfl 23 (.tmp 12) (.tmp 36) rfl w7.heap.size #[.int .i64 s, .int .i64 q] rfl rfl 23 zeroId (heap_last2 w7 _ _ _ rfl) info23 rfl (by simp [Value.oneCell']) ?_)
    | ((with_reducible refine wpList_selS 13 ?_); refine wpList_two rfl 31 (.tmp 13) (.tmp 37) rfl #[.int .i64 e, .int .i64 a, .slice ub n ud] rfl rfl rfl info31 rfl (by simp [Value.oneCell']) E7.out ?_; intro w8 E8; clear E7)
    | ((with_reducible refine wpList_sel 39 ?_); refine wpList_load_want (by rfl) 23 (.tmp 3) rfl w1.heap.size rfl 23 #[.int .i64 x.s, .int .i64 x.q] (0, 0) _ (E8.out.now.1.1.1.1.1.2.1) Try.underlying23 rfl info23 ?_)
    | ((with_reducible refine wpList_sel 40 ?_); refine wpList_load_want (by rfl) 23 (.tmp 6) rfl w3.heap.size rfl 23 #[.int .i64 x.s, .int .i64 x.q] (0, 0) _ (E8.out.now.1.1.1.1.2.1) Try.underlying23 rfl info23 ?_)
    | ((with_reducible refine wpList_sel 43 ?_); refine wpList_load_want (by rfl) 25 (.tmp 4) rfl (w1.heap.size + 1) rfl 25 #[.int .i64 x.k, .string x.a, .string x.b, .string x.c, .string x.d, .string x.e, .string x.f, .int .i64 x.m, .int .i64 x.n] (0, 0) _ (E8.out.now.1.1.1.1.1.2.2) Try.underlying25 rfl info25 ?_)
    | ((with_reducible refine wpList_sel 44 ?_); refine wpList_load_want (by rfl) 25 (.tmp 7) rfl (w3.heap.size + 1) rfl 25 #[.int .i64 x.k, .string x.a, .string x.b, .string x.c, .string x.d, .string x.e, .string x.f, .int .i64 x.m, .int .i64 x.n] (0, 0) _ (E8.out.now.1.1.1.1.2.2) Try.underlying25 rfl info25 ?_)
    | ((with_reducible refine wpList_sel 53 ?_); refine wpList_load_want (by rfl) 23 (.tmp 9) rfl w5.heap.size rfl 23 #[.int .i64 s, .int .i64 q] (0, 0) _ (E8.out.now.1.1.2.1) Try.underlying23 rfl info23 ?_)
    | ((with_reducible refine wpList_sel 54 ?_); refine wpList_load_want (by rfl) 23 (.tmp 12) rfl w7.heap.size rfl 23 #[.int .i64 s, .int .i64 q] (0, 0) _ (E8.out.now.2.1) Try.underlying23 rfl info23 ?_)
    | ((with_reducible refine wpList_sel 58 ?_); refine wpList_load_want (by rfl) 31 (.tmp 10) rfl (w5.heap.size + 1) rfl 31 #[.int .i64 e, .int .i64 a, .slice ua n uc] (0, 0) _ (E8.out.now.1.1.2.2) Try.underlying31 rfl info31 ?_)
    | ((with_reducible refine wpList_sel 59 ?_); refine wpList_load_want (by rfl) 31 (.tmp 13) rfl (w7.heap.size + 1) rfl 31 #[.int .i64 e, .int .i64 a, .slice ub n ud] (0, 0) _ (E8.out.now.2.2) Try.underlying31 rfl info31 ?_)
    | ((with_reducible refine wpList_sel 41 ?_); refine wpList_bin_want (by rfl) .eql 23 23 (.tmp 39) (.tmp 40) rfl _ _ (.bool true) rfl rfl (idv_guard _ _ _ _ _ _ _) (idv_eq _ _ _) ?_)
    | ((with_reducible refine wpList_sel 45 ?_); refine wpList_bin_want (by rfl) .eql 25 25 (.tmp 43) (.tmp 44) rfl _ _ (.bool true) rfl rfl (opv_guard _ _ _ _ _) (opv_eq _ _ _ _ _ _ _ _ _ _) ?_)
    | ((with_reducible refine wpList_sel 55 ?_); refine wpList_bin_want (by rfl) .eql 23 23 (.tmp 53) (.tmp 54) rfl _ _ (.bool true) rfl rfl (idv_guard _ _ _ _ _ _ _) (idv_eq _ _ _) ?_)
    | (go_at_call 10; refine (sameReply_same e a ua ub n uc ud _ _ ps _ hn (E8.out.now.1.1.1.2) (E8.out.now.1.2)).mono ?_; rintro o w9 ⟨rfl, hb⟩; have E9 := Lib.hid (E8.out.later hb); clear hb E8)
    | (go_at_call 11; refine (awake_any _).mono ?_; rintro o w10 ⟨rfl, hb⟩; have EA := Lib.hid (E9.out.later hb); clear hb E9))
  go_ret
  exact ⟨rfl, EA.out.now.1.1.1.1.1.1⟩
end Go.Proofs.Ytibmaeckmnkmjaa

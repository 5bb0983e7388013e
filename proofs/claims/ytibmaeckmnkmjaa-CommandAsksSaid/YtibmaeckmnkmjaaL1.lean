/- The statement 'what is asked, and answered, of any bytes': the two readers, each held against the other. -/
import Derived.Test.YtibmaeckmnkmjaaP2
import Derived.Test.YtibmaeckmnkmjaaC4
namespace Go.Proofs.Ytibmaeckmnkmjaa
open Go.RowKit

theorem ask_both (S : ByteArray) (hS : S.size ≤ maxLen) : ∃ (x : AskV) (er : Int), (∀ w, Calls Try.prog 6 #[.string S] w fun e w' => e = .returned (.tuple #[.agg x.idv, .agg x.opv, .int .i64 er]) ∧ Below w.heap.size w w') ∧
    (∀ w, Calls Try.prog 7 #[.string S] w fun e w' => e = .returned (.tuple #[.agg x.idv, .agg x.opv, .int .i64 er]) ∧ Below w.heap.size w w') := by
  cases h : fromG mQ askKs S with
  | none =>
    refine ⟨⟨0, 0, 0, ⟨#[]⟩, ⟨#[]⟩, ⟨#[]⟩, ⟨#[]⟩, ⟨#[]⟩, ⟨#[]⟩, 0, 0⟩, 140, fun w => fromAsk_none S w hS h, fun w => (refFromAsk S w hS).mono ?_⟩
    intro e w' hp
    unfold RefAskPost at hp
    rw [ask_same_none h] at hp
    exact hp
  | some fvs =>
    obtain ⟨x, rfl⟩ := ask_shape h
    refine ⟨x, 0, fun w => fromAsk_some S w x hS h, fun w => (refFromAsk S w hS).mono ?_⟩
    intro e w' hp
    obtain ⟨h1, h2, h3, h4⟩ := ask_same_some h
    unfold RefAskPost at hp
    rw [h1, h2, h3, h4] at hp
    exact hp

theorem row_count {w : World} {B n m : Nat} {v : Value} {ps : List (ByteArray × ByteArray)} (h : w.ownsRow B 38 2 v n (postCells ps)) (hm : ps.length = m) : n = m := by
  have := h.1
  have e : ∀ l : List (ByteArray × ByteArray), (postCells l).length = l.length * 2 := by
    intro l; induction l with
    | nil => rfl
    | cons p l ih => simp only [postCells] at *; simp_all; omega
  rw [e] at this
  omega

theorem ans_both (S : ByteArray) (hS : S.size ≤ maxLen) : ∃ (s q e a : Int) (n : Nat) (ps : List (ByteArray × ByteArray)) (er : Int), n ≤ 64 ∧
    (∀ w, Calls Try.prog 8 #[.string S] w fun o w' => ∃ ua uc, o = .returned (.tuple #[.agg #[.int .i64 s, .int .i64 q], .agg #[.int .i64 e, .int .i64 a, .slice ua n uc], .int .i64 er]) ∧ Below w.heap.size w w' ∧ w'.ownsRow w.heap.size 38 2 (.slice ua n uc) n (postCells ps)) ∧
    (∀ w, Calls Try.prog 9 #[.string S] w fun o w' => ∃ ua uc, o = .returned (.tuple #[.agg #[.int .i64 s, .int .i64 q], .agg #[.int .i64 e, .int .i64 a, .slice ua n uc], .int .i64 er]) ∧ Below w.heap.size w w' ∧ w'.ownsRow w.heap.size 38 2 (.slice ua n uc) n (postCells ps)) := by
  have hs := ans_same S
  cases h : fromG mA ansKs S with
  | none =>
    rw [h] at hs
    refine ⟨0, 0, 0, 0, 0, [], 140, by omega, fun w => (fromAnswer_none S w hS h).mono ?_, fun w => (refFromAnswer S w hS).mono ?_⟩
    · rintro e w' ⟨rfl, hb⟩
      exact ⟨none, 0, rfl, hb, World.ownsRow_nil _ _ _ _⟩
    · intro e w' hp
      unfold RefAnsPost at hp
      simp only [hs] at hp
      exact ⟨none, 0, hp.2, hp.1, World.ownsRow_nil _ _ _ _⟩
  | some fvs =>
    rw [h] at hs
    obtain ⟨x, ps, rfl, h1, h2, h3, h4⟩ := hs
    refine ⟨x.s, x.q, x.e, x.a, x.n, ps, 0, h4, fun w => (fromAnswer_some S w x hS h).mono ?_, fun w => (refFromAnswer S w hS).mono ?_⟩
    · rintro e w' ⟨ua, uc, rfl, hb, ho⟩
      rw [h2] at ho
      exact ⟨ua, uc, rfl, hb, ho⟩
    · intro e w' hp
      unfold RefAnsPost at hp
      rw [h1] at hp
      obtain ⟨hb, hp⟩ := hp
      rw [if_pos rfl] at hp
      obtain ⟨ua, n, uc, rfl, ho⟩ := hp
      simp only [h2] at ho
      obtain rfl := row_count ho h3
      exact ⟨ua, uc, rfl, hb, ho⟩
end Go.Proofs.Ytibmaeckmnkmjaa

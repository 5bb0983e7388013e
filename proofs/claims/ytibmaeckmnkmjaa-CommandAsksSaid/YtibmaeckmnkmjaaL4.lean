/- The statement's walk: what is asked, and answered, as bytes, and back. -/
import Derived.Test.YtibmaeckmnkmjaaM3
import Derived.Test.YtibmaeckmnkmjaaL2
namespace Go.Proofs.Ytibmaeckmnkmjaa
open Go.RowKit

theorem allB_len {f : PF → Option (List UInt8)} {c : Nat} : ∀ (fs : List PF) (l : List UInt8), (∀ x a, f x = some a → a.length ≤ c) → allB f fs = some l → l.length ≤ fs.length * c
  | [], l, _, h => by simp only [allB, Option.some.injEq] at h; subst h; simp
  | x :: fs, l, hf, h => by
    simp only [allB, Option.bind_eq_some_iff, Option.map_eq_some_iff] at h
    obtain ⟨a, h1, b, h2, rfl⟩ := h
    have := hf x a h1
    have := allB_len fs b hf h2
    rw [List.length_append, List.length_cons, Nat.add_mul]; omega

theorem pairs_len : ∀ (ps : List (ByteArray × ByteArray)) (l : List UInt8), allB pairB ps = some l → l.length ≤ ps.length * 600000
  | [], l, h => by simp only [allB, Option.some.injEq] at h; subst h; simp
  | p :: ps, l, h => by
    simp only [allB, Option.bind_eq_some_iff, Option.map_eq_some_iff] at h
    obtain ⟨a, h1, b, h2, rfl⟩ := h
    have := pairB_len h1
    have := pairs_len ps b h2
    rw [List.length_append, List.length_cons, Nat.add_mul]; omega

theorem put_len40 (f : PF) (a : List UInt8) (h : f.put = some a) : a.length ≤ 40000000 := by
  cases f with
  | num n => have := numB_len (n := n) h; omega
  | err n => have := numB_len (n := n) h; omega
  | tru t => have := numB_len h; omega
  | txt t => have := textB_len (t := t) h; omega
  | posts v ps =>
    simp only [PF.put] at h
    split at h
    · rename_i h64
      simp only [Option.map_eq_some_iff] at h
      obtain ⟨b, hb, rfl⟩ := h
      have h1 := pairs_len ps b hb
      have h2 := putV_nine (n := ps.length) (by omega)
      have h3 : ps.length * 600000 ≤ 64 * 600000 := Nat.mul_le_mul_right _ h64
      rw [List.length_append]; omega
    · simp at h

theorem put_size (c : UInt8) (fs : List PF) (l : List UInt8) (hf : fs.length ≤ 1000) (h : putAll fs = some l) : (⟨(c :: l).toArray⟩ : ByteArray).size ≤ maxLen := by
  have h1 : l.length ≤ fs.length * 40000000 := allB_len fs l (fun x a => put_len40 x a) h
  have h2 : fs.length * 40000000 ≤ 1000 * 40000000 := Nat.mul_le_mul_right _ hf
  have h3 : (⟨(c :: l).toArray⟩ : ByteArray).size = l.length + 1 := by show (c :: l).toArray.size = _; rw [List.size_toArray, List.length_cons]
  unfold maxLen
  omega

def StrRet (S : ByteArray) (er : Int) (w : World) (e : Ending) (w' : World) : Prop := e = .returned (.tuple #[.string S, .int .i64 er]) ∧ Below w.heap.size w w'

theorem ask_puts_both (x : AskV) (hx : x.sized) :
    (∃ S : ByteArray, S.size ≤ maxLen ∧ fromG mQ askKs S = some x.fvs ∧ (∀ w, Calls Try.prog 14 #[.agg x.idv, .agg x.opv] w (StrRet S 0 w)) ∧ ∀ w, Calls Try.prog 15 #[.agg x.idv, .agg x.opv] w (StrRet S 0 w)) ∨
    ((∀ w, Calls Try.prog 14 #[.agg x.idv, .agg x.opv] w (StrRet ⟨#[]⟩ 1 w)) ∧ ∀ w, Calls Try.prog 15 #[.agg x.idv, .agg x.opv] w (StrRet ⟨#[]⟩ 1 w)) := by
  cases h : putAll x.pfs with
  | some l =>
    refine Or.inl ⟨⟨(81 :: l).toArray⟩, put_size 81 x.pfs l (by simp [AskV.pfs]) h, from_put 81 x.pfs l h, fun w => (putAsk_any x w hx).mono ?_, fun w => (refPutAsk x w hx).mono ?_⟩ <;>
    · intro e w' hq
      unfold PutAskPost at hq
      rw [h] at hq
      exact hq
  | none =>
    refine Or.inr ⟨fun w => (putAsk_any x w hx).mono ?_, fun w => (refPutAsk x w hx).mono ?_⟩ <;>
    · intro e w' hq
      unfold PutAskPost at hq
      rw [h] at hq
      exact hq

def RepV.ans (r : RepV) : AnsV := ⟨r.s, r.q, r.e, r.a, r.ps.length, postCells r.ps⟩

theorem ans_puts_both (r : RepV) (hr : r.sized) (ua : Option Addr) (n uc : Nat) :
    (∃ S : ByteArray, S.size ≤ maxLen ∧ fromG mA ansKs S = some r.ans.fvs ∧ (∀ w, PostsAt w ua n uc r.ps → Calls Try.prog 16 #[.agg r.idv, .agg (r.rv ua n uc)] w (StrRet S 0 w)) ∧ ∀ w, PostsAt w ua n uc r.ps → Calls Try.prog 17 #[.agg r.idv, .agg (r.rv ua n uc)] w (StrRet S 0 w)) ∨
    ((∀ w, PostsAt w ua n uc r.ps → Calls Try.prog 16 #[.agg r.idv, .agg (r.rv ua n uc)] w (StrRet ⟨#[]⟩ 1 w)) ∧ ∀ w, PostsAt w ua n uc r.ps → Calls Try.prog 17 #[.agg r.idv, .agg (r.rv ua n uc)] w (StrRet ⟨#[]⟩ 1 w)) := by
  have href : ∀ w, PostsAt w ua n uc r.ps → Calls Try.prog 17 #[.agg r.idv, .agg (r.rv ua n uc)] w (PutAnsPost r w) := fun w hp => by
    by_cases h : r.ps.length ≤ 64
    · exact refPutAns_short r ua n uc w hr hp h
    · exact refPutAns_long r ua n uc w hp h
  cases h : putAll (r.pfs .nilIface) with
  | some l =>
    refine Or.inl ⟨⟨(65 :: l).toArray⟩, put_size 65 _ l (by simp [RepV.pfs]) h, from_put 65 _ l h, fun w hp => (putAns_any r ua n uc w hr hp).mono ?_, fun w hp => (href w hp).mono ?_⟩ <;>
    · intro e w' hq
      unfold PutAnsPost at hq
      rw [h] at hq
      exact hq
  | none =>
    refine Or.inr ⟨fun w hp => (putAns_any r ua n uc w hr hp).mono ?_, fun w hp => (href w hp).mono ?_⟩ <;>
    · intro e w' hq
      unfold PutAnsPost at hq
      rw [h] at hq
      exact hq
end Go.Proofs.Ytibmaeckmnkmjaa

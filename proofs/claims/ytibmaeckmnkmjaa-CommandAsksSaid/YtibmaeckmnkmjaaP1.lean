/- The two readers tell the same: plain lemmas. -/
import Derived.Test.YtibmaeckmnkmjaaR3
namespace Go.Proofs.Ytibmaeckmnkmjaa
open Go.RowKit

theorem takeNum_wide {s r : ByteArray} {m n : Int} (hm : m ≤ 1099511627776) (h : takeNum s m = some (n, r)) : takeNum s 1099511627776 = some (n, r) := by
  unfold takeNum at h ⊢
  split at h
  · rename_i hc
    rw [if_pos ⟨hc.1, by omega⟩]; exact h
  · simp at h

theorem takeNum_narrow {s r : ByteArray} {m n : Int} (h : takeNum s 1099511627776 = some (n, r)) (hn : n ≤ m) : takeNum s m = some (n, r) := by
  unfold takeNum at h ⊢
  split at h
  · rename_i hc
    simp only [Option.some.injEq, Prod.mk.injEq] at h
    rw [if_pos ⟨hc.1, by rw [h.1]; exact hn⟩, h.1, h.2]
  · simp at h

theorem numR_ok {s r : ByteArray} {n : Int} (h : takeNum s 1099511627776 = some (n, r)) : numR s false = (n, r, false) := by simp [numR, h]
theorem numR_no {s : ByteArray} (h : takeNum s 1099511627776 = none) : numR s false = (0, s, true) := by simp [numR, h]
theorem numR_bad (s : ByteArray) : numR s true = (0, s, true) := rfl

theorem mostR_ok {m : Int} {s r : ByteArray} {n : Int} (hm : m ≤ 1099511627776) (h : takeNum s m = some (n, r)) : mostR m s false = (n, r, false) := by
  obtain ⟨_, _, _, hn, _⟩ := takeNum_some h
  unfold mostR
  rw [numR_ok (takeNum_wide hm h), if_pos hn]
theorem mostR_no {m : Int} {s : ByteArray} (h : takeNum s m = none) : (mostR m s false).2.2 = true := by
  unfold mostR
  cases ht : takeNum s 1099511627776 with
  | none => rw [numR_no ht]; split <;> rfl
  | some y =>
    obtain ⟨n, r⟩ := y
    rw [numR_ok ht]
    by_cases hn : n ≤ m
    · rw [takeNum_narrow ht hn] at h; simp at h
    · rw [if_neg hn]
theorem mostR_bad (m : Int) (s : ByteArray) : (mostR m s true).2.2 = true := by unfold mostR; rw [numR_bad]; split <;> rfl

theorem textR_ok {s t r : ByteArray} (h : takeText s = some (t, r)) : textR s false = (t, r, false) := by
  obtain ⟨n, r1, hn, hle, rfl, rfl⟩ := takeText_some h
  unfold textR
  rw [mostR_ok (by decide) hn, if_neg (by simp; omega)]
  rfl
theorem textR_no {s : ByteArray} (h : takeText s = none) : (textR s false).2.2 = true := by
  unfold textR
  rcases takeText_none h with hn | ⟨n, r1, hn, hlt⟩
  · rw [if_pos (Or.inl (mostR_no hn))]
  · rw [mostR_ok (by decide) hn, if_pos (Or.inr (by simp; omega))]
theorem textR_bad (s : ByteArray) : (textR s true).2.2 = true := by
  unfold textR; rw [if_pos (Or.inl (mostR_bad _ s))]

def oneR : FK → ByteArray → Bool → Value × ByteArray × Bool
  | .num, s, b | .err, s, b => (.int .i64 (numR s b).1, (numR s b).2)
  | .tru, s, b => (.bool ((mostR 1 s b).1 == 1), (mostR 1 s b).2)
  | .txt, s, b => (.string (textR s b).1, (textR s b).2)

def runR : List FK → ByteArray → Bool → List Value × ByteArray × Bool
  | [], s, b => ([], s, b)
  | k :: ks, s, b => ((oneR k s b).1 :: (runR ks (oneR k s b).2.1 (oneR k s b).2.2).1, (runR ks (oneR k s b).2.1 (oneR k s b).2.2).2)

theorem oneR_ok {k : FK} {s r : ByteArray} {v : Value} (h : takeOne k s = some (v, r)) : oneR k s false = (v, r, false) := by
  cases k <;> simp only [takeOne, Option.map_eq_some_iff, Prod.exists, Prod.mk.injEq] at h <;> obtain ⟨a, b, h1, rfl, rfl⟩ := h
  · simp only [oneR, numR_ok h1]
  · simp only [oneR, numR_ok h1]
  · simp only [oneR, mostR_ok (by decide) h1]
  · simp only [oneR, textR_ok h1]

theorem oneR_no {k : FK} {s : ByteArray} (h : takeOne k s = none) : (oneR k s false).2.2 = true := by
  cases k <;> simp only [takeOne, Option.map_eq_none_iff] at h
  · simp only [oneR, numR_no h]
  · simp only [oneR, numR_no h]
  · simp only [oneR, mostR_no h]
  · simp only [oneR, textR_no h]

theorem oneR_bad (k : FK) (s : ByteArray) : (oneR k s true).2.2 = true := by
  cases k
  · rfl
  · rfl
  · exact mostR_bad _ s
  · exact textR_bad s

theorem runR_bad : ∀ (ks : List FK) (s : ByteArray), (runR ks s true).2.2 = true
  | [], _ => rfl
  | k :: ks, s => by simp only [runR, oneR_bad]; exact runR_bad ks _

theorem runR_ok : ∀ (ks : List FK) {s r : ByteArray} {vs : List Value}, takeAll ks s = some (vs, r) → runR ks s false = (vs, r, false)
  | [], s, r, vs, h => by simp only [takeAll, Option.some.injEq, Prod.mk.injEq] at h; rw [← h.1, ← h.2]; rfl
  | k :: ks, s, r, vs, h => by
    cases ho : takeOne k s with
    | none => rw [takeAll_cons_none ho] at h; simp at h
    | some y =>
      obtain ⟨v, r1⟩ := y
      rw [takeAll_cons_some ho] at h
      simp only [Option.map_eq_some_iff, Prod.exists, Prod.mk.injEq] at h
      obtain ⟨a, b, h1, rfl, rfl⟩ := h
      simp only [runR, oneR_ok ho, runR_ok ks h1]

theorem runR_no : ∀ (ks : List FK) {s : ByteArray}, takeAll ks s = none → (runR ks s false).2.2 = true
  | [], s, h => by simp [takeAll] at h
  | k :: ks, s, h => by
    cases ho : takeOne k s with
    | none => simp only [runR, oneR_no ho]; exact runR_bad ks _
    | some y =>
      obtain ⟨v, r1⟩ := y
      rw [takeAll_cons_some ho] at h
      simp only [Option.map_eq_none_iff] at h
      simp only [runR, oneR_ok ho]
      exact runR_no ks h

theorem takeAllG_flat : ∀ (ks : List FK) (s : ByteArray), takeAllG (ks.map .flat) s = (takeAll ks s).map fun x => (x.1.map .val, x.2)
  | [], s => rfl
  | k :: ks, s => by
    cases ho : takeOne k s with
    | none => rw [takeAll_cons_none ho, List.map_cons, takeAllG_cons_none (by simp [takeOneG, ho])]; rfl
    | some y =>
      obtain ⟨v, r1⟩ := y
      rw [takeAll_cons_some ho, List.map_cons, takeAllG_cons_some (v := .val v) (r := r1) (by simp [takeOneG, ho]), takeAllG_flat ks r1]
      cases takeAll ks r1 <;> rfl

theorem size_zero {r : ByteArray} : r.toList.isEmpty = true ↔ r.size = 0 := by
  rw [ByteArray.toList_eq, List.isEmpty_iff]
  constructor
  · intro h; have := congrArg List.length h; simpa using this
  · intro h; exact List.eq_nil_of_length_eq_zero (by simpa using h)

theorem toList_one (c : UInt8) : (⟨#[c]⟩ : ByteArray).toList = [c] := by rw [ByteArray.toList_eq]

theorem take1 {s : ByteArray} {c : UInt8} (h : s.data.toList.head? = some c) : takeMark ⟨#[c]⟩ s = some (s.extract 1 s.size) := by
  unfold takeMark
  cases hl : s.data.toList with
  | nil => rw [hl] at h; simp at h
  | cons a l =>
    rw [hl] at h
    obtain rfl : a = c := by simpa using h
    have hsz : 1 ≤ s.size := by
      have := congrArg List.length hl
      simp at this
      have h2 : s.size = s.data.size := rfl
      omega
    have he : (s.extract 0 1).toList = [a] := by
      rw [ByteArray.toList_eq]
      have : (s.extract 0 1).data.toList = (s.data.toList.take 1) := by simp
      rw [this, hl]; rfl
    rw [if_pos ⟨hsz, by rw [toList_one]; exact he⟩]
    rfl

theorem take1_no {s : ByteArray} {c : UInt8} (h : ¬ s.data.toList.head? = some c) : takeMark ⟨#[c]⟩ s = none := by
  unfold takeMark
  rw [if_neg]
  rintro ⟨h1, h2⟩
  apply h
  have h3 : (s.extract 0 1).data.toList = (s.data.toList.take 1) := by simp
  have h4 : (s.extract 0 1).toList = [c] := by rw [← toList_one c]; exact h2
  rw [ByteArray.toList_eq, h3] at h4
  cases hl : s.data.toList with
  | nil => rw [hl] at h4; simp at h4
  | cons a l => rw [hl] at h4; simpa using h4

/-- The two readers, over fields of four kinds. -/
theorem same_flat (c : UInt8) (ks : List FK) (S : ByteArray) :
    fromG ⟨#[c]⟩ (ks.map .flat) S = if fineR (runR ks (markR c S).1 (markR c S).2).2.1 (runR ks (markR c S).1 (markR c S).2).2.2 = true then some ((runR ks (markR c S).1 (markR c S).2).1.map .val) else none := by
  unfold fromG markR
  by_cases h : S.data.toList.head? = some c
  · rw [take1 h, if_pos h]
    simp only [takeAllG_flat]
    cases ht : takeAll ks (S.extract 1 S.size) with
    | none => simp [fineR, runR_no ks ht]
    | some y =>
      obtain ⟨vs, r⟩ := y
      simp only [Option.map_some, runR_ok ks ht, fineR, Bool.not_false, Bool.true_and]
      by_cases hr : r.size = 0
      · rw [if_pos hr, if_pos (size_zero.2 hr)]
      · rw [if_neg hr, if_neg (fun e => hr (size_zero.1 e))]
  · rw [take1_no h, if_neg h]
    simp [fineR, runR_bad]

def askFK : List FK := [.num, .num, .num, .txt, .txt, .txt, .txt, .txt, .txt, .num, .num]

theorem askR_run (S : ByteArray) : [.int .i64 (askR S).1, .int .i64 (askR S).2.1] ++ (askR S).2.2.1.val.toList = (runR askFK (markR 81 S).1 (markR 81 S).2).1 ∧
    (askR S).2.2.2 = fineR (runR askFK (markR 81 S).1 (markR 81 S).2).2.1 (runR askFK (markR 81 S).1 (markR 81 S).2).2.2 := ⟨rfl, rfl⟩

theorem ask_same_none {S : ByteArray} (h : fromG mQ askKs S = none) : (askR S).2.2.2 = false := by
  have e := same_flat 81 askFK S
  have e2 : fromG ⟨#[81]⟩ (askFK.map .flat) S = none := h
  rw [e2, ← (askR_run S).2] at e
  by_cases hf : (askR S).2.2.2 = true
  · rw [if_pos hf] at e; simp at e
  · simpa using hf

theorem ask_same_some {S : ByteArray} {x : AskV} (h : fromG mQ askKs S = some x.fvs) :
    (askR S).2.2.2 = true ∧ (askR S).1 = x.s ∧ (askR S).2.1 = x.q ∧ (askR S).2.2.1 = ⟨x.k, x.a, x.b, x.c, x.d, x.e, x.f, x.m, x.n⟩ := by
  have e := same_flat 81 askFK S
  have e2 : fromG ⟨#[81]⟩ (askFK.map .flat) S = some x.fvs := h
  rw [e2, ← (askR_run S).2, ← (askR_run S).1] at e
  by_cases hf : (askR S).2.2.2 = true
  · rw [if_pos hf] at e
    refine ⟨hf, ?_⟩
    generalize askR S = R at *
    obtain ⟨a, b, ⟨c, d, e1, f, g, i, j, k, l⟩, m⟩ := R
    simp [OpV.val, AskV.fvs] at e
    simp [e]
  · rw [if_neg hf] at e; simp at e
end Go.Proofs.Ytibmaeckmnkmjaa

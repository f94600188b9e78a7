/- Reading fields off bytes: plain. -/
import Derived.Test.YtpkmghllidejhaaTake
import Derived.Test.YtpkmghllidejhaaFields
namespace Go.Proofs.Ytpkmghllidejhaa
set_option linter.unusedVariables false

structure DPlaced where
  f : DField
  at_ : Int
deriving Inhabited
def DPlaced.enc (x : DPlaced) : List Value := [.int .i64 x.f.no, .int .i64 x.f.kind, .int .i64 x.f.num, .string x.f.data, .int .i64 x.at_]
theorem DPlaced.enc_len (l : List DPlaced) : ∀ r ∈ l.map DPlaced.enc, r.length = 5 := by
  intro r hr; obtain ⟨x, _, rfl⟩ := List.mem_map.1 hr; rfl
theorem DPlaced.enc_one (l : List DPlaced) : ∀ u ∈ (l.map DPlaced.enc).flatten, u.oneCell' = true := by
  intro u hu
  obtain ⟨r, hr, hu⟩ := List.mem_flatten.1 hu
  obtain ⟨x, _, rfl⟩ := List.mem_map.1 hr
  simp only [DPlaced.enc, List.mem_cons, List.not_mem_nil, or_false] at hu
  rcases hu with rfl | rfl | rfl | rfl | rfl <;> rfl
/-- A length and so many bytes. -/
def tb (l : List UInt8) (a : Nat) : List UInt8 × Nat × Bool :=
  if (tkI l a).2.2 = true ∧ (tkI l a).1 + (tkI l a).2.1 ≤ l.length then ((l.drop (tkI l a).2.1).take (tkI l a).1, (tkI l a).2.1 + (tkI l a).1, true) else ([], 0, false)
def fieldAt (l : List UInt8) (a : Nat) : DField :=
  if (tkI l a).1 % 8 = 2 then ⟨((tkI l a).1 / 8 : Nat), 2, 0, mkS (tb l (tkI l a).2.1).1⟩
  else ⟨((tkI l a).1 / 8 : Nat), ((tkI l a).1 % 8 : Nat), unf (tkI l (tkI l a).2.1).1, ⟨#[]⟩⟩
def fieldOkAt (l : List UInt8) (a : Nat) : Bool :=
  (tkI l a).2.2 && (if (tkI l a).1 % 8 = 2 then (tb l (tkI l a).2.1).2.2 else (tkI l (tkI l a).2.1).2.2) && fieldB (fieldAt l a)
def fieldEnd (l : List UInt8) (a : Nat) : Nat := if (tkI l a).1 % 8 = 2 then (tb l (tkI l a).2.1).2.1 else (tkI l (tkI l a).2.1).2.1
theorem tb_ok {l : List UInt8} {a : Nat} (h : (tb l a).2.2 = true) : (tkI l a).2.2 = true ∧ (tkI l a).1 + (tkI l a).2.1 ≤ l.length ∧ tb l a = ((l.drop (tkI l a).2.1).take (tkI l a).1, (tkI l a).2.1 + (tkI l a).1, true) := by
  by_cases hc : (tkI l a).2.2 = true ∧ (tkI l a).1 + (tkI l a).2.1 ≤ l.length
  · exact ⟨hc.1, hc.2, by rw [tb, if_pos hc]⟩
  · rw [tb, if_neg hc] at h; cases h
theorem tb_bad {l : List UInt8} {a : Nat} (h : ¬ ((tkI l a).2.2 = true ∧ (tkI l a).1 + (tkI l a).2.1 ≤ l.length)) : tb l a = ([], 0, false) := by rw [tb, if_neg h]
theorem fieldEnd_bd {l : List UInt8} {a : Nat} (h : fieldOkAt l a = true) : a < fieldEnd l a ∧ fieldEnd l a ≤ l.length := by
  simp only [fieldOkAt, Bool.and_eq_true] at h
  have h1 := (tkI_bd l a).2 h.1.1
  by_cases h2 : (tkI l a).1 % 8 = 2
  · have h3 := h.1.2
    rw [if_pos h2] at h3
    obtain ⟨h4, h5, h6⟩ := tb_ok h3
    have h7 := (tkI_bd l (tkI l a).2.1).2 h4
    rw [fieldEnd, if_pos h2, h6]
    dsimp only; omega
  · have h3 := h.1.2
    rw [if_neg h2] at h3
    have h7 := (tkI_bd l (tkI l a).2.1).2 h3
    rw [fieldEnd, if_neg h2]; omega
/-- The fields from a place on, onto those that were read. -/
def readF (l : List UInt8) : Nat → Nat → List DPlaced → Option (List DPlaced)
  | 0, _, _ => none
  | n + 1, a, acc => if a < l.length then (if fieldOkAt l a = true ∧ acc.length ≠ 40 then readF l n (fieldEnd l a) (acc ++ [⟨fieldAt l a, (a : Nat)⟩]) else none) else some acc
def readP (l : List UInt8) : Option (List DPlaced) := if l.length ≤ 400 then readF l (l.length + 1) 0 [] else none
def readB (l : List UInt8) : Bool := (readP l).isSome
def readL (l : List UInt8) : List DPlaced := (readP l).getD []
theorem readF_len {l : List UInt8} : ∀ n a acc r, acc.length ≤ 40 → readF l n a acc = some r → r.length ≤ 40 := by
  intro n
  induction n with
  | zero => intro a acc r _ h; cases h
  | succ n ih =>
    intro a acc r hl h
    rw [readF] at h
    split at h
    · split at h
      · rename_i h2
        exact ih _ _ _ (by simp; omega) h
      · cases h
    · cases h; exact hl
theorem readL_len (l : List UInt8) : (readL l).length ≤ 40 := by
  rw [readL, readP]
  split
  · cases h : readF l (l.length + 1) 0 [] with
    | none => simp
    | some r => exact readF_len _ _ _ _ (by simp) h
  · simp
theorem unf_fin {n : Nat} (h : n ≤ 2000000001) : -1000000001 ≤ unf n ∧ unf n ≤ 1000000001 := by unfold unf; split <;> omega
end Go.Proofs.Ytpkmghllidejhaa

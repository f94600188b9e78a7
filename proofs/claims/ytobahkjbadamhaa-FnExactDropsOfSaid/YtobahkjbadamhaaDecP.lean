/- What bytes of a type tell, by fields: plain laws for the reference. -/
import Derived.Test.YtobahkjbadamhaaDecE
namespace Go.Proofs.Ytobahkjbadamhaa
open Go.RowKit
set_option linter.unusedVariables false
/-- What one field of a message tells. -/
def stepF (ps : List K) (f : DField) : Option (List K) := match ps.find? (byNo f.no) with
  | none => some []
  | some p => (fieldV p f).map (fun v => [v])
theorem decF_cons (ps : List K) (f : DField) (l : List DField) : decF ps (f :: l) = (stepF ps f).bind (fun a => (decF ps l).map (fun b => a ++ b)) := by
  rw [decF, stepF]
  cases ps.find? (byNo f.no) with
  | none => dsimp only; cases decF ps l <;> rfl
  | some p =>
    dsimp only
    cases fieldV p f with
    | none => rfl
    | some v => cases decF ps l <;> rfl
theorem decF_snoc (ps : List K) (f : DField) : ∀ l : List DField, decF ps (l ++ [f]) = (decF ps l).bind (fun a => (stepF ps f).map (fun b => a ++ b)) := by
  intro l
  induction l with
  | nil => rw [List.nil_append, decF_cons, decF]; cases stepF ps f <;> simp
  | cons g l ih =>
    rw [List.cons_append, decF_cons, decF_cons, ih]
    cases stepF ps g with
    | none => rfl
    | some a =>
      cases decF ps l with
      | none => rfl
      | some c => cases stepF ps f <;> simp
theorem decF_stop (ps : List K) (m : List DField) : ∀ l : List DField, decF ps l = none → decF ps (l ++ m) = none := by
  intro l
  induction l with
  | nil => intro h; rw [decF] at h; cases h
  | cons g l ih =>
    intro h
    rw [decF_cons] at h
    rw [List.cons_append, decF_cons]
    cases hq : stepF ps g with
    | none => rfl
    | some a =>
      rw [hq] at h
      cases hl : decF ps l with
      | none => simp [ih hl]
      | some c => rw [hl] at h; cases h
theorem decF_take {ps : List K} {l : List DField} {j : Nat} (h : j < l.length) : decF ps (l.take (j + 1)) = (decF ps (l.take j)).bind (fun a => (stepF ps l[j]).map (fun b => a ++ b)) := by
  rw [List.take_succ_eq_append_getElem h, decF_snoc]
theorem decF_no {ps : List K} {l : List DField} {j : Nat} (h : j < l.length) (hs : stepF ps l[j] = none) : decF ps l = none := by
  have h1 : decF ps (l.take (j + 1)) = none := by rw [decF_take h, hs]; cases decF ps (l.take j) <;> rfl
  have := decF_stop ps (l.drop (j + 1)) _ h1
  rwa [List.take_append_drop] at this
theorem risesF_of {l : List DField} (h : ∀ i, i < l.length → nBad (nosF l) i = false) : risesF l := by
  have hn : ∀ i (hi : i + 1 < l.length), l[i].no < l[i + 1].no := by
    intro i hi
    have := h (i + 1) hi
    rw [nosF, nBad_succ (by simpa using hi)] at this
    simp at this
    omega
  have hd : ∀ (d i : Nat) (hj : i + d + 1 < l.length), (l[i]'(by omega)).no < l[i + d + 1].no := by
    intro d
    induction d with
    | zero => intro i hj; exact hn i hj
    | succ d ih =>
      intro i hj
      have h1 := ih i (by omega)
      have h2 := hn (i + d + 1) (by omega)
      have e : i + (d + 1) + 1 = i + d + 1 + 1 := by omega
      simp only [e]
      omega
  unfold risesF
  rw [List.pairwise_iff_getElem]
  intro i j hi hj hij
  have := hd (j - i - 1) i (by omega)
  have e : i + (j - i - 1) + 1 = j := by omega
  simp only [e] at this
  exact this
theorem rf_rises {l : List UInt8} (h : rfB l = true) : risesF (readFs l) := by
  rw [rfB, Bool.and_eq_true] at h
  refine risesF_of (fun i hi => ?_)
  have := h.2
  rw [risNB, List.all_eq_true] at this
  have := this i (by rw [List.mem_range, nosF, List.length_map]; exact hi)
  simpa using this
/-- A message, by its fields. -/
def msgR (ps : List K) (vs : List K) : Option K := if mustsB ps vs = true then some (.mk 5 ⟨#[]⟩ 0 true 0 vs) else none
theorem dec_msg {t : K} (hr : rightK t) (h5 : t.of = 5) (b : ByteArray) : decK t 0 b = if rfB b.data.toList = true then (decF t.parts (readFs b.data.toList)).bind (msgR t.parts) else none := by
  rw [decK_eq, if_neg (by omega), if_neg (by omega)]
  by_cases h : rfB b.data.toList = true
  · rw [if_pos h, if_pos h, rfF, if_pos h, dec_same _ _ (right_rises hr h5) (rf_rises h)]
    cases decF t.parts (readFs b.data.toList) with
    | none => rfl
    | some vs =>
      simp only [Option.bind_some]
      rw [msgR]
      split <;> rfl
  · rw [if_neg h, if_neg h]
theorem dec_withNo (t : K) (no : Int) (b : ByteArray) : decK t no b = (decK t 0 b).map (fun v => withNo v no) := by
  rw [decK_eq, decK_eq]
  split
  · split <;> rfl
  · split
    · cases decH t.parts b <;> rfl
    · split
      · cases decL t.parts (rfF b.data.toList) <;> rfl
      · rfl
/-- A field of a part, as the reference reads it. -/
theorem fieldV_num {p : K} {f : DField} (hf : foldB p.of = true) (hn : f.kind = 0 → numB f.num = true) (hk : f.kind = 0 ∨ f.kind = 2) :
    fieldV p f = if f.kind = 0 ∧ (p.of ≠ 3 ∨ (0 ≤ f.num ∧ f.num ≤ p.most)) then some (leafV f.num ⟨#[]⟩ f.no) else none := by
  rw [fieldV, partV, if_pos hf]
  by_cases h0 : f.kind = 0
  · have hb := hn h0
    have ho := foldB_iff.1 hf
    congr 1
    simp only [h0, true_and, numV, hb, Bool.true_and, eq_iff_iff]
    rcases ho with e | e
    · simp [e]
    · simp [e]
  · rw [if_neg (fun h => h0 h.1), if_neg (fun h => h0 h.1)]
theorem fieldV_dat {p : K} {f : DField} (hf : foldB p.of = false) : fieldV p f = if f.kind = 0 then none else (decK p 0 f.data).map (fun v => withNo v f.no) := by
  rw [fieldV, partV, if_neg (by rw [hf]; simp)]
  split
  · rfl
  · exact dec_withNo _ _ _
end Go.Proofs.Ytobahkjbadamhaa

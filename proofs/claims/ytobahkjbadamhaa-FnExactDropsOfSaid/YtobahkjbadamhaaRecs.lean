/- The struct Instr as data; the laws' helpers on it (sz, to, eq), on slices of it, on Program (with Want, Test, Field, Fields, ReadM). -/
import Derived.Test.YtobahkjbadamhaaRows
import Derived.Test.YtobahkjbadamhaaBases
import Derived.Outline
import Derived.Deep.RegionHeld3
import Derived.Deep.Light
/- The struct Instr as data; the laws' helpers on it (sz, to, eq), on slices of it, on Program. -/
namespace Go.Proofs.Ytobahkjbadamhaa
open Go.RowKit Go.ChangeShapes Go.WideShapes
set_option linter.unusedVariables false
set_option maxRecDepth 100000

structure DInstr where
  code : Int
  kind : Int
  no : Int
  num : Int
  text : ByteArray
  to : Int
deriving Inhabited
def DInstr.enc (x : DInstr) : List Value := [.int .i64 x.code, .int .i64 x.kind, .int .i64 x.no, .int .i64 x.num, .string x.text, .int .i64 x.to]
theorem DInstr.enc_len (l : List DInstr) : ∀ r ∈ l.map DInstr.enc, r.length = 6 := by
  intro r hr; obtain ⟨x, _, rfl⟩ := List.mem_map.1 hr; rfl
theorem DInstr.row (l : List DInstr) (k : Nat) (h : k < l.length) : (l.map DInstr.enc)[k]? = some (l[k].enc) := by simp [h]
/-- What every value that can be read is: its strings are not longer than Go allows. -/
def DInstr.ok (x : DInstr) : Prop := x.text.size ≤ maxLen
theorem Cells.rowInstr {w : World} {b o : Nat} (l : List DInstr) (k : Nat) (h : k < l.length) (C : Cells w b o 6 (l.map DInstr.enc)) :
    w.cell? ⟨b, o + k * 6, none⟩ = some (.int .i64 l[k].code) ∧ w.cell? ⟨b, o + k * 6 + 1, none⟩ = some (.int .i64 l[k].kind) ∧ w.cell? ⟨b, o + k * 6 + 2, none⟩ = some (.int .i64 l[k].no) ∧ w.cell? ⟨b, o + k * 6 + 3, none⟩ = some (.int .i64 l[k].num) ∧ w.cell? ⟨b, o + k * 6 + 4, none⟩ = some (.string l[k].text) ∧ w.cell? ⟨b, o + k * 6 + 5, none⟩ = some (.int .i64 l[k].to) :=
  ⟨C.2 k _ (DInstr.row l k h) 0 _ rfl, C.2 k _ (DInstr.row l k h) 1 _ rfl, C.2 k _ (DInstr.row l k h) 2 _ rfl, C.2 k _ (DInstr.row l k h) 3 _ rfl, C.2 k _ (DInstr.row l k h) 4 _ rfl, C.2 k _ (DInstr.row l k h) 5 _ rfl⟩
def Sz1InstrPost (n : Nat) (left : Int) (w : World) (e : Ending) (w' : World) : Prop :=
  ∃ r : Int, e = .returned (.int .i64 r) ∧ -1 ≤ r ∧ r ≤ left ∧ (0 ≤ r → (n : Int) + r ≤ left) ∧ Below w.heap.size w w'
/-- The strings of the first k. -/
def SmallInstr (left : Int) (k : Nat) (l : List DInstr) : Prop := ∀ i (h : i < l.length), i < k → (l[i].text.size : Int) ≤ left
def SzInstrPost (l : List DInstr) (left : Int) (w : World) (e : Ending) (w' : World) : Prop :=
  ∃ r : Int, e = .returned (.int .i64 r) ∧ -1 ≤ r ∧ r ≤ left ∧ (0 ≤ r → (l.length : Int) ≤ left ∧ SmallInstr left l.length l) ∧ Below w.heap.size w w'
section
variable {H : Type} {enc : TypeId × Value → H} {w : World} {spare : Nat → Bool} {held : Bool}
end
end Go.Proofs.Ytobahkjbadamhaa
/- The struct Want as data; the laws' helpers on it (sz, to, eq), on slices of it, on Filter. -/
namespace Go.Proofs.Ytobahkjbadamhaa
open Go.RowKit Go.ChangeShapes Go.WideShapes
set_option linter.unusedVariables false
set_option maxRecDepth 100000

structure DWant where
  kind : Int
  no : Int
  num : Int
  text : ByteArray
  a : Int
  b : Int
deriving Inhabited
def DWant.enc (x : DWant) : List Value := [.int .i64 x.kind, .int .i64 x.no, .int .i64 x.num, .string x.text, .int .i64 x.a, .int .i64 x.b]
theorem DWant.enc_len (l : List DWant) : ∀ r ∈ l.map DWant.enc, r.length = 6 := by
  intro r hr; obtain ⟨x, _, rfl⟩ := List.mem_map.1 hr; rfl
theorem DWant.row (l : List DWant) (k : Nat) (h : k < l.length) : (l.map DWant.enc)[k]? = some (l[k].enc) := by simp [h]
/-- What every value that can be read is: its strings are not longer than Go allows. -/
def DWant.ok (x : DWant) : Prop := x.text.size ≤ maxLen
theorem Cells.rowWant {w : World} {b o : Nat} (l : List DWant) (k : Nat) (h : k < l.length) (C : Cells w b o 6 (l.map DWant.enc)) :
    w.cell? ⟨b, o + k * 6, none⟩ = some (.int .i64 l[k].kind) ∧ w.cell? ⟨b, o + k * 6 + 1, none⟩ = some (.int .i64 l[k].no) ∧ w.cell? ⟨b, o + k * 6 + 2, none⟩ = some (.int .i64 l[k].num) ∧ w.cell? ⟨b, o + k * 6 + 3, none⟩ = some (.string l[k].text) ∧ w.cell? ⟨b, o + k * 6 + 4, none⟩ = some (.int .i64 l[k].a) ∧ w.cell? ⟨b, o + k * 6 + 5, none⟩ = some (.int .i64 l[k].b) :=
  ⟨C.2 k _ (DWant.row l k h) 0 _ rfl, C.2 k _ (DWant.row l k h) 1 _ rfl, C.2 k _ (DWant.row l k h) 2 _ rfl, C.2 k _ (DWant.row l k h) 3 _ rfl, C.2 k _ (DWant.row l k h) 4 _ rfl, C.2 k _ (DWant.row l k h) 5 _ rfl⟩
def Sz1WantPost (n : Nat) (left : Int) (w : World) (e : Ending) (w' : World) : Prop :=
  ∃ r : Int, e = .returned (.int .i64 r) ∧ -1 ≤ r ∧ r ≤ left ∧ (0 ≤ r → (n : Int) + r ≤ left) ∧ Below w.heap.size w w'
/-- The strings of the first k. -/
def SmallWant (left : Int) (k : Nat) (l : List DWant) : Prop := ∀ i (h : i < l.length), i < k → (l[i].text.size : Int) ≤ left
def SzWantPost (l : List DWant) (left : Int) (w : World) (e : Ending) (w' : World) : Prop :=
  ∃ r : Int, e = .returned (.int .i64 r) ∧ -1 ≤ r ∧ r ≤ left ∧ (0 ≤ r → (l.length : Int) ≤ left ∧ SmallWant left l.length l) ∧ Below w.heap.size w w'
section
variable {H : Type} {enc : TypeId × Value → H} {w : World} {spare : Nat → Bool} {held : Bool}
end
end Go.Proofs.Ytobahkjbadamhaa
/- testOK and wantOK, instrOK: what a test, a want, an instruction must be; of the program and of the reference. -/
namespace Go.Proofs.Ytobahkjbadamhaa
open Go.RowKit
set_option linter.unusedVariables false
set_option maxRecDepth 100000
def emptyS (s : ByteArray) : Bool := s.toList.isEmpty
def testB (kind num : Int) (text : ByteArray) : Bool :=
  if kind = 1 ∨ kind = 2 ∨ kind = 3 then numB num && emptyS text
  else if kind = 4 then decide (num = 0) && emptyS text
  else if kind = 5 then decide (num = 0) && decide ((text.size : Int) ≤ 30)
  else false
def instrP (c k no nu : Int) (t : ByteArray) (to i n : Int) : Prop :=
  ((c = 5) ↔ (i = n - 1)) ∧
  ((c = 1 ∧ 1 ≤ no ∧ no ≤ 30 ∧ k = 0 ∧ nu = 0 ∧ emptyS t = true ∧ to = 0) ∨
   (c = 2 ∧ no = 0 ∧ to = 0 ∧ testB k nu t = true) ∨
   (c = 3 ∧ 0 ≤ nu ∧ nu ≤ 1 ∧ i + 1 ≤ to ∧ to ≤ n - 1 ∧ k = 0 ∧ no = 0 ∧ emptyS t = true) ∨
   ((c = 4 ∨ c = 5) ∧ k = 0 ∧ no = 0 ∧ nu = 0 ∧ emptyS t = true ∧ to = 0))
instance (c k no nu : Int) (t : ByteArray) (to i n : Int) : Decidable (instrP c k no nu t to i n) := by unfold instrP; infer_instance
def instrB (x : DInstr) (i n : Int) : Bool := decide (instrP x.code x.kind x.no x.num x.text x.to i n)
end Go.Proofs.Ytobahkjbadamhaa
/- The struct Field as data; the laws' helpers on it (sz, to, eq), on slices of it. -/
namespace Go.Proofs.Ytobahkjbadamhaa
open Go.RowKit Go.ChangeShapes Go.WideShapes
set_option linter.unusedVariables false
set_option maxRecDepth 100000

structure DField where
  no : Int
  kind : Int
  num : Int
  data : ByteArray
deriving Inhabited
def DField.enc (x : DField) : List Value := [.int .i64 x.no, .int .i64 x.kind, .int .i64 x.num, .string x.data]
theorem DField.enc_len (l : List DField) : ∀ r ∈ l.map DField.enc, r.length = 4 := by
  intro r hr; obtain ⟨x, _, rfl⟩ := List.mem_map.1 hr; rfl
theorem DField.row (l : List DField) (k : Nat) (h : k < l.length) : (l.map DField.enc)[k]? = some (l[k].enc) := by simp [h]
/-- What every value that can be read is: its strings are not longer than Go allows. -/
def DField.ok (x : DField) : Prop := x.data.size ≤ maxLen
theorem Cells.rowField {w : World} {b o : Nat} (l : List DField) (k : Nat) (h : k < l.length) (C : Cells w b o 4 (l.map DField.enc)) :
    w.cell? ⟨b, o + k * 4, none⟩ = some (.int .i64 l[k].no) ∧ w.cell? ⟨b, o + k * 4 + 1, none⟩ = some (.int .i64 l[k].kind) ∧ w.cell? ⟨b, o + k * 4 + 2, none⟩ = some (.int .i64 l[k].num) ∧ w.cell? ⟨b, o + k * 4 + 3, none⟩ = some (.string l[k].data) :=
  ⟨C.2 k _ (DField.row l k h) 0 _ rfl, C.2 k _ (DField.row l k h) 1 _ rfl, C.2 k _ (DField.row l k h) 2 _ rfl, C.2 k _ (DField.row l k h) 3 _ rfl⟩
theorem infoField : (Try.prog.info? 125).map (fun i => (i.zero, i.size, i.bytes)) = some (some (.agg #[.int .i64 0, .int .i64 0, .int .i64 0, .string ⟨#[]⟩]), 4, 40) := by kernel_rfl
/-- What a copy made by the laws' helpers says: a new slice that reads as l. -/
def ToFieldPost (l : List DField) (w : World) (e : Ending) (w' : World) : Prop := ∃ v, e = .returned v ∧ Own w' w.heap.size 125 4 v (l.map DField.enc) ∧ Below w.heap.size w w'
def Sz1FieldPost (n : Nat) (left : Int) (w : World) (e : Ending) (w' : World) : Prop :=
  ∃ r : Int, e = .returned (.int .i64 r) ∧ -1 ≤ r ∧ r ≤ left ∧ (0 ≤ r → (n : Int) + r ≤ left) ∧ Below w.heap.size w w'
/-- The strings of the first k. -/
def SmallField (left : Int) (k : Nat) (l : List DField) : Prop := ∀ i (h : i < l.length), i < k → (l[i].data.size : Int) ≤ left
def SzFieldPost (l : List DField) (left : Int) (w : World) (e : Ending) (w' : World) : Prop :=
  ∃ r : Int, e = .returned (.int .i64 r) ∧ -1 ≤ r ∧ r ≤ left ∧ (0 ≤ r → (l.length : Int) ≤ left ∧ SmallField left l.length l) ∧ Below w.heap.size w w'
section
variable {H : Type} {enc : TypeId × Value → H} {w : World} {spare : Nat → Bool} {held : Bool}
end
end Go.Proofs.Ytobahkjbadamhaa
/- What a field must be, and its bytes: of the program and of the reference. -/
namespace Go.Proofs.Ytobahkjbadamhaa
open Go.RowKit
set_option linter.unusedVariables false
set_option maxRecDepth 100000

def fieldB (x : DField) : Bool := decide (1 ≤ x.no ∧ x.no ≤ 30) && (if x.kind = 0 then numB x.num && emptyS x.data else if x.kind = 2 then decide (x.num = 0) else false)
set_option maxHeartbeats 1600000 in
theorem fieldOK_i (x : DField) (w : World) (b : Bool) (hb : fieldB x = b) : Calls Try.prog 152 #[.agg #[.int .i64 x.no, .int .i64 x.kind, .int .i64 x.num, .string x.data]] w (BoolPost b w) := by
  obtain ⟨no, kind, num, data⟩ := x
  subst hb
  have c1 := hd (fun w => numberOK_i num w)
  generalize hn : numB num = nb at *
  replace hn := hd hn
  go_enter Try.func152, Try.ntmps152
  go_wp2_with (first | (go_at_call 55; refine (within_i _ _ _ _ _ rfl).mono ?_; rintro e w' ⟨rfl, rfl⟩) | (go_at_call 143; refine (c1.out _).mono ?_; rintro e w' ⟨rfl, rfl⟩))
  all_goals go_ret
  all_goals refine ⟨ret_bool ?_, below_a1 _⟩
  all_goals go_light
  all_goals replace hn := hn.out
  all_goals (rw [Bool.eq_iff_iff]; simp_all [fieldB, emptyS]; try omega)
set_option maxHeartbeats 1600000 in
theorem field_s (x : DField) (w : World) (b : Bool) (hb : fieldB x = b) : Calls Try.prog 135 #[.agg #[.int .i64 x.no, .int .i64 x.kind, .int .i64 x.num, .string x.data]] w (BoolPost b w) := by
  obtain ⟨no, kind, num, data⟩ := x
  subst hb
  have c1 := hd (fun w => number_s num w)
  generalize hn : numB num = nb at *
  replace hn := hd hn
  go_enter Try.func135, Try.ntmps135
  go_wp2_with (first | (go_at_call 92; refine (within_s _ _ _ _ _ rfl).mono ?_; rintro e w' ⟨rfl, rfl⟩) | (go_at_call 109; refine (c1.out _).mono ?_; rintro e w' ⟨rfl, rfl⟩))
  all_goals go_ret
  all_goals refine ⟨ret_bool ?_, below_a1 _⟩
  all_goals go_light
  all_goals replace hn := hn.out
  all_goals (rw [Bool.eq_iff_iff]; simp_all [fieldB, emptyS]; try omega)
def fieldBad (x : DField) : Bool := !fieldB x
def fieldsB (l : List DField) : Bool := decide (l.length ≤ 40) && !l.any fieldBad
end Go.Proofs.Ytobahkjbadamhaa
/- Reading fields off bytes: plain. -/
namespace Go.Proofs.Ytobahkjbadamhaa
set_option linter.unusedVariables false

structure DPlaced where
  f : DField
  at_ : Int
deriving Inhabited
def DPlaced.enc (x : DPlaced) : List Value := [.int .i64 x.f.no, .int .i64 x.f.kind, .int .i64 x.f.num, .string x.f.data, .int .i64 x.at_]
theorem DPlaced.enc_len (l : List DPlaced) : ∀ r ∈ l.map DPlaced.enc, r.length = 5 := by
  intro r hr; obtain ⟨x, _, rfl⟩ := List.mem_map.1 hr; rfl
theorem DPlaced.enc_one (l : List DPlaced) : ∀ u ∈ (l.map DPlaced.enc).flatten, u.oneCell' = true := by
  intro u hu
  obtain ⟨r, hr, hu⟩ := List.mem_flatten.1 hu
  obtain ⟨x, _, rfl⟩ := List.mem_map.1 hr
  simp only [DPlaced.enc, List.mem_cons, List.not_mem_nil, or_false] at hu
  rcases hu with rfl | rfl | rfl | rfl | rfl <;> rfl
/-- A length and so many bytes. -/
def tb (l : List UInt8) (a : Nat) : List UInt8 × Nat × Bool :=
  if (tkI l a).2.2 = true ∧ (tkI l a).1 + (tkI l a).2.1 ≤ l.length then ((l.drop (tkI l a).2.1).take (tkI l a).1, (tkI l a).2.1 + (tkI l a).1, true) else ([], 0, false)
def fieldAt (l : List UInt8) (a : Nat) : DField :=
  if (tkI l a).1 % 8 = 2 then ⟨((tkI l a).1 / 8 : Nat), 2, 0, mkS (tb l (tkI l a).2.1).1⟩
  else ⟨((tkI l a).1 / 8 : Nat), ((tkI l a).1 % 8 : Nat), unf (tkI l (tkI l a).2.1).1, ⟨#[]⟩⟩
def fieldOkAt (l : List UInt8) (a : Nat) : Bool :=
  (tkI l a).2.2 && (if (tkI l a).1 % 8 = 2 then (tb l (tkI l a).2.1).2.2 else (tkI l (tkI l a).2.1).2.2) && fieldB (fieldAt l a)
def fieldEnd (l : List UInt8) (a : Nat) : Nat := if (tkI l a).1 % 8 = 2 then (tb l (tkI l a).2.1).2.1 else (tkI l (tkI l a).2.1).2.1
theorem tb_ok {l : List UInt8} {a : Nat} (h : (tb l a).2.2 = true) : (tkI l a).2.2 = true ∧ (tkI l a).1 + (tkI l a).2.1 ≤ l.length ∧ tb l a = ((l.drop (tkI l a).2.1).take (tkI l a).1, (tkI l a).2.1 + (tkI l a).1, true) := by
  by_cases hc : (tkI l a).2.2 = true ∧ (tkI l a).1 + (tkI l a).2.1 ≤ l.length
  · exact ⟨hc.1, hc.2, by rw [tb, if_pos hc]⟩
  · rw [tb, if_neg hc] at h; cases h
theorem tb_bad {l : List UInt8} {a : Nat} (h : ¬ ((tkI l a).2.2 = true ∧ (tkI l a).1 + (tkI l a).2.1 ≤ l.length)) : tb l a = ([], 0, false) := by rw [tb, if_neg h]
theorem fieldEnd_bd {l : List UInt8} {a : Nat} (h : fieldOkAt l a = true) : a < fieldEnd l a ∧ fieldEnd l a ≤ l.length := by
  simp only [fieldOkAt, Bool.and_eq_true] at h
  have h1 := (tkI_bd l a).2 h.1.1
  by_cases h2 : (tkI l a).1 % 8 = 2
  · have h3 := h.1.2
    rw [if_pos h2] at h3
    obtain ⟨h4, h5, h6⟩ := tb_ok h3
    have h7 := (tkI_bd l (tkI l a).2.1).2 h4
    rw [fieldEnd, if_pos h2, h6]
    dsimp only; omega
  · have h3 := h.1.2
    rw [if_neg h2] at h3
    have h7 := (tkI_bd l (tkI l a).2.1).2 h3
    rw [fieldEnd, if_neg h2]; omega
/-- The fields from a place on, onto those that were read. -/
def readF (l : List UInt8) : Nat → Nat → List DPlaced → Option (List DPlaced)
  | 0, _, _ => none
  | n + 1, a, acc => if a < l.length then (if fieldOkAt l a = true ∧ acc.length ≠ 40 then readF l n (fieldEnd l a) (acc ++ [⟨fieldAt l a, (a : Nat)⟩]) else none) else some acc
def readP (l : List UInt8) : Option (List DPlaced) := if l.length ≤ 400 then readF l (l.length + 1) 0 [] else none
def readB (l : List UInt8) : Bool := (readP l).isSome
def readL (l : List UInt8) : List DPlaced := (readP l).getD []
theorem readF_len {l : List UInt8} : ∀ n a acc r, acc.length ≤ 40 → readF l n a acc = some r → r.length ≤ 40 := by
  intro n
  induction n with
  | zero => intro a acc r _ h; cases h
  | succ n ih =>
    intro a acc r hl h
    rw [readF] at h
    split at h
    · split at h
      · rename_i h2
        exact ih _ _ _ (by simp; omega) h
      · cases h
    · cases h; exact hl
theorem readL_len (l : List UInt8) : (readL l).length ≤ 40 := by
  rw [readL, readP]
  split
  · cases h : readF l (l.length + 1) 0 [] with
    | none => simp
    | some r => exact readF_len _ _ _ _ (by simp) h
  · simp
theorem unf_fin {n : Nat} (h : n ≤ 2000000001) : -1000000001 ≤ unf n ∧ unf n ≤ 1000000001 := by unfold unf; split <;> omega
end Go.Proofs.Ytobahkjbadamhaa

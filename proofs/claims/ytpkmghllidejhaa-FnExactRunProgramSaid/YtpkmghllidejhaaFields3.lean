/- FieldsBytes of the program. -/
import Derived.Test.YtpkmghllidejhaaFields2
namespace Go.Proofs.Ytpkmghllidejhaa
open Go.RowKit
set_option linter.unusedVariables false
set_option maxRecDepth 100000

def flat (l : List DField) : List UInt8 := l.flatMap fb
def fieldsR (l : List DField) : List UInt8 := if fieldsB l = true ∧ (flat l).length ≤ 400 then flat l else []
def fieldsRB (l : List DField) : Bool := fieldsB l && decide ((flat l).length ≤ 400)
def SbPost (s : List UInt8) (b : Bool) (w : World) (e : Ending) (w' : World) : Prop := e = .returned (.tuple #[.string (mkS s), .bool b]) ∧ Below w.heap.size w w'
theorem BytesAt.slice {w : World} {v : Value} {xs : List UInt8} (h : BytesAt w v xs) : ∃ a c, v = .slice a xs.length c := by
  rcases h.2 with ⟨rfl, e⟩ | ⟨g, cap, cur, rfl, hbg, r⟩
  · have : xs = [] := List.eq_nil_of_length_eq_zero e
    subst this; exact ⟨none, 0, rfl⟩
  · exact ⟨_, _, rfl⟩
theorem flat_succ {l : List DField} {k : Nat} (h : k < l.length) : flat (l.take (k + 1)) = flat (l.take k) ++ fb l[k] := by
  rw [List.take_succ_eq_append_getElem h, flat, List.flatMap_append]; simp [flat]
theorem flat_le (l : List DField) (k : Nat) : (flat (l.take k)).length ≤ (flat l).length := by
  conv => rhs; rw [← List.take_append_drop k l]
  rw [flat, flat, List.flatMap_append, List.length_append]; omega
theorem fb_len (x : DField) (h : fieldB x = true) (hs : x.data.size ≤ 1048576) : (fb x).length ≤ 20 + x.data.size := by
  obtain ⟨⟨h1, h2⟩, hk⟩ := field_kinds h
  have e1 := varB_len10 (8 * x.no + x.kind).toNat (by rcases hk with ⟨h, _⟩ | ⟨h, _⟩ <;> omega)
  rw [fb, List.length_append]
  split
  · have hf : (fld x.num).toNat < 9223372036854775808 := by
      rcases hk with ⟨h, h3, h4, _⟩ | ⟨h, h3⟩ <;> (rw [fld]; split <;> omega)
    have := varB_len10 _ hf
    omega
  · have := varB_len10 x.data.size (by omega)
    have e2 : x.data.data.toList.length = x.data.size := by rw [Array.length_toList]; rfl
    rw [List.length_append, e2]; omega
theorem fb_ge (x : DField) (h : fieldB x = true) : x.data.size ≤ (fb x).length := by
  obtain ⟨⟨h1, h2⟩, hk⟩ := field_kinds h
  have e2 : x.data.data.toList.length = x.data.size := by rw [Array.length_toList]; rfl
  rw [fb, List.length_append]
  split
  · rcases hk with ⟨h, h3, h4, h5⟩ | ⟨h, h3⟩ <;> omega
  · rw [List.length_append, e2]; omega
theorem fb_mem {l : List DField} {x : DField} (h : x ∈ l) : (fb x).length ≤ (flat l).length := by
  induction l with
  | nil => cases h
  | cons y l ih =>
    rw [flat, List.flatMap_cons, List.length_append]
    rcases List.mem_cons.1 h with rfl | h
    · omega
    · have := ih h; rw [flat] at this; omega
theorem OwnB.below {B : Nat} {w w' : World} {v : Value} {xs : List UInt8} (h : OwnB B w v xs) (hb : Below w.heap.size w w') : OwnB B w' v xs :=
  ⟨h.1.kept (below_grownBy hb none) (by cases v.ownBlock <;> simp), h.2⟩
theorem fieldsB_mem {l : List DField} (h : fieldsB l = true) : l.length ≤ 40 ∧ ∀ x ∈ l, fieldB x = true := by
  simp only [fieldsB, Bool.and_eq_true, decide_eq_true_eq, Bool.not_eq_true', List.any_eq_false] at h
  exact ⟨h.1, fun x hx => by simpa [fieldBad] using h.2 x hx⟩

set_option maxHeartbeats 3200000 in
theorem fieldsBytes_i (l : List DField) (v : Value) (w : World) (hg : fieldsB l = true) (hs : ∀ x ∈ l, x.data.size ≤ 1048576) (h : Sl w v 4 (l.map DField.enc)) (b : Bool) (hb : decide ((flat l).length ≤ 400) = b) (r : List UInt8) (hr : (if b then flat l else []) = r) :
    Calls Try.prog 79 #[v] w (SbPost r b w) := by
  obtain ⟨hn, hok⟩ := fieldsB_mem hg
  have hbb := hd hb
  have hok := hd hok
  have hs := hd hs
  obtain ⟨a1, c1, rfl, hrr⟩ := h
  replace hrr := hd hrr
  replace hr := hd hr
  clear hb hg
  simp only [List.length_map]
  go_enter Try.func79, Try.ntmps79
  go_wp2_with fail
  go_loopw [4, 10] (fun o i wr => ∃ k : Nat, k ≤ l.length ∧ i = .int .i64 k ∧ Hd (OwnB w.heap.size wr o (flat (l.take k))) ∧ Hd ((flat (l.take k)).length ≤ 400) ∧ Hd (Below w.heap.size w wr)) (fun _ i _ => l.length - (intOf i).toNat)
  case atStart =>
    exact ⟨0, Nat.zero_le _, rfl, ⟨World.ownsRow_made _ #[] 0 (Nat.zero_le _) (Nat.zero_le _) rfl, fun k hk => by cases hk; exact Nat.le_refl _⟩, Nat.zero_le _, below_a1 _⟩
  case round =>
    obtain ⟨k, hk, rfl, hown, hln, hbl⟩ := hrel
    obtain ⟨wo, rfl⟩ : ∃ wo : World, wo = wr := ⟨_, rfl⟩
    by_cases hlt : k < l.length
    · have hltI : (k : Int) < (l.length : Int) := by omega
      obtain ⟨b1, o1, rfl, C1⟩ : ∃ b o, a1 = some ⟨b, o, none⟩ ∧ Cells w b o 4 (l.map DField.enc) := by
        rcases hrr.out with h | ⟨b, o, e, C⟩
        · exfalso; have : l = [] := by simpa using h
          subst this; simp at hlt
        · exact ⟨b, o, e, C⟩
      obtain ⟨f0, f1, f2, f3⟩ := Cells.rowField l k hlt (C1.mono hbl.out)
      have hfx := hok.out _ (List.getElem_mem hlt)
      have hsx := hs.out _ (List.getElem_mem hlt)
      have hsucc := hd (flat_succ hlt)
      have hle := hd (flat_le l (k + 1))
      generalize hx : l[k] = x at *
      replace hx := hd hx
      have hB0 : w.heap.size ≤ wo.heap.size := hbl.out.size
      go_upto_region 5 with (fail)
      have hbl2 := hd (hbl.out.next (below_a1 wo (a := (.cells #[.int .i64 x.no, .int .i64 x.kind, .int .i64 x.num, .string x.data] 99))))
      have ho2 := hd (hown.out.below (below_a1 wo (a := (.cells #[.int .i64 x.no, .int .i64 x.kind, .int .i64 x.num, .string x.data] 99))))
      have g0 : (World.alloc wo (.cells #[.int .i64 x.no, .int .i64 x.kind, .int .i64 x.num, .string x.data] 99)).cell? ⟨wo.heap.size, 0, none⟩ = some (.int .i64 x.no) := by go_simp
      have g1 : (World.alloc wo (.cells #[.int .i64 x.no, .int .i64 x.kind, .int .i64 x.num, .string x.data] 99)).cell? ⟨wo.heap.size, 1, none⟩ = some (.int .i64 x.kind) := by go_simp
      have g2 : (World.alloc wo (.cells #[.int .i64 x.no, .int .i64 x.kind, .int .i64 x.num, .string x.data] 99)).cell? ⟨wo.heap.size, 2, none⟩ = some (.int .i64 x.num) := by go_simp
      have g3 : (World.alloc wo (.cells #[.int .i64 x.no, .int .i64 x.kind, .int .i64 x.num, .string x.data] 99)).cell? ⟨wo.heap.size, 3, none⟩ = some (.string x.data) := by go_simp
      generalize World.alloc wo (.cells #[.int .i64 x.no, .int .i64 x.kind, .int .i64 x.num, .string x.data] 99) = W2 at hbl2 ho2 g0 g1 g2 g3 ⊢
      clear f0 f1 f2 f3
      go_upto_region 6 with (go_at_call 139; refine (fieldBytes_i x hfx hsx _ _ _ w.heap.size hbl2.out.size ho2.out (by have := hln.out; omega)).mono ?_; rintro e w3 ⟨v3, rfl, ho3, hb3⟩)
      rw [← hsucc.out] at ho3
      have hbl3 := hd (hbl2.out.trans hb3)
      obtain ⟨a3, c3, rfl⟩ := ho3.1.slice
      replace ho3 := hd ho3
      clear g0 g1 g2 g3 ho2 hb3 hsucc
      generalize hys : flat (l.take (k + 1)) = ys at *
      replace hys := hd hys
      by_cases hgt : 400 < ys.length
      · have hgtI : (400 : Int) < (ys.length : Int) := by omega
        have hbf : b = false := by rw [← hbb.out]; have := hle.out; simp; omega
        have hrf := hd (show r = [] by rw [← hr.out, hbf]; rfl)
        replace hbf := hd hbf
        go_wp2_with fail
        go_ret2
        exact ⟨by rw [hrf.out, hbf.out]; rfl, hbl3.out⟩
      · have hgtI : ¬ (400 : Int) < (ys.length : Int) := by omega
        have hle4 := hd (show (flat (l.take (k + 1))).length ≤ 400 by rw [hys.out]; omega)
        have ho4 : OwnB w.heap.size w3 (.slice a3 ys.length c3) (flat (l.take (k + 1))) := by rw [hys.out]; exact ho3.out
        replace ho4 := hd ho4
        clear hys ho3
        go_wp2_with fail
        go_roundw
        case rel => exact ⟨k + 1, by omega, by go_num, ho4, hle4, hbl3⟩
        case measure => simp [intOf]; omega
    · have hkl : k = l.length := by omega
      subst hkl
      rw [List.take_length] at hown hln
      have hbt : b = true := by rw [← hbb.out]; simpa using hln.out
      have hrf := hd (show r = flat l by rw [← hr.out, hbt]; rfl)
      replace hbt := hd hbt
      have hcv := run_str_row (P := Try.prog) wo 179 9 5 _ (flat l) Try.underlying179 Try.underlying5 Try.underlying9 (rowIs_own hown.out.1)
      go_wp2_with fail
      go_ret2
      exact ⟨by rw [hrf.out, hbt.out]; rfl, hbl.out⟩
end Go.Proofs.Ytpkmghllidejhaa

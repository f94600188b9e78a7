/- From the form's reading of a slice of structs to 'Sl': what the frame of a law hands to its walk. -/
import Derived.Test.YtobahkjbadamhaaRows
import Derived.Test.YtobahkjbadamhaaSl
import Derived.ProofKit
import Derived.Deep.Slices
namespace Go.Proofs.Ytobahkjbadamhaa
open Go.ChangeShapes Go.WideShapes Go.RowKit
set_option linter.unusedVariables false
set_option maxRecDepth 100000

theorem add_spot {a : Addr} (h : a.spot = none) (k : Nat) : a.add k = ⟨a.block, a.off + k, none⟩ := by
  obtain ⟨b, o, s⟩ := a
  cases h
  unfold Addr.add; split <;> simp_all
section
variable {H : Type} {enc : TypeId × Value → H} {P : Program} {w : World} {base : Nat} {spare : Nat → Bool} {held : Bool}

theorem open_rows {α : Type} [Inhabited α] (encα : α → List Value) (okα : α → Prop) (sz : Nat) (hpos : 0 < sz) {t e : TypeId} (ht : P.underlying t = some (.slice e)) (hsz : P.cellsOf e = sz)
    (hel : ∀ n cs y, DataW.trod enc P w base spare held n e cs = some y → ∃ d : α, cs = encα d ∧ okα d)
    {fuel : Nat} {cs : List Value} {x : DataW H × List MemPlace} (h : DataW.trod enc P w base spare held fuel t cs = some x) :
    ∃ (l : List α) (v : Value), cs = [v] ∧ l.length ≤ maxLen ∧ Sl w v sz (l.map encα) ∧ ∀ d ∈ l, okα d := by
  subst hsz
  rcases Go.Deep.open_slice ht h with ⟨rfl, _⟩ | ⟨a, len, cap, m, n, D, Pl, rfl, hb, hl, hm, hmm, _, hi⟩
  · exact ⟨[], _, rfl, Nat.zero_le _, ⟨none, 0, rfl, .inl rfl⟩, by simp⟩
  · have hlm : len ≤ m := by rw [hmm]; split <;> omega
    have hex : ∀ i, i < len → ∃ d : α, w.cells? base (a.add (i * P.cellsOf e)) (P.cellsOf e) = some (encα d) ∧ okα d := by
      intro i hilt
      obtain ⟨cs', h1, h2⟩ := hi i (by omega)
      obtain ⟨d, rfl, hd⟩ := hel _ _ _ h2
      exact ⟨d, h1, hd⟩
    obtain ⟨f, hf⟩ := Go.Deep.choose_lt hex
    refine ⟨(List.range len).map f, _, rfl, by simp; omega, ⟨some a, cap, by simp, ?_⟩, ?_⟩
    · by_cases h0 : len = 0
      · subst h0; exact .inl rfl
      · have c0 := (hf 0 (by omega)).1
        rw [World.cells?] at c0
        obtain ⟨b, o, s⟩ := a
        have key : ∀ i, i < len → ∀ j u, (encα (f i))[j]? = some u → w.cell? ((Addr.mk b o s).add (i * P.cellsOf e + j)) = some u := by
          intro i hilt j u hu
          obtain ⟨h1, h2⟩ := World.cells?_some (hf i hilt).1
          have hj : j < P.cellsOf e := by rw [← h2.1]; exact (List.getElem?_eq_some_iff.1 hu).1
          have := h2.2 j hj
          rw [hu, Go.Deep.add_add] at this
          exact this
        have hlen0 : (encα (f 0)).length = P.cellsOf e := (World.cells?_some (hf 0 (by omega)).1).2.1
        have hc := key 0 (by omega) 0 _ (List.getElem?_eq_getElem (by omega))
        rw [Nat.zero_mul, Nat.add_zero, Addr.add, if_pos rfl] at hc
        have hs : s = none := World.cell?_spot hc
        subst hs
        refine .inr ⟨b, o, rfl, World.block_lt_of_cell? w _ hc, ?_⟩
        intro i r hr j u hu
        have hilt : i < len := by
          have := (List.getElem?_eq_some_iff.1 hr).1; simpa using this
        rw [List.getElem?_map, List.getElem?_map, List.getElem?_range hilt] at hr
        simp at hr
        subst hr
        have := key i hilt j u hu
        rw [add_spot rfl] at this
        rw [Nat.add_assoc]; exact this
    · intro d hd
      obtain ⟨i, hi2, rfl⟩ := List.mem_map.1 hd
      exact (hf i (by simpa using hi2)).2

/-- A field of one cell, by its place. -/
theorem field_one {t : TypeId} {n : Nat} {c : Value} {cs : List Value} {k off : Nat} {y : Option (DataW H × List MemPlace)} (hk : P.cellsOf t = k) (h1 : k = 1) (hcs : cs[off]? = some c)
    (h : DataW.trod enc P w base spare held n t ((cs.drop off).take (P.cellsOf t)) = y) : DataW.trod enc P w base spare held n t [c] = y := by
  rw [hk, h1] at h
  have : (cs.drop off).take 1 = [c] := by
    have hlt := (List.getElem?_eq_some_iff.1 hcs).1
    rw [List.drop_eq_getElem_cons hlt]
    have := (List.getElem?_eq_some_iff.1 hcs).2
    simp [this]
  rw [this] at h; exact h
theorem list_len2 {cs : List Value} (h : cs.length = 2) : ∃ a b, cs = [a, b] := by
  match cs, h with | [a, b], _ => exact ⟨a, b, rfl⟩
theorem list_len3 {cs : List Value} (h : cs.length = 3) : ∃ a b c, cs = [a, b, c] := by
  match cs, h with | [a, b, c], _ => exact ⟨a, b, c, rfl⟩
theorem list_len4 {cs : List Value} (h : cs.length = 4) : ∃ a b c d, cs = [a, b, c, d] := by
  match cs, h with | [a, b, c, d], _ => exact ⟨a, b, c, d, rfl⟩
theorem list_len5 {cs : List Value} (h : cs.length = 5) : ∃ a b c d e, cs = [a, b, c, d, e] := by
  match cs, h with | [a, b, c, d, e], _ => exact ⟨a, b, c, d, e, rfl⟩
theorem list_len6 {cs : List Value} (h : cs.length = 6) : ∃ a b c d e f, cs = [a, b, c, d, e, f] := by
  match cs, h with | [a, b, c, d, e, f], _ => exact ⟨a, b, c, d, e, f, rfl⟩
theorem int_cell {t : TypeId} {n : Nat} {c : Value} {y : DataW H × List MemPlace} (ht : P.underlying t = some (.int .i64)) (h : DataW.trod enc P w base spare held n t [c] = some y) : ∃ k : Int, c = .int .i64 k := by
  obtain ⟨k, h1, _⟩ := DataW.trod_int ht h; exact ⟨k, by simpa using h1⟩
theorem string_cell {t : TypeId} {n : Nat} {c : Value} {y : DataW H × List MemPlace} (ht : P.underlying t = some .string) (h : DataW.trod enc P w base spare held n t [c] = some y) : ∃ s : ByteArray, c = .string s ∧ s.size ≤ maxLen := by
  obtain ⟨k, h1, _, h2⟩ := DataW.trod_string ht h; exact ⟨k, by simpa using h1, h2⟩
theorem bool_cell {t : TypeId} {n : Nat} {c : Value} {y : DataW H × List MemPlace} (ht : P.underlying t = some .bool) (h : DataW.trod enc P w base spare held n t [c] = some y) : ∃ b : Bool, c = .bool b := by
  obtain ⟨k, h1, _⟩ := DataW.trod_bool ht h; exact ⟨k, by simpa using h1⟩
theorem okWide_struct1 {r : Reach} {t : TypeId} {fs : Array Go.Field} {v : Value} (ht : P.underlying t = some (.struct fs)) (h1 : P.cellsOf t = 1) (h : Value.okWide P w r base t v) : ∃ s, v = .agg #[s] := by
  obtain ⟨cs, rfl, hc⟩ := okWide_struct ht h
  rw [h1] at hc
  obtain ⟨l⟩ := cs
  match l, hc with | [s], _ => exact ⟨s, rfl⟩
end
section
variable {H : Type} {enc : TypeId × Value → H} {w : World} {spare : Nat → Bool} {held : Bool}
theorem elI (n : Nat) (cs : List Value) (y : DataW H × List MemPlace) (h : DataW.trod enc Try.prog w 0 spare held n 3 cs = some y) : ∃ d : Int, cs = encI d ∧ True := by
  obtain ⟨k, rfl, _⟩ := DataW.trod_int Try.underlying3 h
  exact ⟨k, rfl, trivial⟩
theorem open_intSv {r : Reach} {b0 : Nat} {v : Value} {d : DataW H} {p : List MemPlace} (hv : Value.okWide Try.prog w r b0 63 v) (h : DataW.Trod enc Try.prog w 0 spare held 63 v d p) :
    ∃ (l : List Int), l.length ≤ maxLen ∧ Sl w v 1 (l.map encI) := by
  obtain ⟨a, len, cap, rfl⟩ := okWide_slice Try.underlying63 hv
  obtain ⟨fuel, hf⟩ := h
  obtain ⟨l, v, hv, h3, h4, _⟩ := open_rows encI (fun _ => True) 1 (by decide) Try.underlying63 (by kernel_rfl) elI hf
  cases hv
  exact ⟨l, h3, h4⟩
end
end Go.Proofs.Ytobahkjbadamhaa

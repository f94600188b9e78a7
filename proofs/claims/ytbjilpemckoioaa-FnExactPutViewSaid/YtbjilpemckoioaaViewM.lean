/- What was read has no longer bytes than those it was read from: plain. -/
import Derived.Test.YtbjilpemckoioaaReads
import Derived.Test.YtbjilpemckoioaaFieldsW
namespace Go.Proofs.Ytbjilpemckoioaa
set_option linter.unusedVariables false
theorem scan_lt : ∀ f l k acc n e b, scan f l k acc = some (n, e, b) → acc < 2 ^ (7 * k) → n < 2 ^ (7 * e) := by
  intro f
  induction f with
  | zero => intro l k acc n e b h; simp [scan] at h
  | succ f ih =>
    intro l k acc n e b h ha
    cases l with
    | nil => simp [scan] at h
    | cons x l =>
      rw [scan] at h
      have hx : acc + x.toNat % 128 * 2 ^ (7 * k) < 2 ^ (7 * (k + 1)) := by
        have h1 : x.toNat % 128 ≤ 127 := by omega
        have h2 := Nat.mul_le_mul_right (2 ^ (7 * k)) h1
        have h3 : 2 ^ (7 * (k + 1)) = 128 * 2 ^ (7 * k) := by rw [show 7 * (k + 1) = 7 * k + 7 by omega, Nat.pow_add]; omega
        omega
      split at h
      · simp only [Option.some.injEq, Prod.mk.injEq] at h
        obtain ⟨rfl, rfl, rfl⟩ := h
        exact hx
      · exact ih _ _ _ _ _ _ h hx
theorem tk_len {l : List UInt8} {a : Nat} (h : (tkI l a).2.2 = true) : a + (varB (tkI l a).1).length ≤ (tkI l a).2.1 := by
  cases hs : scan 5 (l.drop a) 0 0 with
  | none => rw [tkI_none hs] at h; cases h
  | some x =>
    obtain ⟨n, e, b⟩ := x
    have h1 := scan_lt _ _ _ _ _ _ _ hs (by decide)
    have h2 := scan_bound0 hs
    rw [tkI_some hs]
    dsimp only
    obtain ⟨k, rfl⟩ : ∃ k, e = k + 1 := ⟨e - 1, by omega⟩
    have h3 := varB_len k n (by rw [show (128 : Nat) = 2 ^ 7 by decide, ← Nat.pow_mul]; exact h1)
    omega
theorem fld_unf (m : Int) (h : 0 ≤ m) : fld (unf m) = m := by
  unfold fld unf
  split <;> split <;> omega
theorem fb_at {l : List UInt8} {a : Nat} (h : fieldOkAt l a = true) : a + (fb (fieldAt l a)).length ≤ fieldEnd l a := by
  have h0 := h
  simp only [fieldOkAt, Bool.and_eq_true] at h
  have h1 := tk_len h.1.1
  by_cases hk : (tkI l a).1 % 8 = 2
  · have h3 := h.1.2
    rw [if_pos hk] at h3
    obtain ⟨h4, h5, h6⟩ := tb_ok h3
    have h7 := tk_len h4
    have hb := (tkI_bd l (tkI l a).2.1).2 h4
    rw [fieldEnd, if_pos hk, h6, fieldAt, if_pos hk, fb, h6]
    dsimp only
    rw [if_neg (by decide)]
    have e1 : (8 * (((tkI l a).1 / 8 : Nat) : Int) + 2).toNat = (tkI l a).1 := by omega
    have e2 : (mkS ((l.drop (tkI l (tkI l a).2.1).2.1).take (tkI l (tkI l a).2.1).1)).size = (tkI l (tkI l a).2.1).1 := by
      rw [mkS_size, List.length_take, List.length_drop]; omega
    rw [e1, e2]
    simp only [List.length_append, List.length_take, List.length_drop]
    omega
  · have h3 := h.1.2
    rw [if_neg hk] at h3
    have h7 := tk_len h3
    have hf := h.2
    rw [fieldEnd, if_neg hk]
    have hA : fieldAt l a = ⟨((tkI l a).1 / 8 : Nat), ((tkI l a).1 % 8 : Nat), unf (tkI l (tkI l a).2.1).1, ⟨#[]⟩⟩ := by rw [fieldAt, if_neg hk]
    rw [hA] at hf ⊢
    obtain ⟨_, hkk⟩ := field_kinds hf
    dsimp only at hkk
    have hk0 : (((tkI l a).1 % 8 : Nat) : Int) = 0 := by
      rcases hkk with ⟨h, _⟩ | ⟨h, _⟩
      · exact h
      · omega
    rw [fb]
    dsimp only
    rw [if_pos hk0, fld_unf _ (by omega), List.length_append]
    have e1 : (8 * (((tkI l a).1 / 8 : Nat) : Int) + (((tkI l a).1 % 8 : Nat) : Int)).toNat = (tkI l a).1 := by omega
    have e2 : (((tkI l (tkI l a).2.1).1 : Nat) : Int).toNat = (tkI l (tkI l a).2.1).1 := by omega
    rw [e1, e2]
    omega
theorem flat_app (l m : List DField) : flat (l ++ m) = flat l ++ flat m := by rw [flat, flat, flat, List.flatMap_append]
theorem readF_flat {l : List UInt8} : ∀ n a acc r, a ≤ l.length → (flat (acc.map (·.f))).length ≤ a → readF l n a acc = some r → (flat (r.map (·.f))).length ≤ l.length := by
  intro n
  induction n with
  | zero => intro a acc r _ _ h; cases h
  | succ n ih =>
    intro a acc r hl ha h
    rw [readF] at h
    split at h
    · split at h
      · rename_i h2
        have hb := fieldEnd_bd h2.1
        refine ih _ _ _ hb.2 ?_ h
        rw [List.map_append, flat_app, List.length_append]
        have := fb_at h2.1
        simp only [List.map_cons, List.map_nil, flat, List.flatMap_cons, List.flatMap_nil, List.append_nil] at this ⊢
        rw [flat] at ha
        omega
      · cases h
    · cases h; omega
theorem readF_ok {l : List UInt8} : ∀ n a acc r, (∀ p ∈ acc, fieldB p.f = true) → readF l n a acc = some r → ∀ p ∈ r, fieldB p.f = true := by
  intro n
  induction n with
  | zero => intro a acc r _ h; cases h
  | succ n ih =>
    intro a acc r hl h
    rw [readF] at h
    split at h
    · split at h
      · rename_i h2
        refine ih _ _ _ ?_ h
        intro p hp
        rcases List.mem_append.1 hp with hp | hp
        · exact hl p hp
        · simp at hp; subst hp
          have := h2.1
          simp only [fieldOkAt, Bool.and_eq_true] at this
          exact this.2
      · cases h
    · cases h; exact hl
theorem readFs_flat (l : List UInt8) : (flat (readFs l)).length ≤ 400 := by
  rw [readFs, readL, readP]
  split
  · rename_i hl
    cases h : readF l (l.length + 1) 0 [] with
    | none => simp [flat]
    | some r => have := readF_flat _ _ _ _ (Nat.zero_le _) (by simp [flat]) h; simp only [Option.getD_some]; omega
  · simp [flat]
theorem readFs_ok (l : List UInt8) : ∀ x ∈ readFs l, fieldB x = true := by
  intro x hx
  rw [readFs] at hx
  obtain ⟨p, hp, rfl⟩ := List.mem_map.1 hx
  rw [readL, readP] at hp
  split at hp
  · cases h : readF l (l.length + 1) 0 [] with
    | none => rw [h] at hp; simp at hp
    | some r => rw [h] at hp; exact readF_ok _ _ _ _ (by simp) h p hp
  · simp at hp
theorem rfF_flat (l : List UInt8) : (flat (rfF l)).length ≤ 400 := by
  rw [rfF]
  split
  · exact readFs_flat l
  · simp [flat]
theorem rfF_ok (l : List UInt8) : ∀ x ∈ rfF l, fieldB x = true := by
  rw [rfF]
  split
  · exact readFs_ok l
  · simp
theorem flat_filter_le (p : DField → Bool) (l : List DField) : (flat (l.filter p)).length ≤ (flat l).length := by
  induction l with
  | nil => simp
  | cons x l ih =>
    rw [List.filter_cons]
    rw [flat] at ih ⊢
    rw [flat] at ih ⊢
    split <;> simp only [List.flatMap_cons, List.length_append] <;> omega
theorem small_of {l : List DField} (h : ∀ x ∈ l, fieldB x = true) (hf : (flat l).length ≤ 400) : ∀ x ∈ l, x.data.size ≤ 1048576 := by
  intro x hx
  have h1 := fb_ge x (h x hx)
  have h2 := fb_mem hx
  omega
end Go.Proofs.Ytbjilpemckoioaa

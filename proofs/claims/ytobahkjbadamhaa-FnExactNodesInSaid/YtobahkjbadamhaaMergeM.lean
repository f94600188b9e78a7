/- Whether a value's parts fit those of a message: by numbers; plain. -/
import Derived.Test.YtobahkjbadamhaaFitM
namespace Go.Proofs.Ytobahkjbadamhaa
open Go.RowKit
set_option linter.unusedVariables false
def risesK (l : List K) : Prop := l.Pairwise (fun x y => x.no < y.no)
theorem rises_of {l : List K} (h : ∀ i (h1 : i + 1 < l.length), l[i].no < l[i + 1].no) : risesK l := by
  have hlt : ∀ d i (h1 : i + d + 1 < l.length), l[i].no < l[i + d + 1].no := by
    intro d
    induction d with
    | zero => intro i h1; exact h i h1
    | succ d ih => intro i h1; have a := ih i (by omega); have b := h (i + d + 1) (by omega); exact Int.lt_trans a b
  unfold risesK
  rw [List.pairwise_iff_getElem]
  intro i j hi hj hij
  have := hlt (j - i - 1) i (by omega)
  have e : i + (j - i - 1) + 1 = j := by omega
  simpa [e] using this
theorem risesK.at {l : List K} (h : risesK l) {i : Nat} (h1 : i + 1 < l.length) : l[i].no < l[i + 1].no := by
  unfold risesK at h
  rw [List.pairwise_iff_getElem] at h
  exact h i (i + 1) (by omega) h1 (by omega)
def mustP (ps vs : List K) : Prop := ∀ y ∈ ps, y.must = true → ∃ x ∈ vs, x.no = y.no
def foundP (ps vs : List K) : Prop := ∀ v ∈ vs, ∃ y ∈ ps, y.no = v.no ∧ fitsB y v = true
theorem merge_iff : ∀ (ps vs : List K), risesK ps → (mergeB ps vs = true ↔ risesK vs ∧ foundP ps vs ∧ mustP ps vs) := by
  intro ps
  induction ps with
  | nil =>
    intro vs _
    rw [merge_nil]
    cases vs with
    | nil => simp [risesK, foundP, mustP]
    | cons v vs =>
      simp only [List.isEmpty_cons]
      constructor
      · intro h; cases h
      · rintro ⟨_, h, _⟩
        obtain ⟨y, hy, _⟩ := h v (by simp)
        cases hy
  | cons p ps ih =>
    intro vs hr
    obtain ⟨hp, hps⟩ := List.pairwise_cons.1 hr
    cases vs with
    | nil =>
      rw [merge_none, Bool.and_eq_true, ih [] hps]
      constructor
      · rintro ⟨h1, _, _, h3⟩
        refine ⟨List.Pairwise.nil, fun v hv => by simp at hv, fun y hy hm => ?_⟩
        rcases List.mem_cons.1 hy with rfl | hy
        · rw [hm] at h1; simp at h1
        · exact h3 y hy hm
      · rintro ⟨_, _, h3⟩
        refine ⟨?_, List.Pairwise.nil, fun v hv => by simp at hv, fun y hy hm => h3 y (by simp [hy]) hm⟩
        cases hm : p.must with
        | false => rfl
        | true => obtain ⟨x, hx, _⟩ := h3 p (by simp) hm; simp at hx
    | cons v vs =>
      by_cases hno : v.no = p.no
      · rw [merge_eq hno, Bool.and_eq_true, ih vs hps]
        constructor
        · rintro ⟨h0, h1, h2, h3⟩
          refine ⟨List.pairwise_cons.2 ⟨fun x hx => ?_, h1⟩, fun x hx => ?_, fun y hy hm => ?_⟩
          · obtain ⟨y, hy, e, _⟩ := h2 x hx
            have := hp y hy
            omega
          · rcases List.mem_cons.1 hx with rfl | hx
            · exact ⟨p, by simp, hno.symm, h0⟩
            · obtain ⟨y, hy, e, f⟩ := h2 x hx
              exact ⟨y, by simp [hy], e, f⟩
          · rcases List.mem_cons.1 hy with rfl | hy
            · exact ⟨v, by simp, hno⟩
            · obtain ⟨x, hx, e⟩ := h3 y hy hm
              exact ⟨x, by simp [hx], e⟩
        · rintro ⟨h1, h2, h3⟩
          obtain ⟨h1a, h1b⟩ := List.pairwise_cons.1 h1
          refine ⟨?_, h1b, fun x hx => ?_, fun y hy hm => ?_⟩
          · obtain ⟨y, hy, e, f⟩ := h2 v (by simp)
            rcases List.mem_cons.1 hy with rfl | hy
            · exact f
            · have := hp y hy; omega
          · obtain ⟨y, hy, e, f⟩ := h2 x (by simp [hx])
            rcases List.mem_cons.1 hy with rfl | hy
            · have := h1a x hx; omega
            · exact ⟨y, hy, e, f⟩
          · obtain ⟨x, hx, e⟩ := h3 y (by simp [hy]) hm
            rcases List.mem_cons.1 hx with rfl | hx
            · have := hp y hy; omega
            · exact ⟨x, hx, e⟩
      · rw [merge_ne hno, Bool.and_eq_true, ih (v :: vs) hps]
        constructor
        · rintro ⟨h0, h1, h2, h3⟩
          refine ⟨h1, fun x hx => ?_, fun y hy hm => ?_⟩
          · obtain ⟨y, hy, e, f⟩ := h2 x hx
            exact ⟨y, by simp [hy], e, f⟩
          · rcases List.mem_cons.1 hy with rfl | hy
            · rw [hm] at h0; simp at h0
            · exact h3 y hy hm
        · rintro ⟨h1, h2, h3⟩
          obtain ⟨h1a, h1b⟩ := List.pairwise_cons.1 h1
          have hgt : ∀ x ∈ v :: vs, p.no < x.no := by
            have hv : p.no < v.no := by
              obtain ⟨y, hy, e, _⟩ := h2 v (by simp)
              rcases List.mem_cons.1 hy with rfl | hy
              · exact absurd e.symm hno
              · have := hp y hy; omega
            intro x hx
            rcases List.mem_cons.1 hx with rfl | hx
            · exact hv
            · have := h1a x hx; omega
          refine ⟨?_, h1, fun x hx => ?_, fun y hy hm => h3 y (by simp [hy]) hm⟩
          · cases hm : p.must with
            | false => rfl
            | true => obtain ⟨x, hx, e⟩ := h3 p (by simp) hm; have := hgt x hx; omega
          · obtain ⟨y, hy, e, f⟩ := h2 x hx
            rcases List.mem_cons.1 hy with rfl | hy
            · have := hgt x hx; omega
            · exact ⟨y, hy, e, f⟩
def mustsB (ps vs : List K) : Bool := ps.all (fun y => !y.must || vs.any (fun x => x.no == y.no))
theorem musts_iff (ps vs : List K) : mustsB ps vs = true ↔ mustP ps vs := by
  simp only [mustsB, mustP, List.all_eq_true, Bool.or_eq_true, Bool.not_eq_true', List.any_eq_true, beq_iff_eq]
  constructor
  · intro h y hy hm
    rcases h y hy with h | h
    · rw [hm] at h; cases h
    · exact h
  · intro h y hy
    cases hm : y.must with
    | false => exact .inl rfl
    | true => exact .inr (h y hy hm)
theorem right_rises {t : K} (h : rightK t) (h5 : t.of = 5) : risesK t.parts := by
  rcases h.ok.1 with h1 | h1 | h1 | h1
  · omega
  · omega
  · omega
  · unfold risesK
    rw [List.pairwise_iff_getElem]
    intro i j hi hj hij
    exact rising_lt' h1.2.2 i j hij hj
theorem right_holds {t : K} (hr : rightK t) : t.of = 1 ∨ t.of = 2 ∨ t.of = 3 ∨ t.of = 4 ∨ t.of = 5 := by
  rcases hr.ok.1 with h1 | h1 | h1 | h1 <;> omega
theorem found_at {ps vs : List K} (h : foundP ps vs) (hp : risesK ps) {x : K} (hx : x ∈ vs) : ∃ j, ∃ hf : firstP ps x.no j, fitsB (ps[j]'hf.1) x = true := by
  obtain ⟨y, hy, e, hfit⟩ := h x hx
  obtain ⟨j, hj, rfl⟩ := List.getElem_of_mem hy
  refine ⟨j, ⟨hj, e, fun i hi => ?_⟩, hfit⟩
  have := List.pairwise_iff_getElem.1 hp i j (by omega) hj hi
  omega
end Go.Proofs.Ytobahkjbadamhaa

/- When a flat list of types is a good schema: as a list, and as a tree; laws of no program. -/
import Derived.Test.YtobahkjbadamhaaKindM
namespace Go.Proofs.Ytobahkjbadamhaa
open Go.RowKit
set_option linter.unusedVariables false

def nameP (s : ByteArray) : Prop := (∀ c ∈ s.data.toList, 97 ≤ c.toNat ∧ c.toNat ≤ 122) ∧ 1 ≤ s.size ∧ s.size ≤ 10
def okT (x : DType) : Prop := 1 ≤ x.kind ∧ x.kind ≤ 5 ∧ (x.kind = 3 → 0 ≤ x.most ∧ x.most ≤ 20) ∧ (x.kind ≠ 3 → x.most = 0)
def blankP (nm : ByteArray) (no : Int) (mu : Bool) : Prop := nm = ⟨#[]⟩ ∧ no = 0 ∧ mu = false
def ahead (l : List DType) (q i : Nat) (nm : ByteArray) (no : Int) : Prop := ∀ k, q < k → k < i → (hk : k < l.length) → U l k = (q : Int) → l[k].no < no ∧ l[k].name ≠ nm
def partP (l : List DType) (i : Nat) : Prop := ∃ (hi : i < l.length) (q : Nat) (hq : q < l.length), q < i ∧ l[i].up = (q : Int) ∧ holdsB l[q].kind = true ∧ Anc l (i - 1) q ∧
  (l[q].kind = 4 → blankP l[i].name l[i].no l[i].must) ∧ (l[q].kind ≠ 4 → nameP l[i].name ∧ (1 ≤ l[i].no ∧ l[i].no ≤ 30) ∧ ahead l q i l[i].name l[i].no)
def rootP (l : List DType) : Prop := ∃ h : 0 < l.length, l[0].kind = 5 ∧ l[0].up = -1 ∧ blankP l[0].name l[0].no l[0].must
def flatP (l : List DType) : Prop := (1 ≤ l.length ∧ l.length ≤ 30) ∧ rootP l ∧ (∀ i (h : i < l.length), okT l[i]) ∧ (∀ i, 0 < i → i < l.length → partP l i) ∧ ∀ i (h : i < l.length), l[i].kind = 4 → (kidsOf l i).length = 1

def risingK (ps : List K) : Prop := ∀ j (h : j < ps.length), (∀ i (hi : i < j), ps[i].name ≠ ps[j].name) ∧ ∀ i (hi : i + 1 = j), ps[i].no < ps[j].no
def partsOK (o mo : Int) (ps : List K) : Prop := ((o = 1 ∨ o = 2) ∧ mo = 0 ∧ ps = []) ∨ (o = 3 ∧ (0 ≤ mo ∧ mo ≤ 20) ∧ ps = []) ∨ (o = 4 ∧ mo = 0 ∧ ps.length = 1) ∨ (o = 5 ∧ mo = 0 ∧ risingK ps)
def partOf (o : Int) (p : K) : Prop := (o = 5 → nameP p.name ∧ 1 ≤ p.no ∧ p.no ≤ 30) ∧ (o ≠ 5 → blankP p.name p.no p.must)
inductive rightK : K → Prop
  | mk (o : Int) (nm : ByteArray) (no : Int) (mu : Bool) (mo : Int) (ps : List K) : partsOK o mo ps → (∀ p ∈ ps, partOf o p) → (∀ p ∈ ps, rightK p) → rightK (.mk o nm no mu mo ps)
theorem rightK.in {s t : K} (hi : InK s t) (h : rightK t) : rightK s := by
  induction hi with
  | self t => exact h
  | part o nm no mu mo ps p s hp _ ih => cases h with | mk _ _ _ _ _ _ _ _ h3 => exact ih (h3 p hp)
def goodK (t : K) : Prop := t.of = 5 ∧ blankP t.name t.no t.must ∧ rightK t ∧ deepK t ≤ 5 ∧ countK t ≤ 30
def goodP (l : List DType) : Prop := flatP l ∧ ∃ t, enc l t 0 l.length ∧ deepK t ≤ 5

theorem rising_lt {ps : List K} (h : risingK ps) : ∀ (d i : Nat) (hj : i + d + 1 < ps.length), (ps[i]'(by omega)).no < ps[i + d + 1].no := by
  intro d
  induction d with
  | zero => intro i hj; exact (h (i + 1) hj).2 i rfl
  | succ d ih =>
    intro i hj
    have h1 := ih i (by omega)
    have h2 := (h (i + (d + 1) + 1) hj).2 (i + d + 1) (by omega)
    omega
theorem rising_lt' {ps : List K} (h : risingK ps) (i j : Nat) (hij : i < j) (hj : j < ps.length) : (ps[i]'(by omega)).no < ps[j].no := by
  have := rising_lt h (j - i - 1) i (by omega)
  simpa [show i + (j - i - 1) + 1 = j by omega] using this
theorem holds_iff {k : Int} : holdsB k = true ↔ k = 4 ∨ k = 5 := by simp [holdsB]
theorem Sb.at {l : List DType} {a : Nat} {t : K} (h : Sb l a t) : ∃ ha : a < l.length, top l[a] t.of t.name t.no t.must t.most ∧ (holdsB t.of = true ∨ t.parts = []) ∧ Kd l (kidsOf l a) t.parts := by
  obtain ⟨o, nm, no, mu, mo, ps⟩ := t
  obtain ⟨⟨ha, h1⟩, h2, h3⟩ := h.kids
  exact ⟨ha, h1, h2, h3⟩
theorem seg_sorted (l : List DType) (a e0 : Nat) : (seg l a e0).Pairwise (· < ·) := by
  rw [seg]
  exact List.Pairwise.filter _ (List.pairwise_lt_range')
theorem seg_mono {l : List DType} {a e0 i j : Nat} (hij : i < j) (hj : j < (seg l a e0).length) : (seg l a e0)[i]'(by omega) < (seg l a e0)[j] :=
  List.pairwise_iff_getElem.1 (seg_sorted l a e0) i j (by omega) hj hij
theorem kids_mono {l : List DType} {a i j : Nat} (hij : i < j) (hj : j < (kidsOf l a).length) : (kidsOf l a)[i]'(by omega) < (kidsOf l a)[j] := seg_mono hij hj
theorem enc_out {l : List DType} {t : K} (h : enc l t 0 l.length) : Sb l 0 t := ⟨_, h, fun i h1 h2 => by omega⟩
theorem rightK.ok {t : K} (h : rightK t) : partsOK t.of t.most t.parts ∧ (∀ p ∈ t.parts, partOf t.of p) ∧ ∀ p ∈ t.parts, rightK p := by
  cases h with | mk _ _ _ _ _ _ h1 h2 h3 => exact ⟨h1, h2, h3⟩
theorem kid_of {l : List DType} {q i : Nat} (h : i ∈ kidsOf l q) : ∃ j, ∃ hj : j < (kidsOf l q).length, (kidsOf l q)[j] = i := by
  obtain ⟨j, hj, h⟩ := List.getElem_of_mem h
  exact ⟨j, hj, h⟩

theorem flat_of_tree {l : List DType} {t : K} (hn : 1 ≤ l.length ∧ l.length ≤ 30) (hu : U l 0 = -1) (h : enc l t 0 l.length) (h5 : t.of = 5) (hbl : blankP t.name t.no t.must) (hr : rightK t) : flatP l := by
  have hS := enc_out h
  obtain ⟨b1, b2, b3⟩ := enc_bd t _ _ h
  have all : ∀ i, i < l.length → ∃ s, Sb l i s ∧ rightK s := by
    intro i hi
    obtain ⟨s, h1, h2⟩ := enc_in t _ _ h (fun i h1 h2 => by omega) i (Nat.zero_le _) hi
    exact ⟨s, h1, hr.in h2⟩
  have hsp := (enc_sp t _ _ h).2
  refine ⟨hn, ?_, ?_, ?_, ?_⟩
  · obtain ⟨ha, ⟨k1, k2, k3, k4, k5⟩, _⟩ := hS.at
    refine ⟨ha, by rw [k1, h5], by rw [← U_at ha, hu], by rw [k2, k3, k4]; exact hbl⟩
  · intro i hi
    obtain ⟨s, s1, s2⟩ := all i hi
    obtain ⟨ha, ⟨k1, k2, k3, k4, k5⟩, _⟩ := s1.at
    have hp := s2.ok.1
    rw [← k1, ← k5] at hp
    rcases hp with ⟨h1, h2, _⟩ | ⟨h1, h2, _⟩ | ⟨h1, h2, _⟩ | ⟨h1, h2, _⟩
    · exact ⟨by omega, by omega, fun h => by omega, fun _ => h2⟩
    · exact ⟨by omega, by omega, fun h => h2, fun h => absurd h1 h⟩
    · exact ⟨by omega, by omega, fun h => by omega, fun _ => h2⟩
    · exact ⟨by omega, by omega, fun h => by omega, fun _ => h2⟩
  · intro i hi0 hi
    obtain ⟨q, hq, hA, hql, hh⟩ := hsp i hi0 hi
    obtain ⟨s, s1, s2⟩ := all q hql
    obtain ⟨ha, ⟨k1, k2, k3, k4, k5⟩, _, kd1, kd2⟩ := s1.at
    have hlt : q < i := by have := (b3 i hi0 hi).2; omega
    obtain ⟨j, hj, hji⟩ := kid_of (show i ∈ kidsOf l q from mem_seg.2 ⟨hlt, hi, hq⟩)
    have hj' : j < s.parts.length := by omega
    have hpj := kd2 j hj hj'
    rw [hji] at hpj
    obtain ⟨_, ⟨m1, m2, m3, m4, m5⟩, _⟩ := hpj.at
    have hpo := s2.ok.2.1 s.parts[j] (List.getElem_mem hj')
    rw [← k1, ] at hpo
    rw [holds_iff] at hh
    refine ⟨hi, q, hql, hlt, by rw [← U_at hi, hq], holds_iff.2 hh, hA, fun h4 => ?_, fun h4 => ?_⟩
    · rw [m2, m3, m4]; exact hpo.2 (by omega)
    · obtain ⟨n1, n2⟩ := hpo.1 (by omega)
      refine ⟨by rw [m2]; exact n1, by rw [m3]; exact n2, ?_⟩
      intro k hk1 hk2 hkl hku
      obtain ⟨j2, hj2, hji2⟩ := kid_of (show k ∈ kidsOf l q from mem_seg.2 ⟨hk1, hkl, hku⟩)
      have hlt2 : j2 < j := by
        by_cases hjj : j2 < j
        · exact hjj
        · by_cases hjj2 : j2 = j
          · subst hjj2; omega
          · have := kids_mono (l := l) (a := q) (i := j) (j := j2) (by omega) hj2
            rw [hji, hji2] at this
            omega
      have hpj2 := kd2 j2 hj2 (by omega)
      rw [hji2] at hpj2
      obtain ⟨_, ⟨r1, r2, r3, r4, r5⟩, _⟩ := hpj2.at
      have hris : risingK s.parts := by
        rcases s2.ok.1 with ⟨h1, _⟩ | ⟨h1, _⟩ | ⟨h1, _⟩ | ⟨_, _, h1⟩
        · omega
        · omega
        · omega
        · exact h1
      rw [m2, m3, r2, r3]
      exact ⟨rising_lt' hris j2 j hlt2 hj', (hris j hj').1 j2 hlt2⟩
  · intro i hi h4
    obtain ⟨s, s1, s2⟩ := all i hi
    obtain ⟨ha, ⟨k1, k2, k3, k4, k5⟩, _, kd1, kd2⟩ := s1.at
    rw [kd1]
    rcases s2.ok.1 with ⟨h1, _⟩ | ⟨h1, _⟩ | ⟨h1, _, h2⟩ | ⟨h1, _⟩
    · omega
    · omega
    · exact h2
    · omega
theorem tree_of_flat {l : List DType} (hf : flatP l) (t : K) : ∀ a, Sb l a t → rightK t := by
  refine K.ind (P := fun t => ∀ a, Sb l a t → rightK t) ?_ t
  intro o nm no mu mo ps ih a h
  obtain ⟨⟨ha, k1, k2, k3, k4, k5⟩, hh, kd1, kd2⟩ := h.kids
  obtain ⟨hn, hroot, hok, hpart, hone⟩ := hf
  have hkid : ∀ j (hj : j < ps.length), ∃ q, ∃ hq : q < l.length, a < q ∧ U l q = (a : Int) ∧ top l[q] ps[j].of ps[j].name ps[j].no ps[j].must ps[j].most ∧ (kidsOf l a)[j]'(by omega) = q := by
    intro j hj
    have hm := mem_seg.1 (show (kidsOf l a)[j]'(by omega) ∈ seg l a (a + 1) from List.getElem_mem _)
    obtain ⟨hq, ht, _⟩ := (kd2 j (by omega) hj).at
    exact ⟨_, hq, by omega, hm.2.2, ht, rfl⟩
  have hpt : ∀ j (hj : j < ps.length), holdsB o = true ∧ (o = 4 → blankP ps[j].name ps[j].no ps[j].must) ∧ (o ≠ 4 → nameP ps[j].name ∧ (1 ≤ ps[j].no ∧ ps[j].no ≤ 30) ∧ ∀ i (hi : i < j), ps[i].no < ps[j].no ∧ ps[i].name ≠ ps[j].name) := by
    intro j hj
    obtain ⟨q, hq, haq, hu, ⟨m1, m2, m3, m4, m5⟩, hqj⟩ := hkid j hj
    obtain ⟨hi, q2, hq2, hlt, hup, hho, hA, c1, c2⟩ := hpart q (by omega) hq
    have : q2 = a := by rw [U_at hq] at hu; omega
    subst this
    rw [k1] at hho c1 c2
    refine ⟨hho, fun h4 => by rw [← m2, ← m3, ← m4]; exact c1 h4, fun h4 => ?_⟩
    obtain ⟨d1, d2, d3⟩ := c2 h4
    refine ⟨by rw [← m2]; exact d1, by rw [← m3]; exact d2, fun i hij => ?_⟩
    obtain ⟨r, hr, har, hur, ⟨n1, n2, n3, n4, n5⟩, hrj⟩ := hkid i (by omega)
    have hlt2 : r < q := by
      have := kids_mono (l := l) (a := q2) hij (show j < (kidsOf l q2).length by omega)
      rw [hrj, hqj] at this; exact this
    have := d3 r har hlt2 hr hur
    rw [← m2, ← m3, ← n2, ← n3]; exact this
  have hok1 := hok a ha
  rw [okT, k1, k5] at hok1
  refine .mk _ _ _ _ _ _ ?_ ?_ ?_
  · rw [partsOK]
    obtain ⟨o1, o2, o3, o4⟩ := hok1
    by_cases hho : holdsB o = true
    · rw [holds_iff] at hho
      rcases hho with h4 | h5
      · exact .inr (.inr (.inl ⟨h4, o4 (by omega), by rw [← kd1]; exact hone a ha (by omega)⟩))
      · refine .inr (.inr (.inr ⟨h5, o4 (by omega), fun j hj => ?_⟩))
        have := ((hpt j hj).2.2 (by omega)).2.2
        exact ⟨fun i hi => (this i hi).2, fun i hi => (this i (by omega)).1⟩
    · have hps := hh.resolve_left hho
      have hne : o ≠ 4 ∧ o ≠ 5 := by rw [holds_iff] at hho; omega
      by_cases h3 : o = 3
      · exact .inr (.inl ⟨h3, o3 h3, hps⟩)
      · exact .inl ⟨by omega, o4 h3, hps⟩
  · intro p hp
    obtain ⟨j, hj, rfl⟩ := List.getElem_of_mem hp
    obtain ⟨g1, g2, g3⟩ := hpt j hj
    rw [holds_iff] at g1
    exact ⟨fun h5 => ⟨(g3 (by omega)).1, (g3 (by omega)).2.1⟩, fun h5 => g2 (by omega)⟩
  · intro p hp
    obtain ⟨j, hj, rfl⟩ := List.getElem_of_mem hp
    exact ih _ hp _ (kd2 j (by omega) hj)

/-- Nothing behind belongs to a tree that was read greedily. -/
def Stuck (l : List DType) (a e : Nat) : Prop := ∀ b, a ≤ b → Anc l (e - 1) b → (∃ h : b < l.length, holdsB l[b].kind = true) → U l e ≠ (b : Int)
def StuckA (l : List DType) (a e : Nat) : Prop := ∀ b, a < b → Anc l (e - 1) b → (∃ h : b < l.length, holdsB l[b].kind = true) → U l e ≠ (b : Int)
theorem Anc.le {l : List DType} {n j b : Nat} (hw : ∀ i, i ≤ n → U l i < (i : Int)) (h : Anc l j b) (hj : j ≤ n) : b ≤ j := by
  induction h with
  | refl j => exact Nat.le_refl _
  | up j p a h1 h2 ih => have := hw j hj; have := ih (by omega); omega
theorem Anc.two {l : List DType} {j b c : Nat} (h : Anc l j b) (h' : Anc l j c) : Anc l b c ∨ Anc l c b := by
  induction h with
  | refl j => exact .inl h'
  | up j p a h1 h2 ih =>
    cases h' with
    | refl => exact .inr (.up _ _ _ h1 h2)
    | up _ p' _ h1' h2' =>
      have : p' = p := by omega
      subst this
      exact ih h2'
theorem encL_snoc {l : List DType} : ∀ (ps : List K) (a e0 e : Nat) (p : K) (e' : Nat), encL l ps a e0 e → U l e = (a : Int) → enc l p e e' → encL l (ps ++ [p]) a e0 e' := by
  intro ps
  induction ps with
  | nil => intro a e0 e p e' h hu hp; rw [encL] at h; subst h; rw [List.nil_append, encL]; exact ⟨e', hu, hp, by rw [encL]⟩
  | cons q ps ih =>
    intro a e0 e p e' h hu hp
    rw [encL] at h
    obtain ⟨e1, h1, h2, h3⟩ := h
    rw [List.cons_append, encL]
    exact ⟨e1, h1, h2, ih _ _ _ _ _ h3 hu hp⟩
theorem parse {l : List DType} : ∀ (n a : Nat), l.length - a ≤ n → a < l.length → (∀ i, i ≤ a → U l i < (i : Int)) → ∃ t e, enc l t a e ∧ Stuck l a e := by
  intro n
  induction n with
  | zero => intro a h1 h2; omega
  | succ n ihn =>
    intro a hn ha hw
    have base : encL l [] a (a + 1) (a + 1) := by rw [encL]
    have hst0 : StuckA l a (a + 1) := by
      intro b hb hA _
      rw [Nat.add_sub_cancel] at hA
      have := hA.le hw (Nat.le_refl _); omega
    by_cases hh : holdsB l[a].kind = true
    · have loop : ∀ (m e : Nat) (ps : List K), l.length - e ≤ m → a < e → e ≤ l.length → encL l ps a (a + 1) e → StuckA l a e → ∃ ps' e', encL l ps' a (a + 1) e' ∧ StuckA l a e' ∧ U l e' ≠ (a : Int) := by
        intro m
        induction m with
        | zero =>
          intro e ps h1 h2 h3 h4 h5
          exact ⟨ps, e, h4, h5, by rw [U_no (by omega)]; omega⟩
        | succ m ihm =>
          intro e ps h1 h2 h3 h4 h5
          by_cases hu : U l e = (a : Int)
          · have hel := U_lt hu
            obtain ⟨c1, c2, c3⟩ := encL_bd' h4 (by omega) (by omega)
            have hw2 : ∀ i, i ≤ e → U l i < (i : Int) := by
              intro i hi
              by_cases h : i ≤ a
              · exact hw i h
              by_cases h' : i < e
              · exact (c3 i (by omega) h').2
              · have : i = e := by omega
                subst this; omega
            obtain ⟨t, e2, g1, g2⟩ := ihn e (by omega) hel hw2
            obtain ⟨d1, d2, d3⟩ := enc_bd t _ _ g1
            refine ihm e2 (ps ++ [t]) (by omega) (by omega) d2 (encL_snoc _ _ _ _ _ _ h4 hu g1) ?_
            intro b hb hA hho
            have hw3 : ∀ i, i ≤ e2 - 1 → U l i < (i : Int) := by
              intro i hi
              by_cases h : i ≤ e
              · exact hw2 i h
              · exact (d3 i (by omega) (by omega)).2
            by_cases hbe : e ≤ b
            · exact g2 b hbe hA hho
            · exfalso
              rcases hA.two (enc_sp t _ _ g1).1 with h | h
              · have := h.le hw3 (by have := hA.le hw3 (Nat.le_refl _); omega); omega
              · cases h with
                | refl => omega
                | up _ p _ q1 q2 =>
                  have : p = a := by omega
                  subst this
                  have := q2.le hw3 (by omega); omega
          · exact ⟨ps, e, h4, h5, hu⟩
      obtain ⟨ps, e, h1, h2, h3⟩ := loop (l.length - (a + 1)) (a + 1) [] (Nat.le_refl _) (by omega) (by omega) base hst0
      refine ⟨.mk l[a].kind l[a].name l[a].no l[a].must l[a].most ps, e, ?_, ?_⟩
      · rw [enc]; exact ⟨⟨l[a], List.getElem?_eq_getElem ha, rfl, rfl, rfl, rfl, rfl⟩, .inl hh, h1⟩
      · intro b hb hA hho
        by_cases hba : b = a
        · subst hba; exact h3
        · exact h2 b (by omega) hA hho
    · refine ⟨.mk l[a].kind l[a].name l[a].no l[a].must l[a].most [], a + 1, ?_, ?_⟩
      · rw [enc]; exact ⟨⟨l[a], List.getElem?_eq_getElem ha, rfl, rfl, rfl, rfl, rfl⟩, .inr rfl, base⟩
      · intro b hb hA hho
        by_cases hba : b = a
        · subst hba; exact absurd hho.2 hh
        · exact hst0 b (by omega) hA hho
/-- A list that is read greedily from its first type on: when it is a good schema. -/
theorem good_iff {l : List DType} {t : K} {e : Nat} (hn : 1 ≤ l.length ∧ l.length ≤ 30) (hu : U l 0 = -1) (h : enc l t 0 e) (hs : Stuck l 0 e) : (e = l.length ∧ goodK t) ↔ goodP l := by
  constructor
  · rintro ⟨rfl, h5, hb, hr, hd, hc⟩
    exact ⟨flat_of_tree hn hu h h5 hb hr, t, h, hd⟩
  · rintro ⟨hf, t', h', hd⟩
    have he : e = l.length := by
      obtain ⟨b1, b2, b3⟩ := enc_bd t _ _ h
      by_cases hlt : e < l.length
      · exfalso
        obtain ⟨hi, q, hq, h1, h2, h3, h4, _⟩ := hf.2.2.2.1 e (by omega) hlt
        exact hs q (Nat.zero_le _) h4 ⟨hq, h3⟩ (by rw [U_at hlt, h2])
      · omega
    subst he
    refine ⟨rfl, ?_⟩
    have : t = t' := Sb.uniq t 0 t' (enc_out h) (enc_out h')
    subst this
    obtain ⟨ha, ⟨k1, k2, k3, k4, k5⟩, _⟩ := (enc_out h).at
    obtain ⟨_, r1, r2, r3⟩ := hf.2.1
    refine ⟨by rw [← k1]; exact r1, by rw [← k2, ← k3, ← k4]; exact r3, tree_of_flat hf t 0 (enc_out h), hd, ?_⟩
    have := enc_count t _ _ h
    omega
end Go.Proofs.Ytobahkjbadamhaa

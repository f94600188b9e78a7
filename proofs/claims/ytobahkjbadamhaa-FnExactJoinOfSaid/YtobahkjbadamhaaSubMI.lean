/- Whether each value of a type is one of another's: plain (with SubI). -/
import Derived.Test.YtobahkjbadamhaaKindQVW
/- Whether each value of a type is one of another's: plain. -/
namespace Go.Proofs.Ytobahkjbadamhaa
open Go.RowKit
set_option linter.unusedVariables false
def byNo (n : Int) (x : K) : Bool := x.no == n
mutual
/-- b's and then a. -/
def subB : K → K → Bool
  | .mk o _ _ _ mo ps => fun a => (a.of == o) && !((o == 3) && decide (mo < a.most)) && (if o = 4 then subH ps a else subL ps a)
def subH : List K → K → Bool
  | [] => fun _ => true
  | y :: _ => fun a => match a.parts with
    | [] => true
    | x :: _ => subB y x
def subL : List K → K → Bool
  | [] => fun _ => true
  | y :: ys => fun a => (match a.parts.find? (byNo y.no) with
    | none => false
    | some x => !(y.must && !x.must) && subB y x) && subL ys a
end
def stepB (a y : K) : Bool := match a.parts.find? (byNo y.no) with
    | none => false
    | some x => !(y.must && !x.must) && subB y x
theorem subL_all (a : K) : ∀ ys : List K, subL ys a = ys.all (stepB a) := by
  intro ys
  induction ys with
  | nil => rw [subL]; rfl
  | cons y ys ih => rw [subL, List.all_cons, ← ih, stepB]
theorem subB_eq (a b : K) : subB b a = ((a.of == b.of) && !((b.of == 3) && decide (b.most < a.most)) && (if b.of = 4 then subH b.parts a else b.parts.all (stepB a))) := by
  obtain ⟨o, nm, no, mu, mo, ps⟩ := b
  show subB (.mk o nm no mu mo ps) a = ((a.of == o) && !((o == 3) && decide (mo < a.most)) && (if o = 4 then subH ps a else ps.all (stepB a)))
  rw [← subL_all, subB]
/-- The first part with a number. -/
def firstP (ps : List K) (no : Int) (j : Nat) : Prop := ∃ h : j < ps.length, ps[j].no = no ∧ ∀ i (hi : i < j), ps[i].no ≠ no
def noneP (ps : List K) (no : Int) : Prop := ∀ i (h : i < ps.length), ps[i].no ≠ no
theorem first_or (ps : List K) (no : Int) : (∃ j, firstP ps no j) ∨ noneP ps no := by
  induction ps with
  | nil => exact .inr (fun i h => by simp at h)
  | cons p ps ih =>
    by_cases hp : p.no = no
    · exact .inl ⟨0, by simp, hp, fun i hi => by omega⟩
    · rcases ih with ⟨j, h1, h2, h3⟩ | h
      · refine .inl ⟨j + 1, by simpa using h1, by simpa using h2, fun i hi => ?_⟩
        cases i with
        | zero => exact hp
        | succ i => simpa using h3 i (by omega)
      · refine .inr (fun i hi => ?_)
        cases i with
        | zero => exact hp
        | succ i => simpa using h i (by simpa using hi)
theorem find_first {ps : List K} {no : Int} {j : Nat} (h : firstP ps no j) : ps.find? (byNo no) = some (ps[j]'h.1) := by
  obtain ⟨h1, h2, h3⟩ := h
  rw [List.find?_eq_some_iff_getElem]
  exact ⟨by simp [byNo, h2], j, h1, rfl, fun i hi => by simp [byNo]; exact h3 i hi⟩
theorem find_none {ps : List K} {no : Int} (h : noneP ps no) : ps.find? (byNo no) = none := by
  rw [List.find?_eq_none]
  intro x hx
  obtain ⟨i, hi, rfl⟩ := List.getElem_of_mem hx
  simp [byNo]; exact h i hi
theorem step_first {a y : K} {j : Nat} (h : firstP a.parts y.no j) : stepB a y = (!(y.must && !(a.parts[j]'h.1).must) && subB y (a.parts[j]'h.1)) := by rw [stepB, find_first h]
theorem step_none {a y : K} (h : noneP a.parts y.no) : stepB a y = false := by rw [stepB, find_none h]
theorem fidx_first {α : Type} {p : α → Bool} {l : List α} {j : Nat} (hj : j < l.length) (h1 : p l[j] = true) (h2 : ∀ i (hi : i < j), p (l[i]'(by omega)) = false) : fidx p l = (j : Int) := fidx_hit hj (fun i hi hij => h2 i hij) h1
theorem right_most {t : K} (h : rightK t) (h3 : t.of ≠ 3) : t.most = 0 := by
  rcases h.ok.1 with ⟨_, g, _⟩ | ⟨g, _⟩ | ⟨_, g, _⟩ | ⟨_, g, _⟩
  · exact g
  · exact absurd g h3
  · exact g
  · exact g
theorem right_one {t : K} (h : rightK t) (h4 : t.of = 4) : ∃ x, t.parts = [x] := by
  rcases h.ok.1 with ⟨g, _⟩ | ⟨g, _⟩ | ⟨_, _, g⟩ | ⟨g, _⟩
  · omega
  · omega
  · match hp : t.parts, g with
    | [x], _ => exact ⟨x, rfl⟩
  · omega
theorem right_part {t p : K} (h : rightK t) (hp : p ∈ t.parts) : rightK p := h.ok.2.2 p hp
end Go.Proofs.Ytobahkjbadamhaa
/- Whether each value of a type is one of another's: part and under of the program. -/
namespace Go.Proofs.Ytobahkjbadamhaa
open Go.RowKit
set_option linter.unusedVariables false
set_option maxRecDepth 100000
set_option maxHeartbeats 800000 in
theorem ix_pt (cv : Value) (p : KV → Bool) (l : List KV) (v : Value) (w : World) (hl : l.length ≤ 1000000000000) (h : Sl w v 1 (l.map KV.enc))
    (hp : ∀ x ∈ l, ∀ w', Below w.heap.size w w' → Calls Try.prog 123 #[x.v, cv] w' (BoolPost (p x) w')) :
    Calls Try.prog 122 #[v, .func (.func 123) #[] #[cv]] w (IntPost (fidx p l) w) := by
  replace hp := hd hp
  rcases h.open with ⟨a1, c1, rfl, hr⟩ | ⟨b1, o1, c1, rfl, hr, C1⟩
  · obtain rfl : l = [] := by simpa using hr
    go_enter Try.func122, Try.ntmps122
    go_wp2
    go_loopw [8] (fun i wr => i = .int .i64 0 ∧ wr = w) (fun _ _ => 0)
    case atStart => exact ⟨rfl, rfl⟩
    case round =>
      obtain ⟨rfl, rfl⟩ := hrel
      go_wp2_with fail
      go_ret
      exact ⟨rfl, Below.refl _ _⟩
  · clear h
    simp only [List.length_map]
    go_enter Try.func122, Try.ntmps122
    go_wp2
    go_loopw [8] (fun i wr => ∃ k : Nat, k ≤ l.length ∧ i = .int .i64 k ∧ Hd (fidx_from p l k) ∧ Hd (Below w.heap.size w wr)) (fun i _ => l.length - (intOf i).toNat)
    case atStart => exact ⟨0, Nat.zero_le _, rfl, fidx_zero p l, Below.refl _ _⟩
    case round =>
      obtain ⟨k, hk, rfl, hfx, hbl⟩ := hrel
      by_cases hlt : k < l.length
      · have f0 := Cells.rowKV l k hlt (C1.mono hbl.out)
        cases hpx : p l[k] with
        | true =>
          replace hpx := hd hpx
          go_wp2_with fail
          refine (hp.out l[k] (List.getElem_mem hlt) _ hbl.out).mono ?_
          rw [hpx.out]
          rintro e w2 ⟨rfl, hb⟩
          have hb2 := hd (hbl.out.next hb)
          clear hb
          go_wp2_with fail
          go_ret
          exact ⟨ret_int (fidx_hit hlt hfx.out hpx.out).symm, hb2.out⟩
        | false =>
          replace hpx := hd hpx
          go_wp2_with fail
          refine (hp.out l[k] (List.getElem_mem hlt) _ hbl.out).mono ?_
          rw [hpx.out]
          rintro e w2 ⟨rfl, hb⟩
          have hb2 := hd (hbl.out.next hb)
          clear hb
          go_wp2_with fail
          go_roundw
          case rel => exact ⟨k + 1, by omega, by go_num, fidx_step hlt hfx.out hpx.out, hb2⟩
          case measure => simp [intOf]; omega
      · go_wp2_with fail
        go_ret
        exact ⟨ret_int (fidx_none (by omega) hfx.out).symm, hbl.out⟩
set_option maxHeartbeats 400000 in
theorem part_cl (no : Int) (p : K) (vp : Value) (bk : Nat) (w : World) (lo hi : Nat) (q : w.cell? ⟨bk, 0, none⟩ = some (.int .i64 no)) (hp : RepP w lo hi p vp) :
    Calls Try.prog 123 #[vp, .pointer (some ⟨bk, 0, none⟩)] w (BoolPost (byNo no p) w) := by
  obtain ⟨b, a, c, vs, rfl, hb, c0, c1, c2, c3, c4, c5, hS, hl, hg⟩ := hp.open
  have hz := hd (show byNo no p = (p.no == no) from rfl)
  clear c0 c1 c3 c4 c5 hS hl hg hp
  generalize byNo no p = z at *
  generalize p.no = n at *
  go_enter Try.func123, Try.ntmps123
  go_wp2_with fail
  go_quiet (fail)
  go_wp2_with fail
  go_ret
  exact ⟨by rw [hz.out]; rfl, below_drewN (Below.refl _ w) _⟩
/-- The first part with a number, by its place in the row; nil without one. -/
def PartPost (t : K) (vs : List Value) (no : Int) (w : World) (e : Ending) (w' : World) : Prop :=
  (∀ j, firstP t.parts no j → ∃ h : j < vs.length, e = .returned vs[j]) ∧ (noneP t.parts no → e = .returned (.pointer none)) ∧ Below w.heap.size w w'
set_option maxHeartbeats 800000 in
theorem part_i (t : K) (no : Int) (b c : Nat) (a : Option Addr) (vs : List Value) (w : World) (lo hi : Nat) (hh : hi ≤ w.heap.size) (hlen : t.parts.length ≤ 1000000) (c5 : w.cell? ⟨b, 5, none⟩ = some (.slice a t.parts.length c))
    (hS : PSl w lo hi (.slice a t.parts.length c) vs) (hl : vs.length = t.parts.length) (hg : ∀ j (h : j < t.parts.length) (h' : j < vs.length), RepP w lo hi t.parts[j] vs[j]) :
    Calls Try.prog 82 #[.pointer (some ⟨b, 0, none⟩), .int .i64 no] w (PartPost t vs no w) := by
  have hix := hd (fun (r : Int) (hr : fidx (fun x : KV => byNo no x.k) (kvs t.parts vs) = r) => (ix_pt (.pointer (some ⟨w.heap.size, 0, none⟩)) (fun x => byNo no x.k) (kvs t.parts vs) (.slice a t.parts.length c) (w.alloc (.cells #[.int .i64 no] 3)) (by rw [kvs_len hl]; omega)
    (by rw [kvs_map hl]; exact (hS.same (Same.below (below_a1 w) hh) (Nat.le_refl _) (Nat.le_refl _)).sl (by simp; omega))
    (fun x hx w3 hb3 => by
      obtain ⟨j, j1, j2, rfl⟩ := kvs_mem hl hx
      exact part_cl no _ _ w.heap.size w3 lo hi (keepCell hb3 (by go_simp)) ((hg j j1 j2).below hh ((below_a1 w).next hb3)))).mono (fun e w' (h : IntPost (fidx (fun x : KV => byNo no x.k) (kvs t.parts vs)) _ e w') => (show IntPost r (w.alloc (.cells #[.int .i64 no] 3)) e w' from by subst hr; exact h)))
  have c5a := keepCell (below_a1 w (a := .cells #[.int .i64 no] 3)) c5
  rcases first_or t.parts no with ⟨j, hf⟩ | hn
  · have hjl := hf.1
    have hix2 := hd (hix.out (j : Int) (fidx_first (by rw [kvs_len hl]; exact hjl) (by simp [kvs, byNo]; exact hf.2.1) (fun i hi => by simp [kvs, byNo]; exact hf.2.2 i hi)))
    obtain ⟨b1, o1, rfl, hb1, hc1⟩ := hS.at (j := j) (by omega)
    have q := hc1 j (by omega)
    have hjI : (j : Int) < (t.parts.length : Int) := by omega
    have hres := hd (show ∀ w', Below w.heap.size w w' → PartPost t vs no w (.returned (vs[j]'(by omega))) w' from fun w' hb => ⟨fun j' hf' => by
      have : j' = j := by
        by_cases e1 : j' < j
        · exact absurd hf'.2.1 (hf.2.2 j' e1)
        · by_cases e2 : j < j'
          · exact absurd hf.2.1 (hf'.2.2 j e2)
          · omega
      subst this; exact ⟨by omega, rfl⟩, fun g => absurd hf.2.1 (g j hjl), hb⟩)
    clear hix hc1 hg hf
    generalize (vs[j]'(by omega)) = vj at *
    go_enter Try.func82, Try.ntmps82
    go_wp2_with fail
    refine hix2.out.mono ?_
    rintro e w3 ⟨rfl, hb3⟩
    have hB := hd ((below_a1 w).next hb3)
    have q' := keepCell hB.out q
    have c5b := keepCell hb3 c5a
    clear hb3 q c5a
    go_wp2_with fail
    go_ret
    exact hres.out _ hB.out
  · have hix2 := hd (hix.out (-1) (fidx_none (Nat.le_refl _) (fun i h1 h2 => by
      rw [kvs_len hl] at h1
      simp [kvs, byNo]; exact hn i h1)))
    have hres := hd (show ∀ w', Below w.heap.size w w' → PartPost t vs no w (.returned (.pointer none)) w' from fun w' hb => ⟨fun j hf => absurd hf.2.1 (hn j hf.1), fun _ => rfl, hb⟩)
    clear hix hg hn
    go_enter Try.func82, Try.ntmps82
    go_wp2_with fail
    refine hix2.out.mono ?_
    rintro e w3 ⟨rfl, hb3⟩
    have hB := hd ((below_a1 w).next hb3)
    clear hb3
    go_wp2_with fail
    go_ret
    exact hres.out _ hB.out
theorem all_false {α : Type} {f : α → Bool} {l : List α} {k : Nat} (hk : k < l.length) (h : f l[k] = false) : l.all f = false := by
  rw [List.all_eq_false]
  exact ⟨l[k], List.getElem_mem hk, by simp [h]⟩
theorem all_true {α : Type} {f : α → Bool} {l : List α} (h : ∀ i (hi : i < l.length), f l[i] = true) : l.all f = true := by
  rw [List.all_eq_true]
  intro x hx
  obtain ⟨i, hi, rfl⟩ := List.getElem_of_mem hx
  exact h i hi
end Go.Proofs.Ytobahkjbadamhaa

/- The bindings of the reference: a row of terms and a row of marks; a match. -/
import Derived.Test.YtbjilpemckoioaaInstI
import Derived.Deep.RegionHeld3
namespace Go.Proofs.Ytbjilpemckoioaa
open Go.RowKit
set_option linter.unusedVariables false
set_option maxRecDepth 100000
/-- Two blocks alone may have changed. -/
structure Kept2 (w : World) (h k : Nat) (w' : World) : Prop where
  os : w'.os = w.os
  tape : w'.tape = w.tape
  output : w'.output = w.output
  size : w.heap.size ≤ w'.heap.size
  block : ∀ b, b < w.heap.size → b ≠ h → b ≠ k → w'.heap[b]? = w.heap[b]?
theorem Kept2.of_below {w w' : World} {h k : Nat} (hb : Below w.heap.size w w') : Kept2 w h k w' := ⟨hb.os, hb.tape, hb.output, hb.size, fun b hb1 _ _ => hb.block b hb1⟩
theorem Kept2.of_grown1 {w w' : World} {h k : Nat} (hb : w.grownBy w' (some h)) : Kept2 w h k w' := ⟨hb.os, hb.tape, hb.output, hb.size, fun b hb1 h1 _ => hb.block b hb1 (fun e => h1 (Option.some.inj e))⟩
theorem Kept2.of_grown2 {w w' : World} {h k : Nat} (hb : w.grownBy w' (some k)) : Kept2 w h k w' := ⟨hb.os, hb.tape, hb.output, hb.size, fun b hb1 _ h1 => hb.block b hb1 (fun e => h1 (Option.some.inj e))⟩
theorem Kept2.trans {w w1 w2 : World} {h k : Nat} (a : Kept2 w h k w1) (b : Kept2 w1 h k w2) : Kept2 w h k w2 :=
  ⟨b.os.trans a.os, b.tape.trans a.tape, b.output.trans a.output, Nat.le_trans a.size b.size, fun x hx h1 h2 => (b.block x (Nat.lt_of_lt_of_le hx a.size) h1 h2).trans (a.block x hx h1 h2)⟩
theorem Kept2.below {w w' : World} {h k B : Nat} (a : Kept2 w h k w') (hB : B ≤ w.heap.size) (h1 : B ≤ h) (h2 : B ≤ k) : Below B w w' :=
  ⟨a.os, a.tape, a.output, a.size, fun x hx => a.block x (by omega) (by omega) (by omega)⟩
theorem Kept2.cell {w w' : World} {h k : Nat} (a : Kept2 w h k w') {p : Addr} {v : Value} (hc : w.cell? p = some v) (h1 : p.block ≠ h) (h2 : p.block ≠ k) : w'.cell? p = some v :=
  (World.cell?_of_block (a.block p.block (World.block_lt_of_cell? w p hc) h1 h2)).trans hc
theorem Kept2.box {w w' : World} {h k b : Nat} {cs : List Value} (a : Kept2 w h k w') (hb : BoxN w b cs) (h1 : b ≠ h) (h2 : b ≠ k) : BoxN w' b cs :=
  ⟨fun j u hu => a.cell (hb.1 j u hu) h1 h2, fun j => by rw [World.frozen?_of_block (a.block b hb.2.2 h1 h2)]; exact hb.2.1 j, Nat.lt_of_lt_of_le hb.2.2 a.size⟩
theorem Kept2.same {w w' : World} {h k : Nat} {S : Nat → Prop} (a : Kept2 w h k w') (hS : ∀ q, S q → q < w.heap.size ∧ q ≠ h ∧ q ≠ k) : SameS w w' S :=
  fun b hb o => World.cell?_of_block (a.block b (hS b hb).1 (hS b hb).2.1 (hS b hb).2.2)
/-- Which variables have a term. -/
def knowL (env : Int → Option K) : List Value := [.bool (env 1).isSome, .bool (env 2).isSome, .bool (env 3).isSome, .bool (env 4).isSome, .bool (env 5).isSome, .bool (env 6).isSome]
theorem knowL_at (env : Int → Option K) {i : Nat} (hi : i < 6) : (knowL env)[i]? = some (.bool (env ((i : Int) + 1)).isSome) := by
  have : i = 0 ∨ i = 1 ∨ i = 2 ∨ i = 3 ∨ i = 4 ∨ i = 5 := by omega
  rcases this with rfl | rfl | rfl | rfl | rfl | rfl <;> rfl
theorem knowL_upd (env : Int → Option K) {i : Nat} (hi : i < 6) (a : K) : knowL (updE env ((i : Int) + 1) a) = (knowL env).set i (.bool true) := by
  have : i = 0 ∨ i = 1 ∨ i = 2 ∨ i = 3 ∨ i = 4 ∨ i = 5 := by omega
  rcases this with rfl | rfl | rfl | rfl | rfl | rfl <;> simp [knowL, updE]
def EnvS (w : World) (h k : Nat) (S : Nat → Prop) (env : Int → Option K) : Prop :=
  h ≠ k ∧ BoxN w k (knowL env) ∧ ∃ rows : List (List Value), rows.length = 6 ∧ (∀ r ∈ rows, r.length = 3) ∧ BoxN w h rows.flatten ∧ ∀ (i : Nat) t r, i < 6 → env ((i : Int) + 1) = some t → rows[i]? = some r → RepZ HT 3 w S t r
theorem EnvS.known {w : World} {h k : Nat} {S : Nat → Prop} {env : Int → Option K} (e : EnvS w h k S env) {i : Nat} (hi : i < 6) : w.cell? ⟨k, i, none⟩ = some (.bool (env ((i : Int) + 1)).isSome) :=
  e.2.1.1 i _ (knowL_at env hi)
theorem EnvS.have {w : World} {h k : Nat} {S : Nat → Prop} {env : Int → Option K} (e : EnvS w h k S env) {i : Nat} (hi : i < 6) {t : K} (ht : env ((i : Int) + 1) = some t) :
    ∃ r, RepZ HT 3 w S t r ∧ ∀ j u, r[j]? = some u → w.cell? ⟨h, i * 3 + j, none⟩ = some u := by
  obtain ⟨_, _, rows, hl, h3, hb, hr⟩ := e
  have hg : rows[i]? = some (rows[i]'(by omega)) := List.getElem?_eq_getElem (by omega)
  exact ⟨_, hr i t _ hi ht hg, fun j u hu => hb.1 _ _ (flatten_at h3 i _ hg j u hu)⟩
theorem EnvS.slot {w : World} {h k : Nat} {S : Nat → Prop} {env : Int → Option K} (e : EnvS w h k S env) {i : Nat} (hi : i < 6) :
    ∃ x y z, w.cell? ⟨h, i * 3, none⟩ = some x ∧ w.cell? ⟨h, i * 3 + 1, none⟩ = some y ∧ w.cell? ⟨h, i * 3 + 2, none⟩ = some z := by
  obtain ⟨_, _, rows, hl, h3, hb, hr⟩ := e
  have hg : rows[i]? = some (rows[i]'(by omega)) := List.getElem?_eq_getElem (by omega)
  have hq := h3 _ (List.mem_of_getElem? hg)
  have c := fun j u hu => hb.1 _ _ (flatten_at h3 i _ hg j u hu)
  generalize rows[i]'(by omega) = rw at *
  match rw, hq with
  | [u, v, q], _ => exact ⟨u, v, q, c 0 _ rfl, c 1 _ rfl, c 2 _ rfl⟩
theorem EnvS.thawH {w : World} {h k : Nat} {S : Nat → Prop} {env : Int → Option K} (e : EnvS w h k S env) (j : Nat) : w.frozen? ⟨h, j, none⟩ = false := by
  obtain ⟨_, _, rows, hl, h3, hb, hr⟩ := e
  exact hb.2.1 j
theorem EnvS.thawK {w : World} {h k : Nat} {S : Nat → Prop} {env : Int → Option K} (e : EnvS w h k S env) (j : Nat) : w.frozen? ⟨k, j, none⟩ = false := e.2.1.2.1 j
theorem EnvS.kept {w w' : World} {h k : Nat} {S : Nat → Prop} {env : Int → Option K} (e : EnvS w h k S env) (hb : Below w.heap.size w w') (hS : ∀ q, S q → q < w.heap.size) : EnvS w' h k S env := by
  obtain ⟨h1, h2, rows, hl, h3, h4, hr⟩ := e
  exact ⟨h1, h2.below hb, rows, hl, h3, h4.below hb, fun i t r hi ht hg => RepZ.same (SameS.below hb hS) (fun _ h => h) _ _ (hr i t r hi ht hg)⟩
theorem EnvS.put {w : World} {h k : Nat} {S : Nat → Prop} {env : Int → Option K} (e : EnvS w h k S env) (hS : ∀ q, S q → q < w.heap.size ∧ q ≠ h ∧ q ≠ k) {i : Nat} (hi : i < 6) {a : K} {x y z : Value} (hR : RepZ HT 3 w S a [x, y, z]) :
    EnvS (setCells (w.setCell ⟨k, i, none⟩ (.bool true)) h (i * 3) [x, y, z]) h k S (updE env ((i : Int) + 1) a) ∧ Kept2 w h k (setCells (w.setCell ⟨k, i, none⟩ (.bool true)) h (i * 3) [x, y, z]) := by
  obtain ⟨h1, h2, rows, hl, h3, h4, hr⟩ := e
  have g1 := grownBy_setCell w ⟨k, i, none⟩ (.bool true)
  have g2 := grownBy_setCells h [x, y, z] (w.setCell ⟨k, i, none⟩ (.bool true)) (i * 3)
  have hk : Kept2 w h k (setCells (w.setCell ⟨k, i, none⟩ (.bool true)) h (i * 3) [x, y, z]) := (Kept2.of_grown2 g1).trans (Kept2.of_grown1 g2)
  refine ⟨⟨h1, ?_, rows.set i [x, y, z], by simp [hl], ?_, ?_, ?_⟩, hk⟩
  · rw [knowL_upd env hi]
    exact (h2.set (by simpa [knowL] using hi) _).grown g2 (fun e => h1 (Option.some.inj e).symm)
  · intro r hr
    rcases List.mem_or_eq_of_mem_set hr with hr | rfl
    · exact h3 r hr
    · rfl
  · have hi' : i < rows.length := by omega
    obtain ⟨u, v, q, he⟩ : ∃ u v q, rows[i] = [u, v, q] := by
      have := h3 rows[i] (List.getElem_mem hi')
      match h : rows[i], this with
      | [u, v, q], _ => exact ⟨u, v, q, rfl⟩
    have hg : rows[i]? = some [u, v, q] := by rw [List.getElem?_eq_getElem hi', he]
    have hlen : rows.flatten.length = 18 := by rw [flatten_len h3, hl]
    have b0 := h4.grown g1 (fun e => h1 (Option.some.inj e))
    have b1 := b0.set (i := i * 3) (by omega) x
    have b2 := b1.set (i := i * 3 + 1) (by rw [List.length_set]; omega) y
    have b3 := b2.set (i := i * 3 + 1 + 1) (by rw [List.length_set, List.length_set]; omega) z
    have e1 := flatten_set x 0 (sz := 3) (by omega) rows i _ h3 hg
    have hs1 : ∀ r ∈ rows.set i [x, v, q], r.length = 3 := by
      intro r hr
      rcases List.mem_or_eq_of_mem_set hr with hr | rfl
      · exact h3 r hr
      · rfl
    have e2 := flatten_set y 1 (sz := 3) (by omega) (rows.set i [x, v, q]) i [x, v, q] hs1 (by rw [List.getElem?_set_self hi'])
    have hs2 : ∀ r ∈ rows.set i [x, y, q], r.length = 3 := by
      intro r hr
      rcases List.mem_or_eq_of_mem_set hr with hr | rfl
      · exact h3 r hr
      · rfl
    have e3 := flatten_set z 2 (sz := 3) (by omega) (rows.set i [x, y, q]) i [x, y, q] hs2 (by rw [List.getElem?_set_self hi'])
    simp only [List.set_cons_zero, List.set_cons_succ, List.set_set, Nat.add_zero] at e1 e2 e3
    rw [e1, e2, show i * 3 + 1 + 1 = i * 3 + 2 by omega, e3] at b3
    exact b3
  · intro j t r hj ht hg
    refine RepZ.same (hk.same hS) (fun _ h => h) _ _ ?_
    by_cases hji : j = i
    · subst hji
      rw [updE, if_pos rfl] at ht
      cases ht
      rw [List.getElem?_set_self (by omega)] at hg
      cases hg
      exact hR
    · rw [updE, if_neg (by omega)] at ht
      rw [List.getElem?_set_ne (Ne.symm hji)] at hg
      exact hr j t r hj ht hg
def MPost (r : Bool × (Int → Option K)) (h k : Nat) (S : Nat → Prop) (w : World) (e : Ending) (w' : World) : Prop :=
  e = .returned (.bool r.1) ∧ (r.1 = true → EnvS w' h k S r.2) ∧ Kept2 w h k w'
set_option maxHeartbeats 6400000 in
theorem match_s (b : K) : ∀ (a : K) (env : Int → Option K) (ra rb : List Value) (w : World) (h k : Nat) (S : Nat → Prop), (∀ q, S q → q < w.heap.size ∧ q ≠ h ∧ q ≠ k) → h < w.heap.size → k < w.heap.size → countK a ≤ 1000000 → countK b ≤ 1000000 → TmOk a → TmOk b → EnvOk env → RepZ HT 3 w S a ra → RepZ HT 3 w S b rb → EnvS w h k S env →
    Calls Try.prog 56 #[.agg ra.toArray, .agg rb.toArray, .slice (some ⟨h, 0, none⟩) 6 6, .slice (some ⟨k, 0, none⟩) 6 6] w (MPost (insK b a env) h k S w) := by
  refine K.ind2 (P := fun b => ∀ (a : K) (env : Int → Option K) (ra rb : List Value) (w : World) (h k : Nat) (S : Nat → Prop), (∀ q, S q → q < w.heap.size ∧ q ≠ h ∧ q ≠ k) → h < w.heap.size → k < w.heap.size → countK a ≤ 1000000 → countK b ≤ 1000000 → TmOk a → TmOk b → EnvOk env → RepZ HT 3 w S a ra → RepZ HT 3 w S b rb → EnvS w h k S env →
    Calls Try.prog 56 #[.agg ra.toArray, .agg rb.toArray, .slice (some ⟨h, 0, none⟩) 6 6, .slice (some ⟨k, 0, none⟩) 6 6] w (MPost (insK b a env) h k S w)) ?_ b
  intro b ih a env ra rb w h k S hS hh hk hca hcb hoa hob hev hA hB hE
  have hAA := hd hA
  obtain ⟨aA, cA, rwA, rfl, hSA, hlA, hgA⟩ := hA.openT
  obtain ⟨aB, cB, rwB, rfl, hSB, hlB, hgB⟩ := hB.openT
  have hla : a.parts.length ≤ 1000000 := by have h1 := len_count a.parts; have h2 := countK_eq a; omega
  have hlb : b.parts.length ≤ 1000000 := by have h1 := len_count b.parts; have h2 := countK_eq b; omega
  have hmx : Try.prog.follows .mixedOrders = true := by kernel_rfl
  obtain ⟨r, hr⟩ : ∃ r, insK b a env = r := ⟨_, rfl⟩
  rw [hr]
  have hap : 0 ≤ a.of := by cases hoa with | var v h => exact (show 0 ≤ v by omega) | app => exact Int.le_refl _
  have hbp : 0 ≤ b.of ∧ b.of ≤ 6 := by cases hob with | var v h => exact (show 0 ≤ v ∧ v ≤ 6 by omega) | app => exact ⟨Int.le_refl _, show (0 : Int) ≤ 6 by decide⟩
  have hrI := hr
  rw [insK_eq] at hrI
  have hXa := hd (show BoxN ((w.alloc (.cells #[.int .i64 a.of, .string a.name, .slice aA a.parts.length cA] 91)).alloc (.cells #[.int .i64 b.of, .string b.name, .slice aB b.parts.length cB] 91)) w.heap.size [.int .i64 a.of, .string a.name, .slice aA a.parts.length cA] from (BoxN.new w _ _).below (below_a1 _))
  have hXb := hd (show BoxN ((w.alloc (.cells #[.int .i64 a.of, .string a.name, .slice aA a.parts.length cA] 91)).alloc (.cells #[.int .i64 b.of, .string b.name, .slice aB b.parts.length cB] 91)) (w.heap.size + 1) [.int .i64 b.of, .string b.name, .slice aB b.parts.length cB] from by
    have := BoxN.new (w.alloc (.cells #[.int .i64 a.of, .string a.name, .slice aA a.parts.length cA] 91)) [.int .i64 b.of, .string b.name, .slice aB b.parts.length cB] 91
    rwa [World.size_alloc] at this)
  have hbW := hd (below_a2 w (a := .cells #[.int .i64 a.of, .string a.name, .slice aA a.parts.length cA] 91) (b := .cells #[.int .i64 b.of, .string b.name, .slice aB b.parts.length cB] 91))
  have hEW := hd (fun w' (hw : Below w.heap.size w w') => hE.kept hw (fun q h => (hS q h).1))
  by_cases hv : 0 < b.of
  · rw [if_pos hv] at hrI
    obtain ⟨i, hi⟩ : ∃ i : Nat, b.of = (i : Int) + 1 := ⟨(b.of - 1).toNat, by omega⟩
    have hi6 : i < 6 := by omega
    have hiI : (i : Int) < 6 := by omega
    have hkn := hEW.out _ hbW.out |>.known hi6
    rw [hi] at hrI hv hkn
    rw [hi] at hXa hXb hbW
    clear ih hgA hgB hSA hSB hB hlA hlB
    cases he : env ((i : Int) + 1) with
    | some t =>
      rw [he] at hrI hkn
      obtain ⟨g, hg⟩ := boolOf (t = a)
      obtain ⟨rt, hRt, hct⟩ := hE.have hi6 he
      obtain ⟨aT, cT, rwT, rfl, -, -, -⟩ := hRt.openT
      have q0 := keepCell hbW.out (show w.cell? ⟨h, i * 3, none⟩ = _ from hct 0 _ rfl)
      have q1 := keepCell hbW.out (hct 1 _ rfl)
      have q2 := keepCell hbW.out (hct 2 _ rfl)
      have cs := hd (fun w' (hw : Below w.heap.size w w') => same_s t a _ _ w' S S (fun q h => Nat.lt_of_lt_of_le (hS q h).1 hw.size) (fun q h => Nat.lt_of_lt_of_le (hS q h).1 hw.size) (hev _ _ he).1 hca (hev _ _ he).2 hoa.p (RepZ.same (SameS.below hw (fun q h => (hS q h).1)) (fun _ h => h) _ _ hRt) (RepZ.same (SameS.below hw (fun q h => (hS q h).1)) (fun _ h => h) _ _ hA) g hg)
      have hr1 : r.1 = g := by
        rw [← hrI, Bool.eq_iff_iff, hg]; simp
      have hr2 : r.2 = env := by rw [← hrI]
      have hfin := hd (fun w' (hw : Below w.heap.size w w') => (show MPost r h k S w (.returned (.bool g)) w' from ⟨by rw [hr1], fun _ => by rw [hr2]; exact hEW.out _ hw, Kept2.of_below hw⟩))
      clear hr hrI hA hE hEW hev hS hg hr1 hr2 hoa hob hct hAA hRt
      generalize t.of = vT at *
      generalize t.name = nT at *
      go_enter Try.func56, Try.ntmps56
      go_upto_region 1 with (fail)
      generalize (w.alloc (.cells #[.int .i64 a.of, .string a.name, .slice aA a.parts.length cA] 91)).alloc (.cells #[.int .i64 ((i : Int) + 1), .string b.name, .slice aB b.parts.length cB] 91) = W at *
      have x0 := hXa.out.1 0 _ rfl; have x1 := hXa.out.1 1 _ rfl; have x2 := hXa.out.1 2 _ rfl
      have y0 := hXb.out.1 0 _ rfl; have y1 := hXb.out.1 1 _ rfl; have y2 := hXb.out.1 2 _ rfl
      have hkn' : W.cell? ⟨k, i, none⟩ = some (.bool true) := hkn
      clear hkn
      go_upto_region 3 with (fail)
      replace q0 := cellB q0
      replace q1 := cellB q1
      replace q2 := cellB q2
      replace x0 := cellB x0
      replace x1 := cellB x1
      replace x2 := cellB x2
      replace y0 := cellB y0
      refine wp_region_below hmx (by kernel_rfl) ?_
      repeat (go_big_quiet_step ((go_at_call 112; refine callsB (cs.out _ (hbW.out.next (BB.h _))))))
      refine wpQuiet_nil ?_
      intro _ hw'
      obtain ⟨⟨wq, hbq⟩, hw''⟩ := hw'
      subst hw''
      have hbl6 := hd (hbW.out.next hbq)
      go_wp2_with fail
      go_ret
      exact hfin.out _ hbl6.out
    | none =>
      rw [he] at hrI hkn
      have hE2 := hd (hEW.out _ hbW.out)
      have hr1 : r.1 = true := by rw [← hrI]
      have hr2 : r.2 = updE env ((i : Int) + 1) a := by rw [← hrI]
      have hput := hd (EnvS.put hE2.out (fun q h => ⟨Nat.lt_of_lt_of_le (hS q h).1 hbW.out.size, (hS q h).2⟩) hi6 (RepZ.same (SameS.below hbW.out (fun q h => (hS q h).1)) (fun _ h => h) _ _ hAA.out))
      have hkk : k ≠ w.heap.size ∧ k ≠ w.heap.size + 1 := by omega
      clear hr hrI hA hE hEW hev hS hoa hob hAA
      go_enter Try.func56, Try.ntmps56
      go_upto_region 1 with (fail)
      generalize (w.alloc (.cells #[.int .i64 a.of, .string a.name, .slice aA a.parts.length cA] 91)).alloc (.cells #[.int .i64 ((i : Int) + 1), .string b.name, .slice aB b.parts.length cB] 91) = W at *
      have hg1 := grownBy_setCell W ⟨k, i, none⟩ (.bool true)
      have hXa1 := hd (hXa.out.grown hg1 (fun e => hkk.1 (Option.some.inj e).symm))
      have hXb1 := hd (hXb.out.grown hg1 (fun e => hkk.2 (Option.some.inj e).symm))
      have fk := hE2.out.thawK i
      obtain ⟨u0, u1, u2, p0, p1, p2⟩ := hE2.out.slot hi6
      have hne := hE2.out.1
      have p0 := hg1.cell p0 (fun e => hne (Option.some.inj e))
      have p1 := hg1.cell p1 (fun e => hne (Option.some.inj e))
      have p2 := hg1.cell p2 (fun e => hne (Option.some.inj e))
      have fh : ∀ j, (W.setCell ⟨k, i, none⟩ (.bool true)).frozen? ⟨h, j, none⟩ = false := fun j => by rw [World.frozen?_setCell]; exact hE2.out.thawH j
      have f0 := fh (i * 3)
      have f1 := fh (i * 3 + 1)
      have f2 := fh (i * 3 + 2)
      have hkn' : W.cell? ⟨k, i, none⟩ = some (.bool false) := hkn
      clear hkn hg1 fh hne
      have y0 := hXb.out.1 0 _ rfl; have y1 := hXb.out.1 1 _ rfl; have y2 := hXb.out.1 2 _ rfl
      go_upto_region 5 with (fail)
      clear y0 y1 y2
      generalize W.setCell ⟨k, i, none⟩ (.bool true) = W1 at *
      have x0 := hXa1.out.1 0 _ rfl; have x1 := hXa1.out.1 1 _ rfl; have x2 := hXa1.out.1 2 _ rfl
      have y0 := hXb1.out.1 0 _ rfl; have y1 := hXb1.out.1 1 _ rfl; have y2 := hXb1.out.1 2 _ rfl
      go_wp2_with fail
      go_ret
      exact ⟨(by rw [hr1] <;> rfl), (fun _ => by rw [hr2]; exact hput.out.1), (Kept2.of_below hbW.out).trans hput.out.2⟩
  · rw [if_neg hv] at hrI
    have hvb0 : b.of = 0 := by omega
    have hqa := hd (fun p (hp : p ∈ a.parts) => (show countK p ≤ 1000000 ∧ TmOk p from ⟨by have h1 := count_part hp; have h2 := countK_eq a; omega, hoa.part hp⟩))
    have hqb := hd (fun p (hp : p ∈ b.parts) => (show countK p ≤ 1000000 ∧ TmOk p from ⟨by have h1 := count_part hp; have h2 := countK_eq b; omega, hob.part hp⟩))
    have hevk := hd (fun k => insL_okT b k hev hca hoa.p)
    have hno := hd (fun (h2 : ¬(a.of = 0 ∧ a.name = b.name ∧ a.parts.length = b.parts.length)) w' (hw : Below w.heap.size w w') => (show MPost r h k S w (.returned (.bool false)) w' from by
      rw [if_neg h2] at hrI; subst hrI
      exact ⟨rfl, (fun e => by cases e), Kept2.of_below hw⟩))
    have hyes := hd (fun (h : a.of = 0 ∧ a.name = b.name ∧ a.parts.length = b.parts.length) => (show r = insL b.parts a.parts env from by rw [if_pos h] at hrI; exact hrI.symm))
    have hsep : w.heap.size ≠ h ∧ w.heap.size ≠ k ∧ w.heap.size + 1 ≠ h ∧ w.heap.size + 1 ≠ k := by omega
    replace hsep := hd hsep
    rw [hvb0] at hXa hXb hbW ⊢
    clear hr hrI hev hoa hob hA hB hE hv hbp hvb0 hAA
    replace ih := hd ih
    replace hS := hd hS
    replace hgA := hd hgA
    replace hgB := hd hgB
    replace hlA := hd hlA
    replace hlB := hd hlB
    generalize hva : a.of = vA at *
    generalize hna : a.name = nA at *
    generalize hnb : b.name = nB at *
    go_enter Try.func56, Try.ntmps56
    go_upto_region 1 with (fail)
    generalize (w.alloc (.cells #[.int .i64 vA, .string nA, .slice aA a.parts.length cA] 91)).alloc (.cells #[.int .i64 0, .string nB, .slice aB b.parts.length cB] 91) = W at *
    have x0 := hXa.out.1 0 _ rfl; have x1 := hXa.out.1 1 _ rfl; have x2 := hXa.out.1 2 _ rfl
    have y0 := hXb.out.1 0 _ rfl; have y1 := hXb.out.1 1 _ rfl; have y2 := hXb.out.1 2 _ rfl
    by_cases h1 : vA = 0
    · subst h1
      by_cases h2 : nA = nB
      · subst h2
        by_cases h3 : a.parts.length = b.parts.length
        · have h3I : (a.parts.length : Int) = (b.parts.length : Int) := by omega
          have h3b : ((a.parts.length : Int) != (b.parts.length : Int)) = false := by rw [bne_eq_false_iff_eq]; exact h3I
          have hrr := hd (hyes.out ⟨rfl, rfl, h3⟩)
          replace h3 := hd h3
          clear hno hyes
          go_wp2_with fail
          go_loopw [62] (fun i wr => ∃ k' : Nat, i = .int .i64 k' ∧ k' ≤ a.parts.length ∧ Hd ((insL (b.parts.take k') (a.parts.take k') env).1 = true) ∧ Hd (EnvS wr h k S (insL (b.parts.take k') (a.parts.take k') env).2) ∧ Hd (Kept2 W h k wr)) (fun i _ => a.parts.length - (intOf i).toNat)
          case atStart => exact ⟨0, rfl, Nat.zero_le _, by rw [List.take_zero, List.take_zero, insL_nil]; trivial, by rw [List.take_zero, List.take_zero, insL_nil]; exact hEW.out _ hbW.out, Kept2.of_below (Below.refl _ _)⟩
          case round =>
            obtain ⟨j, rfl, hj, hok, hEk, hgr⟩ := hrel
            obtain ⟨wo, rfl⟩ : ∃ wo : World, wo = wr := ⟨_, rfl⟩
            have hgw := hd ((Kept2.of_below hbW.out).trans hgr.out)
            by_cases hlt : j < a.parts.length
            · have hltI : (j : Int) < (a.parts.length : Int) := by omega
              have hltb : j < b.parts.length := by have := h3.out; omega
              have hltJ : (j : Int) < (b.parts.length : Int) := by omega
              have hkA : j < rwA.length := by have := hlA.out; omega
              have hkB : j < rwB.length := by have := hlB.out; omega
              obtain ⟨b1, rfl, hb1, hc1⟩ := hSA.at (j := j) hkA
              obtain ⟨b2, rfl, hb2, hc2⟩ := hSB.at (j := j) hkB
              have ws : SameS w wo S := hgw.out.same hS.out
              have rx := RepZ.same ws (fun _ h => h) _ _ (hgA.out j hlt hkA)
              have ry := RepZ.same ws (fun _ h => h) _ _ (hgB.out j hltb hkB)
              obtain ⟨aX, cX, rX, hrX, hj1⟩ := rx.openT
              obtain ⟨aY, cY, rY, hrY, hj2⟩ := ry.openT
              clear hj1 hj2
              have q1 := hc1 j hkA
              have q2 := hc2 j hkB
              rw [hrX] at q1 rx
              rw [hrY] at q2 ry
              have hxm := hqa.out _ (List.getElem_mem hlt)
              have hym := hqb.out _ (List.getElem_mem hltb)
              have hsz := hgw.out.size
              have ck := hd (fun (w' : World) (hw : Below wo.heap.size wo w') => ih.out b.parts[j] (List.getElem_mem hltb) a.parts[j] _ _ _ w' h k S (fun q h => ⟨Nat.lt_of_lt_of_le (hS.out q h).1 (Nat.le_trans hsz hw.size), (hS.out q h).2⟩) (Nat.lt_of_lt_of_le hh (Nat.le_trans hsz hw.size)) (Nat.lt_of_lt_of_le hk (Nat.le_trans hsz hw.size)) hxm.1 hym.1 hxm.2 hym.2 (hevk.out j)
                (RepZ.same (SameS.below hw (fun q h => Nat.lt_of_lt_of_le (hS.out q h).1 hsz)) (fun _ h => h) _ _ rx) (RepZ.same (SameS.below hw (fun q h => Nat.lt_of_lt_of_le (hS.out q h).1 hsz)) (fun _ h => h) _ _ ry) (hEk.out.kept hw (fun q h => Nat.lt_of_lt_of_le (hS.out q h).1 hsz)))
              have htk := insL_take (ps := b.parts) (xs := a.parts) hltb hlt env
              rw [if_pos hok.out] at htk
              have hstop := hd (fun (h : (insL (b.parts.take (j + 1)) (a.parts.take (j + 1)) env).1 = false) => (show r.1 = false from by
                have h4 := insL_stop h3.out.symm h (b.parts.length - (j + 1)) (by omega)
                rw [show j + 1 + (b.parts.length - (j + 1)) = b.parts.length by omega, List.take_of_length_le (Nat.le_refl _), List.take_of_length_le (by rw [h3.out]; exact Nat.le_refl _)] at h4
                rw [hrr.out]; exact h4))
              have d0 := (ws b1 hb1 (j * 3)).trans (q1 0 _ rfl)
              have d1 := (ws b1 hb1 _).trans (q1 1 _ rfl)
              have d2 := (ws b1 hb1 _).trans (q1 2 _ rfl)
              have e0 := (ws b2 hb2 (j * 3)).trans (q2 0 _ rfl)
              have e1 := (ws b2 hb2 _).trans (q2 1 _ rfl)
              have e2 := (ws b2 hb2 _).trans (q2 2 _ rfl)
              have xx := hgr.out.cell x2 hsep.out.1 hsep.out.2.1
              have yy := hgr.out.cell y2 hsep.out.2.2.1 hsep.out.2.2.2
              obtain ⟨s1, s2, s3, s4⟩ := hsep.out
              obtain ⟨-, s5, s6⟩ := hS.out _ hb1
              obtain ⟨-, s7, s8⟩ := hS.out _ hb2
              clear hc1 hc2 q1 q2 hrX hrY rx ry hxm hym x0 x1 x2 y0 y1 y2
              generalize a.parts[j] = X at *
              generalize b.parts[j] = Y at *
              generalize insK Y X (insL (b.parts.take j) (a.parts.take j) env).2 = rk at *
              obtain ⟨gk, ek⟩ := rk
              replace htk := hd htk
              go_wp2_with fail
              go_region_held3 (fun w' => w'.cell? ⟨w.heap.size, 2, none⟩ = some (.slice (some ⟨b1, 0, none⟩) a.parts.length cA) ∧ w'.cell? ⟨w.heap.size + 1, 2, none⟩ = some (.slice (some ⟨b2, 0, none⟩) b.parts.length cB) ∧ w'.cell? ⟨b1, j * 3, none⟩ = some (.int .i64 X.of) ∧ w'.cell? ⟨b1, j * 3 + 1, none⟩ = some (.string X.name) ∧ w'.cell? ⟨b1, j * 3 + 2, none⟩ = some (.slice aX X.parts.length cX) ∧ w'.cell? ⟨b2, j * 3, none⟩ = some (.int .i64 Y.of) ∧ w'.cell? ⟨b2, j * 3 + 1, none⟩ = some (.string Y.name) ∧ w'.cell? ⟨b2, j * 3 + 2, none⟩ = some (.slice aY Y.parts.length cY))
                (first | go_keep | (go_split_ands; (repeat' apply And.intro) <;> first | exact hg6.cell (by assumption) s1 s2 | exact hg6.cell (by assumption) s3 s4 | exact hg6.cell (by assumption) s5 s6 | exact hg6.cell (by assumption) s7 s8))
                ((go_at_call 56; refine (ck.out _ (by first | exact (Below.refl _ _).drew | exact (Below.refl _ _))).mono ?_; intro e w6 hp6; obtain ⟨rfl, hE6, hg6⟩ := hp6))
              all_goals
                have hgr6 := hd (hgr.out.trans ((Kept2.of_below (Below.refl _ _).drew).trans hg6))
                cases gk with
                | true =>
                  have hE7 := hd (hE6 rfl)
                  clear hE6 hg6 s1 s2 s3 s4 s5 s6 s7 s8
                  go_wp2_with fail
                  go_roundw
                  case rel => exact ⟨j + 1, by go_num, by omega, by rw [htk.out]; trivial, by rw [htk.out]; exact hE7.out, hgr6⟩
                  case measure => simp [intOf]; omega
                | false =>
                  have hr1 := hd (hstop.out (by rw [htk.out]))
                  have hgw6 := hd ((Kept2.of_below hbW.out).trans hgr6.out)
                  clear hE6 hg6 s1 s2 s3 s4 s5 s6 s7 s8
                  go_wp2_with fail
                  go_ret
                  exact ⟨(by rw [hr1.out] <;> rfl), (fun e => by rw [hr1.out] at e; cases e), hgw6.out⟩
            · obtain rfl : j = a.parts.length := by omega
              have hltI : ¬ (a.parts.length : Int) < (a.parts.length : Int) := by omega
              have hfu : r = insL (b.parts.take a.parts.length) (a.parts.take a.parts.length) env := by
                rw [hrr.out, List.take_of_length_le (Nat.le_refl _), List.take_of_length_le (by rw [h3.out]; exact Nat.le_refl _)]
              have hrf := hd hfu
              clear hfu
              go_wp2_with fail
              go_ret
              exact ⟨(by rw [hrf.out, hok.out] <;> rfl), (fun _ => by rw [hrf.out]; exact hEk.out), hgw.out⟩
        · have h3b : ((a.parts.length : Int) != (b.parts.length : Int)) = true := by rw [bne_iff_ne]; omega
          have hgf := hd (hno.out (fun h => h3 h.2.2))
          go_wp2_with fail
          go_ret
          exact hgf.out _ hbW.out
      · have h2b : ¬ nA.toList = nB.toList := fun e => h2 (ByteArray.ext (Array.toList_inj.1 (by rw [← ByteArray.toList_eq, ← ByteArray.toList_eq]; exact e)))
        have hgf := hd (hno.out (fun h => h2 h.2.1))
        go_wp2_with fail
        go_ret
        exact hgf.out _ hbW.out
    · have h1b : (vA != 0) = true := by simpa using h1
      have hgf := hd (hno.out (fun h => h1 h.1))
      go_wp2_with fail
      go_ret
      exact hgf.out _ hbW.out
end Go.Proofs.Ytbjilpemckoioaa

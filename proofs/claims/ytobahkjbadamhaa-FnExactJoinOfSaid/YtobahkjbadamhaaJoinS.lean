/- What two types have in common as types: l2Join of the reference. -/
import Derived.Test.YtobahkjbadamhaaPutKid
import Derived.Deep.CutRange
import Derived.Deep.Cut
namespace Go.Proofs.Ytobahkjbadamhaa
open Go.RowKit
set_option linter.unusedVariables false
set_option maxRecDepth 100000
set_option maxHeartbeats 800000 in
theorem shell_s (o : Int) (nm : ByteArray) (no : Int) (mu : Bool) (mo : Int) (a : Option Addr) (n c : Nat) (w : World) :
    Calls Try.prog 103 #[.agg #[.int .i64 o, .string nm, .int .i64 no, .bool mu, .int .i64 mo, .slice a n c]] w (fun e w' => e = .returned (.agg #[.int .i64 o, .string nm, .int .i64 no, .bool mu, .int .i64 mo, .slice none 0 0]) ∧ Below w.heap.size w w') := by
  have hX := hd (show BoxN ((w.alloc (.cells #[.int .i64 o, .string nm, .int .i64 no, .bool mu, .int .i64 mo, .slice a n c] 74)).alloc (.cells #[.int .i64 0, .string ⟨#[]⟩, .int .i64 0, .bool false, .int .i64 0, .slice none 0 0] 74)) w.heap.size [.int .i64 o, .string nm, .int .i64 no, .bool mu, .int .i64 mo, .slice a n c] from (BoxN.new w _ _).below (below_a1 _))
  have hR := hd (show BoxN ((w.alloc (.cells #[.int .i64 o, .string nm, .int .i64 no, .bool mu, .int .i64 mo, .slice a n c] 74)).alloc (.cells #[.int .i64 0, .string ⟨#[]⟩, .int .i64 0, .bool false, .int .i64 0, .slice none 0 0] 74)) (w.heap.size + 1) [.int .i64 0, .string ⟨#[]⟩, .int .i64 0, .bool false, .int .i64 0, .slice none 0 0] from by
    have := BoxN.new (w.alloc (.cells #[.int .i64 o, .string nm, .int .i64 no, .bool mu, .int .i64 mo, .slice a n c] 74)) [.int .i64 0, .string ⟨#[]⟩, .int .i64 0, .bool false, .int .i64 0, .slice none 0 0] 74
    rwa [World.size_alloc] at this)
  have hb := hd (below_a2 w (a := .cells #[.int .i64 o, .string nm, .int .i64 no, .bool mu, .int .i64 mo, .slice a n c] 74) (b := .cells #[.int .i64 0, .string ⟨#[]⟩, .int .i64 0, .bool false, .int .i64 0, .slice none 0 0] 74))
  go_enter Try.func103, Try.ntmps103
  go_upto_region 1 with (fail)
  generalize (w.alloc (.cells #[.int .i64 o, .string nm, .int .i64 no, .bool mu, .int .i64 mo, .slice a n c] 74)).alloc (.cells #[.int .i64 0, .string ⟨#[]⟩, .int .i64 0, .bool false, .int .i64 0, .slice none 0 0] 74) = W at *
  have x5 := hX.out.1 5 _ rfl
  have f5 := hX.out.2.1 5
  have hX7 := hd (hX.out.set (i := 5) (by simp) (.slice none 0 0))
  have hg7 := hd (grownBy_setCell W ⟨w.heap.size, 5, none⟩ (.slice none 0 0))
  have hR7 := hd (hR.out.grown hg7.out (fun e => by have : w.heap.size + 1 = w.heap.size := Option.some.inj e; omega))
  have y0 := hX7.out.1 0 _ rfl; have y1 := hX7.out.1 1 _ rfl; have y2 := hX7.out.1 2 _ rfl; have y3 := hX7.out.1 3 _ rfl; have y4 := hX7.out.1 4 _ rfl; have y5 := hX7.out.1 5 _ rfl
  have z0 := hR7.out.1 0 _ rfl; have rz0 := hR7.out.2.1 0; have z1 := hR7.out.1 1 _ rfl; have rz1 := hR7.out.2.1 1; have z2 := hR7.out.1 2 _ rfl; have rz2 := hR7.out.2.1 2; have z3 := hR7.out.1 3 _ rfl; have rz3 := hR7.out.2.1 3; have z4 := hR7.out.1 4 _ rfl; have rz4 := hR7.out.2.1 4; have z5 := hR7.out.1 5 _ rfl; have rz5 := hR7.out.2.1 5
  have hg8 := hd (grownBy_setCells (w.heap.size + 1) [.int .i64 o, .string nm, .int .i64 no, .bool mu, .int .i64 mo, .slice none 0 0] (W.setCell ⟨w.heap.size, 5, none⟩ (.slice none 0 0)) 0)
  have hb8 := hd (show Below w.heap.size w _ from (hb.out.grown hg7.out hb.out.size (fun g e => by cases e; exact Nat.le_refl _)).grown hg8.out (Nat.le_trans hb.out.size hg7.out.size) (fun g e => by cases e; omega))
  go_wp2_with fail
  refine bodyPost_ret (v := .agg #[.int .i64 o, .string nm, .int .i64 no, .bool mu, .int .i64 mo, .slice none 0 0]) (by simp [results, Try.results103, go_sem, z0, z1, z2, z3, z4, z5]) rfl ⟨rfl, hb8.out⟩
def JsPost : Option K → World → Ending → World → Prop
  | some t => fun w e w' => ∃ r : List Value, e = .returned (.tuple #[.agg r.toArray, .bool true]) ∧ RepT w' w.heap.size w'.heap.size t r ∧ Below w.heap.size w w'
  | none => fun w e w' => ∃ (o : Int) (nm : ByteArray) (no : Int) (mu : Bool) (mo : Int) (a : Option Addr) (n c : Nat), e = .returned (.tuple #[.agg #[.int .i64 o, .string nm, .int .i64 no, .bool mu, .int .i64 mo, .slice a n c], .bool false]) ∧ Below w.heap.size w w'
theorem JsPost.open {J : Option K} {w w' : World} {e : Ending} (h : JsPost J w e w') : ∃ (o : Int) (nm : ByteArray) (no : Int) (mu : Bool) (mo : Int) (a : Option Addr) (n c : Nat), e = .returned (.tuple #[.agg #[.int .i64 o, .string nm, .int .i64 no, .bool mu, .int .i64 mo, .slice a n c], .bool J.isSome]) ∧ (∀ p, J = some p → RepT w' w.heap.size w'.heap.size p [.int .i64 o, .string nm, .int .i64 no, .bool mu, .int .i64 mo, .slice a n c]) ∧ Below w.heap.size w w' := by
  cases J with
  | none =>
    obtain ⟨o, nm, no, mu, mo, a, n, c, rfl, hb⟩ := h
    exact ⟨o, nm, no, mu, mo, a, n, c, rfl, (fun p e => by cases e), hb⟩
  | some t =>
    obtain ⟨r, rfl, hr, hb⟩ := h
    obtain ⟨a, c, rows, rfl, _⟩ := hr.open
    exact ⟨_, _, _, _, _, _, _, _, rfl, (fun p e => by cases e; exact hr), hb⟩
/-- What lies in a block of its own after a call: the cells that were handed back. -/
def JcPost (J : Option K) (w wy : World) (b : Nat) : Prop := ∃ (o : Int) (nm : ByteArray) (no : Int) (mu : Bool) (mo : Int) (a : Option Addr) (n c : Nat), w.heap.size ≤ b ∧ BoxN wy b [.int .i64 o, .string nm, .int .i64 no, .bool mu, .int .i64 mo, .slice a n c] ∧ Below w.heap.size w wy ∧ ∀ p, J = some p → RepT wy w.heap.size wy.heap.size p [.int .i64 o, .string nm, .int .i64 no, .bool mu, .int .i64 mo, .slice a n c]
theorem JcPost.new {J : Option K} {w w1 w5 : World} {o : Int} {nm : ByteArray} {no : Int} {mu : Bool} {mo : Int} {a : Option Addr} {n c : Nat} {E : TypeId} (h1 : Below w.heap.size w w1) (hb : Below w1.heap.size w1 w5) (hr : ∀ p, J = some p → RepT w5 w1.heap.size w5.heap.size p [.int .i64 o, .string nm, .int .i64 no, .bool mu, .int .i64 mo, .slice a n c]) :
    JcPost J w (w5.alloc (.cells #[.int .i64 o, .string nm, .int .i64 no, .bool mu, .int .i64 mo, .slice a n c] E)) w5.heap.size :=
  ⟨o, nm, no, mu, mo, a, n, c, Nat.le_trans h1.size hb.size, BoxN.new w5 _ _, (h1.next hb).next (below_a1 _), fun p e => RepT.same (Same.below (below_a1 w5) (Nat.le_refl _)) h1.size (below_a1 w5).size _ _ (hr p e)⟩
theorem JcPost.old {J : Option K} {w w1 w5 : World} {b : Nat} {cs : List Value} {o : Int} {nm : ByteArray} {no : Int} {mu : Bool} {mo : Int} {a : Option Addr} {n c : Nat} (h1 : Below w.heap.size w w1) (hX : BoxN w1 b cs) (hw : w.heap.size ≤ b) (hb : Below w1.heap.size w1 w5) (hr : ∀ p, J = some p → RepT w5 w1.heap.size w5.heap.size p [.int .i64 o, .string nm, .int .i64 no, .bool mu, .int .i64 mo, .slice a n c]) (hcs : cs.length = 6) :
    JcPost J w (setCells w5 b 0 [.int .i64 o, .string nm, .int .i64 no, .bool mu, .int .i64 mo, .slice a n c]) b := by
  have hg := grownBy_setCells b [.int .i64 o, .string nm, .int .i64 no, .bool mu, .int .i64 mo, .slice a n c] w5 0
  have hX5 := hX.below hb
  refine ⟨o, nm, no, mu, mo, a, n, c, hw, ?_, (h1.next hb).grown hg (Nat.le_trans h1.size hb.size) (fun g e => by cases e; exact hw), fun p e => RepT.same (Same.grown hg (Nat.le_refl _) (fun g e => by cases e; left; exact hX.2.2)) h1.size hg.size _ _ (hr p e)⟩
  obtain ⟨c0, c1, c2, c3, c4, c5, rfl⟩ : ∃ c0 c1 c2 c3 c4 c5, cs = [c0, c1, c2, c3, c4, c5] := by
    match cs, hcs with
    | [c0, c1, c2, c3, c4, c5], _ => exact ⟨_, _, _, _, _, _, rfl⟩
  have := (((((hX5.set (i := 0) (by simp) (.int .i64 o)).set (i := 1) (by simp) (.string nm)).set (i := 2) (by simp) (.int .i64 no)).set (i := 3) (by simp) (.bool mu)).set (i := 4) (by simp) (.int .i64 mo)).set (i := 5) (by simp) (.slice a n c)
  exact this
theorem alloc_back {w : World} {o : Obj} {a k : Nat} {u : Value} (h : (w.alloc o).cell? ⟨a, k, none⟩ = some u) (ha : a < w.heap.size) : w.cell? ⟨a, k, none⟩ = some u := by
  rw [(below_a1 w).cell ha] at h; exact h
theorem alloc_swapK {w : World} {o p : Obj} {a k : Nat} {u : Value} (h : (w.alloc o).cell? ⟨a, k, none⟩ = some u) (ha : a < w.heap.size) : (w.alloc p).cell? ⟨a, k, none⟩ = some u := by
  rw [(below_a1 w).cell ha] at h ⊢; exact h
theorem keepSetK {w : World} {a k b o : Nat} {u v : Value} (h : w.cell? ⟨a, k, none⟩ = some u) (hne : a ≠ b) : (w.setCell ⟨b, o, none⟩ v).cell? ⟨a, k, none⟩ = some u :=
  (grownBy_setCell w ⟨b, o, none⟩ v).cell h (by simpa using hne)
/-- The order of the parts that two types have in common. -/
theorem join_ahead {ta tb z : K} {j : Nat} (hr : rightK ta) (hj : j < ta.parts.length) (hz : joinStep tb ta.parts[j] = [z]) : ∀ p ∈ joinL (ta.parts.take j) tb, p.no < z.no := by
  have hp : ta.parts.Pairwise aheadK := by
    rcases hr.ok.1 with ⟨_, _, g⟩ | ⟨_, _, g⟩ | ⟨_, _, g⟩ | ⟨_, _, g⟩
    · rw [g]; exact .nil
    · rw [g]; exact .nil
    · obtain ⟨x, hx⟩ := List.length_eq_one_iff.1 g
      rw [hx]; exact List.pairwise_singleton _ _
    · exact rising_pw.1 g
  have h1 := joinL_pw tb (ta.parts.take (j + 1)) (hp.sublist (List.take_sublist _ _))
  rw [joinL_take hj, hz, List.pairwise_append] at h1
  exact fun p hp => (h1.2.2 p hp z (by simp)).2
theorem s1_alloc {W w' : World} {x : Obj} (h : W.heap.size ≤ w'.heap.size ∧ ∀ b o, b < W.heap.size → w'.cell? ⟨b, o, none⟩ = W.cell? ⟨b, o, none⟩) : W.heap.size ≤ (w'.alloc x).heap.size ∧ ∀ b o, b < W.heap.size → (w'.alloc x).cell? ⟨b, o, none⟩ = W.cell? ⟨b, o, none⟩ :=
  ⟨Nat.le_trans h.1 (below_a1 w').size, fun b o hb => by rw [(below_a1 w').cell (p := ⟨b, o, none⟩) (by show b < _; have := h.1; omega)]; exact h.2 b o hb⟩
theorem s1_next {W w' w2 : World} (h : W.heap.size ≤ w'.heap.size ∧ ∀ b o, b < W.heap.size → w'.cell? ⟨b, o, none⟩ = W.cell? ⟨b, o, none⟩) (hn : Below w'.heap.size w' w2) : W.heap.size ≤ w2.heap.size ∧ ∀ b o, b < W.heap.size → w2.cell? ⟨b, o, none⟩ = W.cell? ⟨b, o, none⟩ :=
  ⟨Nat.le_trans h.1 hn.size, fun b o hb => by rw [hn.cell (p := ⟨b, o, none⟩) (by show b < _; have := h.1; omega)]; exact h.2 b o hb⟩
theorem s1_set {W w' : World} {c k : Nat} {u : Value} (h : W.heap.size ≤ w'.heap.size ∧ ∀ b o, b < W.heap.size → w'.cell? ⟨b, o, none⟩ = W.cell? ⟨b, o, none⟩) (hc : W.heap.size ≤ c) : W.heap.size ≤ (w'.setCell ⟨c, k, none⟩ u).heap.size ∧ ∀ b o, b < W.heap.size → (w'.setCell ⟨c, k, none⟩ u).cell? ⟨b, o, none⟩ = W.cell? ⟨b, o, none⟩ :=
  ⟨Nat.le_trans h.1 (grownBy_setCell w' ⟨c, k, none⟩ u).size, fun b o hb => by rw [World.cell?_setCell_other _ _ _ _ (by intro e; cases e; omega)]; exact h.2 b o hb⟩
theorem BoxN.sets {w : World} {b : Nat} {c0 c1 c2 c3 c4 c5 v0 v1 v2 v3 v4 v5 : Value} (h : BoxN w b [c0, c1, c2, c3, c4, c5]) : BoxN (setCells w b 0 [v0, v1, v2, v3, v4, v5]) b [v0, v1, v2, v3, v4, v5] := by
  have := (((((h.set (i := 0) (by simp) v0).set (i := 1) (by simp) v1).set (i := 2) (by simp) v2).set (i := 3) (by simp) v3).set (i := 4) (by simp) v4).set (i := 5) (by simp) v5
  exact this
theorem RepT.store1 {w5 : World} {bO L c : Nat} {p : K} {r : List Value} {E : TypeId} {V : Value} (o : Int) (nm : ByteArray) (no : Int) (mu : Bool) (mo : Int) (hL : bO < L) (hL5 : L ≤ w5.heap.size) (hr : RepT w5 L w5.heap.size p r) :
    RepT ((w5.alloc (.cells r.toArray E)).setCell ⟨bO, 5, none⟩ V) L ((w5.alloc (.cells r.toArray E)).setCell ⟨bO, 5, none⟩ V).heap.size (.mk o nm no mu mo [p]) [.int .i64 o, .string nm, .int .i64 no, .bool mu, .int .i64 mo, .slice (some ⟨w5.heap.size, 0, none⟩) 1 c] := by
  have hg := grownBy_setCell (w5.alloc (.cells r.toArray E)) ⟨bO, 5, none⟩ V
  have hsz : w5.heap.size + 1 ≤ ((w5.alloc (.cells r.toArray E)).setCell ⟨bO, 5, none⟩ V).heap.size := Nat.le_trans (by simp) hg.size
  have hr1 := RepT.same (Same.below (below_a1 w5 (a := .cells r.toArray E)) (Nat.le_refl _)) (Nat.le_refl _) (Nat.le_refl _) p r hr
  have hr2 := RepT.same (lo' := L) (hi' := ((w5.alloc (.cells r.toArray E)).setCell ⟨bO, 5, none⟩ V).heap.size) (Same.grown hg (by simp) (fun g e => by cases e; left; exact hL)) (Nat.le_refl _) (by omega) p r hr1
  rw [RepT]
  refine ⟨_, [r], rfl, ⟨_, c, rfl, .inr ⟨w5.heap.size, rfl, ⟨hL5, by omega⟩, fun i q hq j u hu => ?_⟩⟩, RepTs.mk [p] [r] rfl (fun j h h' => ?_)⟩
  · have hi : i = 0 := by have := (List.getElem?_eq_some_iff.1 hq).1; simpa using this
    subst hi
    simp at hq
    subst hq
    rw [World.cell?_setCell_other _ _ _ _ (by intro e; have e2 := congrArg Addr.block e; dsimp only at e2; omega)]
    have := cells_new w5 r E j u (by simpa using hu)
    rw [addr_add] at this
    simpa using this
  · have hj : j = 0 := by simpa using h
    subst hj
    exact hr2
set_option maxHeartbeats 12800000 in
theorem join_s (a : K) : ∀ (b : K) (ra rb : List Value) (w : World) (la ha lb hb : Nat), ha ≤ w.heap.size → hb ≤ w.heap.size → countK a ≤ 1000000 → countK b ≤ 1000000 → rightK a → rightK b → RepT w la ha a ra → RepT w lb hb b rb →
    Calls Try.prog 62 #[.agg ra.toArray, .agg rb.toArray] w (JsPost (joinK a b) w) := by
  refine K.ind2 (P := fun a => ∀ (b : K) (ra rb : List Value) (w : World) (la ha lb hb : Nat), ha ≤ w.heap.size → hb ≤ w.heap.size → countK a ≤ 1000000 → countK b ≤ 1000000 → rightK a → rightK b → RepT w la ha a ra → RepT w lb hb b rb →
    Calls Try.prog 62 #[.agg ra.toArray, .agg rb.toArray] w (JsPost (joinK a b) w)) ?_ a
  intro ta ih tb ra rb w la ha lb hb hha hhb hca hcb hra hrb hA hB
  replace ih := hd ih
  obtain ⟨aA, cA, rwA, rfl, hSA, hlA, hgA⟩ := hA.open
  obtain ⟨aB, cB, rwB, rfl, hSB, hlB, hgB⟩ := hB.open
  have hz := hd (joinK_eq ta tb)
  have hpa := hd (fun p (hp : p ∈ ta.parts) => (show countK p ≤ 1000000 ∧ rightK p from ⟨by have h1 := count_part hp; have h2 := countK_eq ta; omega, right_part hra hp⟩))
  have hpb := hd (fun p (hp : p ∈ tb.parts) => (show countK p ≤ 1000000 ∧ rightK p from ⟨by have h1 := count_part hp; have h2 := countK_eq tb; omega, right_part hrb hp⟩))
  have hlla : ta.parts.length ≤ 1000000 := by have h1 := len_count ta.parts; have h2 := countK_eq ta; omega
  have hllb : tb.parts.length ≤ 1000000 := by have h1 := len_count tb.parts; have h2 := countK_eq tb; omega
  have hah := hd (fun j (hj : j < ta.parts.length) z (hz : joinStep tb ta.parts[j] = [z]) => join_ahead (tb := tb) hra hj hz)
  have hone := hd (fun h => right_one hra h)
  have honeb := hd (fun h => right_one hrb h)
  have hby := hd (fun no w' (hb' : Below w.heap.size w w') => by_s tb no aB cB rwB w' lb hb (Nat.le_trans hhb hb'.size) hllb (hSB.same (Same.below hb' hhb) (Nat.le_refl _) (Nat.le_refl _)) hlB (fun j h1 h2 => (hgB j h1 h2).below hhb hb'))
  replace hgA := hd hgA
  replace hgB := hd hgB
  clear hA hB hra hrb hca hcb
  have hmx := max_ite ta.most tb.most
  generalize joinK ta tb = z at *
  generalize ta.of = o at *
  generalize ta.name = nmA at *
  generalize ta.no = noA at *
  generalize ta.must = muA at *
  generalize ta.most = moA at *
  generalize tb.of = oB at *
  generalize tb.name = nmB at *
  generalize tb.no = noB at *
  generalize tb.must = muB at *
  generalize tb.most = moB at *
  generalize max moA moB = mo at *
  have hXa := hd (show BoxN (((w.alloc (.cells #[.int .i64 o, .string nmA, .int .i64 noA, .bool muA, .int .i64 moA, .slice aA ta.parts.length cA] 74)).alloc (.cells #[.int .i64 oB, .string nmB, .int .i64 noB, .bool muB, .int .i64 moB, .slice aB tb.parts.length cB] 74)).alloc (.cells #[.int .i64 0, .string ⟨#[]⟩, .int .i64 0, .bool false, .int .i64 0, .slice none 0 0] 74)) w.heap.size [.int .i64 o, .string nmA, .int .i64 noA, .bool muA, .int .i64 moA, .slice aA ta.parts.length cA] from (BoxN.new w _ _).below (below_a2 _))
  have hXb := hd (show BoxN (((w.alloc (.cells #[.int .i64 o, .string nmA, .int .i64 noA, .bool muA, .int .i64 moA, .slice aA ta.parts.length cA] 74)).alloc (.cells #[.int .i64 oB, .string nmB, .int .i64 noB, .bool muB, .int .i64 moB, .slice aB tb.parts.length cB] 74)).alloc (.cells #[.int .i64 0, .string ⟨#[]⟩, .int .i64 0, .bool false, .int .i64 0, .slice none 0 0] 74)) (w.heap.size + 1) [.int .i64 oB, .string nmB, .int .i64 noB, .bool muB, .int .i64 moB, .slice aB tb.parts.length cB] from by
    have := BoxN.new (w.alloc (.cells #[.int .i64 o, .string nmA, .int .i64 noA, .bool muA, .int .i64 moA, .slice aA ta.parts.length cA] 74)) [.int .i64 oB, .string nmB, .int .i64 noB, .bool muB, .int .i64 moB, .slice aB tb.parts.length cB] 74
    rw [World.size_alloc] at this
    exact this.below (below_a1 _))
  have hXr := hd (show BoxN (((w.alloc (.cells #[.int .i64 o, .string nmA, .int .i64 noA, .bool muA, .int .i64 moA, .slice aA ta.parts.length cA] 74)).alloc (.cells #[.int .i64 oB, .string nmB, .int .i64 noB, .bool muB, .int .i64 moB, .slice aB tb.parts.length cB] 74)).alloc (.cells #[.int .i64 0, .string ⟨#[]⟩, .int .i64 0, .bool false, .int .i64 0, .slice none 0 0] 74)) (w.heap.size + 1 + 1) [.int .i64 0, .string ⟨#[]⟩, .int .i64 0, .bool false, .int .i64 0, .slice none 0 0] from by
    have := BoxN.new ((w.alloc (.cells #[.int .i64 o, .string nmA, .int .i64 noA, .bool muA, .int .i64 moA, .slice aA ta.parts.length cA] 74)).alloc (.cells #[.int .i64 oB, .string nmB, .int .i64 noB, .bool muB, .int .i64 moB, .slice aB tb.parts.length cB] 74)) [.int .i64 0, .string ⟨#[]⟩, .int .i64 0, .bool false, .int .i64 0, .slice none 0 0] 74
    rw [World.size_alloc, World.size_alloc] at this
    exact this)
  have hszE := hd (show (((w.alloc (.cells #[.int .i64 o, .string nmA, .int .i64 noA, .bool muA, .int .i64 moA, .slice aA ta.parts.length cA] 74)).alloc (.cells #[.int .i64 oB, .string nmB, .int .i64 noB, .bool muB, .int .i64 moB, .slice aB tb.parts.length cB] 74)).alloc (.cells #[.int .i64 0, .string ⟨#[]⟩, .int .i64 0, .bool false, .int .i64 0, .slice none 0 0] 74)).heap.size = w.heap.size + 3 by simp)
  have hbW := hd (below_a3 w (a := .cells #[.int .i64 o, .string nmA, .int .i64 noA, .bool muA, .int .i64 moA, .slice aA ta.parts.length cA] 74) (b := .cells #[.int .i64 oB, .string nmB, .int .i64 noB, .bool muB, .int .i64 moB, .slice aB tb.parts.length cB] 74) (c := .cells #[.int .i64 0, .string ⟨#[]⟩, .int .i64 0, .bool false, .int .i64 0, .slice none 0 0] 74))
  obtain ⟨W, hW⟩ : ∃ W, W = ((w.alloc (.cells #[.int .i64 o, .string nmA, .int .i64 noA, .bool muA, .int .i64 moA, .slice aA ta.parts.length cA] 74)).alloc (.cells #[.int .i64 oB, .string nmB, .int .i64 noB, .bool muB, .int .i64 moB, .slice aB tb.parts.length cB] 74)).alloc (.cells #[.int .i64 0, .string ⟨#[]⟩, .int .i64 0, .bool false, .int .i64 0, .slice none 0 0] 74) := ⟨_, rfl⟩
  rw [← hW] at hXa hXb hXr hszE hbW
  replace hW := hd hW
  have x0 := hXa.out.1 0 _ rfl
  have y0 := hXb.out.1 0 _ rfl
  by_cases hof : o = oB
  · subst hof
    go_enter Try.func62, Try.ntmps62
    go_upto_region 1 with (fail)
    rw [← hW.out]
    clear hW x0 y0
    have x0 := hXa.out.1 0 _ rfl; have x1 := hXa.out.1 1 _ rfl; have x2 := hXa.out.1 2 _ rfl; have x3 := hXa.out.1 3 _ rfl; have x4 := hXa.out.1 4 _ rfl; have x5 := hXa.out.1 5 _ rfl
    have y0 := hXb.out.1 0 _ rfl; have y1 := hXb.out.1 1 _ rfl; have y2 := hXb.out.1 2 _ rfl; have y3 := hXb.out.1 3 _ rfl; have y4 := hXb.out.1 4 _ rfl; have y5 := hXb.out.1 5 _ rfl
    have csh := hd (fun w' => shell_s o nmA noA muA moA aA ta.parts.length cA w')
    go_wp2_with fail
    refine (csh.out _).mono ?_
    rintro e w3 ⟨rfl, hb3⟩
    have hXa3 := hd (hXa.out.below hb3)
    have hXb3 := hd (hXb.out.below hb3)
    have hXr3 := hd (hXr.out.below hb3)
    have hb3 := hd hb3
    have hal := below_a1 w3 (a := .cells #[.int .i64 o, .string nmA, .int .i64 noA, .bool muA, .int .i64 moA, .slice none 0 0] 74)
    have hXa4 := hd (hXa3.out.below hal)
    have hXb4 := hd (hXb3.out.below hal)
    have hXr4 := hd (hXr3.out.below hal)
    have hbW4 := hd ((hbW.out.next hb3.out).next hal)
    have hXo := hd (show BoxN (w3.alloc (.cells #[.int .i64 o, .string nmA, .int .i64 noA, .bool muA, .int .i64 moA, .slice none 0 0] 74)) w3.heap.size [.int .i64 o, .string nmA, .int .i64 noA, .bool muA, .int .i64 moA, .slice none 0 0] from BoxN.new w3 _ _)
    have hsz3 : w.heap.size + 3 ≤ w3.heap.size := by have := hb3.out.size; have := hszE.out; omega
    have hsz4 := hd (show (w3.alloc (.cells #[.int .i64 o, .string nmA, .int .i64 noA, .bool muA, .int .i64 moA, .slice none 0 0] 74)).heap.size = w3.heap.size + 1 by simp)
    go_upto_region 4 with (fail)
    generalize w3.alloc (.cells #[.int .i64 o, .string nmA, .int .i64 noA, .bool muA, .int .i64 moA, .slice none 0 0] 74) = W4 at *
    clear hal hXa3 hXb3 hXr3 hXa hXb hXr x0 x1 x2 x3 x4 x5 y0 y1 y2 y3 y4 y5
    have x3 := hXa4.out.1 3 _ rfl
    have y3 := hXb4.out.1 3 _ rfl
    have p3 := hXo.out.1 3 _ rfl
    have r3 := hXo.out.2.1 3
    go_cut [] from 23 to 29 (fun wy => Hd (BoxN wy w3.heap.size [.int .i64 o, .string nmA, .int .i64 noA, .bool (muA && muB), .int .i64 moA, .slice none 0 0]) ∧ Hd (W4.grownBy wy (some w3.heap.size)))
    case first =>
      have hS1 := hd (fun b => hXo.out.set (i := 3) (by simp) (.bool b))
      have hS2 := hd (fun b => grownBy_setCell W4 ⟨w3.heap.size, 3, none⟩ (.bool b))
      cases muA
      all_goals
        go_wp2_with fail
        go_meet
        exact ⟨hd (hS1.out _), hd (hS2.out _)⟩
    case rest =>
      obtain ⟨hXo5, hG5⟩ := hcut
      obtain ⟨W5, hW5⟩ : ∃ W5, W5 = wc := ⟨_, rfl⟩
      subst hW5
      have hmxh := hd hmx
      clear hmx x3 y3 p3 r3
      have hXb5 := hd (hXb4.out.grown hG5.out (fun e => by have : w.heap.size + 1 = w3.heap.size := Option.some.inj e; omega))
      have y4 := hXb5.out.1 4 _ rfl
      have p4 := hXo5.out.1 4 _ rfl
      have r4 := hXo5.out.2.1 4
      go_upto_if 34 with (fail)
      go_cut [] from 35 to 37 (fun wy => Hd (BoxN wy w3.heap.size [.int .i64 o, .string nmA, .int .i64 noA, .bool (muA && muB), .int .i64 mo, .slice none 0 0]) ∧ Hd (W4.grownBy wy (some w3.heap.size)))
      case first =>
        have hS1 := hd (hXo5.out.set (i := 4) (by simp) (.int .i64 moB))
        have hS2 := hd (grownBy_trans hG5.out (grownBy_setCell W5 ⟨w3.heap.size, 4, none⟩ (.int .i64 moB)) (.inl rfl))
        by_cases hm : moA < moB
        · have hmo := hd (show moB = mo by rw [← hmxh.out, if_pos hm])
          go_wp2_with fail
          go_meet
          rw [← hmo.out]
          exact ⟨hd hS1.out, hd hS2.out⟩
        · have hmo := hd (show moA = mo by rw [← hmxh.out, if_neg hm])
          have hm2 : moB ≤ moA := by omega
          go_wp2_with fail
          go_meet
          rw [← hmo.out]
          exact ⟨hd hXo5.out, hd hG5.out⟩
      case rest =>
        obtain ⟨hXo6, hG6⟩ := hcut
        obtain ⟨W6, hW6⟩ : ∃ W6, W6 = wc := ⟨_, rfl⟩
        subst hW6
        clear hXo5 hG5 hXb5 y4 p4 r4 hmxh hXo
        replace hz := hd (show z = if o = 4 then (joinH ta.parts tb).map (fun p => .mk o nmA noA (muA && muB) mo [p]) else some (.mk o nmA noA (muA && muB) mo (joinL ta.parts tb)) by rw [hz.out, if_pos trivial])
        generalize (muA && muB) = mu at *
        have hsz6 : w3.heap.size + 1 ≤ W6.heap.size := by have := hG6.out.size; have := hsz4.out; omega
        have hXa6 := hd (hXa4.out.grown hG6.out (fun e => by have : w.heap.size = w3.heap.size := Option.some.inj e; omega))
        have hXb6 := hd (hXb4.out.grown hG6.out (fun e => by have : w.heap.size + 1 = w3.heap.size := Option.some.inj e; omega))
        have hXr6 := hd (hXr4.out.grown hG6.out (fun e => by have : w.heap.size + 1 + 1 = w3.heap.size := Option.some.inj e; omega))
        have hbW6 := hd (hbW4.out.grown hG6.out hbW4.out.size (fun g e => by cases e; omega))
        clear hXa4 hXb4 hXr4 hbW4 hG6 hbW hszE hb3
        have x0 := hXa6.out.1 0 _ rfl
        by_cases h4 : o = 4
        · replace hz := hd (show z = (joinH ta.parts tb).map (fun p => .mk o nmA noA mu mo [p]) by rw [hz.out, if_pos h4])
          obtain ⟨xa, hxa⟩ := hone.out h4
          obtain ⟨yb, hyb⟩ := honeb.out h4
          replace hz := hd (show z = (joinK xa yb).map (fun p => .mk o nmA noA mu mo [p]) by rw [hz.out, hxa, joinH_one hyb])
          have h4b : (o == 4) = true := by simpa using h4
          obtain ⟨b1, rfl, hb1, hc1⟩ := hSA.at (j := 0) (by rw [hlA, hxa]; simp)
          obtain ⟨b2, rfl, hb2, hc2⟩ := hSB.at (j := 0) (by rw [hlB, hyb]; simp)
          have r1 := hgA.out 0 (by rw [hxa]; simp) (by rw [hlA, hxa]; simp)
          have r2 := hgB.out 0 (by rw [hyb]; simp) (by rw [hlB, hyb]; simp)
          have e1 : ta.parts[0]'(by rw [hxa]; simp) = xa := by simp [hxa]
          have e2 : tb.parts[0]'(by rw [hyb]; simp) = yb := by simp [hyb]
          rw [e1] at r1
          rw [e2] at r2
          obtain ⟨a3, c3, rows3, hr3, _⟩ := r1.open
          obtain ⟨a4, c4, rows4, hr4, _⟩ := r2.open
          have hca := hc1 0 (by rw [hlA, hxa]; simp)
          have hcb := hc2 0 (by rw [hlB, hyb]; simp)
          rw [hr3] at hca r1
          rw [hr4] at hcb r2
          have hi := hd (fun (w' : World) (hw : Below w.heap.size w w') => ih.out xa (by rw [hxa]; simp) yb _ _ w' la ha lb hb (Nat.le_trans hha hw.size) (Nat.le_trans hhb hw.size) (hpa.out xa (by rw [hxa]; simp)).1 (hpb.out yb (by rw [hyb]; simp)).1 (hpa.out xa (by rw [hxa]; simp)).2 (hpb.out yb (by rw [hyb]; simp)).2 (r1.below hha hw) (r2.below hhb hw))
          have d0 := keepCell hbW6.out (show w.cell? ⟨b1, 0, none⟩ = _ from by have := hca 0 _ rfl; simpa using this)
          have d1 := keepCell hbW6.out (show w.cell? ⟨b1, 1, none⟩ = _ from by have := hca 1 _ rfl; simpa using this)
          have d2 := keepCell hbW6.out (show w.cell? ⟨b1, 2, none⟩ = _ from by have := hca 2 _ rfl; simpa using this)
          have d3 := keepCell hbW6.out (show w.cell? ⟨b1, 3, none⟩ = _ from by have := hca 3 _ rfl; simpa using this)
          have d4 := keepCell hbW6.out (show w.cell? ⟨b1, 4, none⟩ = _ from by have := hca 4 _ rfl; simpa using this)
          have d5 := keepCell hbW6.out (show w.cell? ⟨b1, 5, none⟩ = _ from by have := hca 5 _ rfl; simpa using this)
          have e0 := keepCell hbW6.out (show w.cell? ⟨b2, 0, none⟩ = _ from by have := hcb 0 _ rfl; simpa using this)
          have e1' := keepCell hbW6.out (show w.cell? ⟨b2, 1, none⟩ = _ from by have := hcb 1 _ rfl; simpa using this)
          have e2' := keepCell hbW6.out (show w.cell? ⟨b2, 2, none⟩ = _ from by have := hcb 2 _ rfl; simpa using this)
          have e3 := keepCell hbW6.out (show w.cell? ⟨b2, 3, none⟩ = _ from by have := hcb 3 _ rfl; simpa using this)
          have e4 := keepCell hbW6.out (show w.cell? ⟨b2, 4, none⟩ = _ from by have := hcb 4 _ rfl; simpa using this)
          have e5 := keepCell hbW6.out (show w.cell? ⟨b2, 5, none⟩ = _ from by have := hcb 5 _ rfl; simpa using this)
          have x5 := hXa6.out.1 5 _ rfl
          have y5 := hXb6.out.1 5 _ rfl
          have hlA1 : (0 : Int) < (ta.parts.length : Int) := by rw [hxa]; simp
          have hlB1 : (0 : Int) < (tb.parts.length : Int) := by rw [hyb]; simp
          have hlA2 : 0 < ta.parts.length := by omega
          have hlB2 : 0 < tb.parts.length := by omega
          generalize joinK xa yb = J at *
          clear hca hcb hr3 hr4 r1 r2 e1 e2 hone honeb hby h4 hc1 hc2 hah hxa hyb
          go_upto_region 8 with (fail)
          go_cut [7, 8] from 41 to 52 (fun q d wy => ∃ b7 : Nat, q = .pointer (some ⟨b7, 0, none⟩) ∧ d = .bool J.isSome ∧ Hd (JcPost J W6 wy b7))
          case first =>
            have hl0 : w.heap.size < W6.heap.size := by have := hXa6.out.2.2; omega
            have hl1 : w.heap.size + 1 < W6.heap.size := by have := hXb6.out.2.2; omega
            have hl2 : b1 < W6.heap.size := by have := hbW6.out.size; omega
            have hl3 : b2 < W6.heap.size := by have := hbW6.out.size; omega
            have hal6 := below_a1 W6 (a := (.cells #[.int .i64 0, .string ⟨#[]⟩, .int .i64 0, .bool false, .int .i64 0, .slice none 0 0] 74))
            have d0a := keepCell hal6 d0
            have d1a := keepCell hal6 d1
            have d2a := keepCell hal6 d2
            have d3a := keepCell hal6 d3
            have d4a := keepCell hal6 d4
            have d5a := keepCell hal6 d5
            have e0a := keepCell hal6 e0
            have e1pa := keepCell hal6 e1'
            have e2pa := keepCell hal6 e2'
            have e3a := keepCell hal6 e3
            have e4a := keepCell hal6 e4
            have e5a := keepCell hal6 e5
            have x5a := keepCell hal6 x5
            have y5a := keepCell hal6 y5
            clear hal6 hlA hlB hha hhb hpa hpb ih hz hgA hgB hXa6 hXb6 hXr6 hXo6 hSA hSB hb1 hb2 hsz3 hsz4 hsz6 hlla hllb
            go_region_law (go_simp; go_at_call 62; (first
                | (refine (hi.out _ (by first | exact hbW6.out | exact hbW6.out.drew)).mono ?_; rintro e' w5 h5; obtain ⟨o', nm', no', mu', mo', a', n', c', rfl, hR5, hb50⟩ := h5.open; have hJ5 := hd (fun E => (show JcPost J W6 (w5.alloc (.cells #[.int .i64 o', .string nm', .int .i64 no', .bool mu', .int .i64 mo', .slice a' n' c'] E)) w5.heap.size from JcPost.new (w1 := W6) (by first | exact Below.refl _ _ | exact (Below.refl _ _).drew) (by first | exact hb50 | exact (Below.refl _ W6).drew.next hb50) (by first | exact hR5))); clear hb50 hR5 h5)
                | (refine (hi.out _ (by first | exact hbW6.out.next (below_a1 _) | exact (hbW6.out.next (below_a1 _)).drew | exact hbW6.out.drew.next (below_a1 _))).mono ?_; rintro e' w5 h5; obtain ⟨o', nm', no', mu', mo', a', n', c', rfl, hR5, hb50⟩ := h5.open; have hXz := hd (show BoxN w5 W6.heap.size [.int .i64 0, .string ⟨#[]⟩, .int .i64 0, .bool false, .int .i64 0, .slice none 0 0] from by first | exact (BoxN.new _ _ _).below hb50 | exact ((BoxN.new _ _ _).below (Below.refl _ _).drew).below hb50); have k0 := hXz.out.1 0 _ rfl; have rk0 := hXz.out.2.1 0; have k1 := hXz.out.1 1 _ rfl; have rk1 := hXz.out.2.1 1; have k2 := hXz.out.1 2 _ rfl; have rk2 := hXz.out.2.1 2; have k3 := hXz.out.1 3 _ rfl; have rk3 := hXz.out.2.1 3; have k4 := hXz.out.1 4 _ rfl; have rk4 := hXz.out.2.1 4; have k5 := hXz.out.1 5 _ rfl; have rk5 := hXz.out.2.1 5; have hJ5 := hd (show JcPost J W6 (setCells w5 W6.heap.size 0 [.int .i64 o', .string nm', .int .i64 no', .bool mu', .int .i64 mo', .slice a' n' c']) W6.heap.size from by first | exact JcPost.old (below_a1 _) (BoxN.new _ _ _) (Nat.le_refl _) hb50 hR5 rfl | exact JcPost.old (below_a1 _).drew ((BoxN.new _ _ _).below (Below.refl _ _).drew) (Nat.le_refl _) hb50 hR5 rfl | exact JcPost.old ((Below.refl _ _).drew.next (below_a1 _)) (BoxN.new _ _ _) (Nat.le_refl _) hb50 hR5 rfl); clear hb50 hR5 h5 hXz)))
            all_goals
              clear hi x5a y5a d0a d1a d2a d3a d4a d5a e0a e1pa e2pa e3a e4a e5a d0 d1 d2 d3 d4 d5 e0 e1' e2' e3 e4 e5 x5 y5 hl0 hl1 hl2 hl3
              go_wp2_with fail
              go_meet
              first
              | exact ⟨_, rfl, rfl, hd (hJ5.out _)⟩
              | exact ⟨_, rfl, rfl, hd hJ5.out⟩
          case rest =>
            obtain ⟨b7, rfl, rfl, hJc⟩ := hcut
            obtain ⟨W9, hW9⟩ : ∃ W9, W9 = wc := ⟨_, rfl⟩
            subst hW9
            obtain ⟨o', nm', no', mu', mo', a', n', c', hb7, hX7, hb9, hR9⟩ := hJc.out
            have hR9 := hd hR9
            have hXo9 := hd (hXo6.out.below hb9)
            have hXr9 := hd (hXr6.out.below hb9)
            have hbl9 := hd (hbW6.out.next hb9)
            have hsz9 := hd hb9.size
            replace hX7 := hd hX7
            have k0 := hX7.out.1 0 _ rfl; have k1 := hX7.out.1 1 _ rfl; have k2 := hX7.out.1 2 _ rfl; have k3 := hX7.out.1 3 _ rfl; have k4 := hX7.out.1 4 _ rfl; have k5 := hX7.out.1 5 _ rfl
            clear d0 d1 d2 d3 d4 d5 e0 e1' e2' e3 e4 e5 x0 x5 y5 hXa6 hXb6 hXr6 hXo6 hbW6 hb9 hJc ih hgA hgB hSA hSB hi hlA1 hlA2 hlB1 hlB2 hlA hlB hpa hpb csh
            have hal9 := below_a1 W9 (a := (.cells #[.int .i64 o', .string nm', .int .i64 no', .bool mu', .int .i64 mo', .slice a' n' c'] 74))
            have hXo10 := hd (hXo9.out.below hal9)
            have hXr10 := hd (hXr9.out.below hal9)
            have hbl10 := hd (hbl9.out.next hal9)
            have hXo11 := hd (hXo10.out.set (i := 5) (by simp) (.slice (some ⟨W9.heap.size, 0, none⟩) 1 1))
            have hg11 := hd (grownBy_setCell (W9.alloc (.cells #[.int .i64 o', .string nm', .int .i64 no', .bool mu', .int .i64 mo', .slice a' n' c'] 74)) ⟨w3.heap.size, 5, none⟩ (.slice (some ⟨W9.heap.size, 0, none⟩) 1 1))
            have hXr11 := hd (hXr10.out.grown hg11.out (fun e => by have : w.heap.size + 1 + 1 = w3.heap.size := Option.some.inj e; omega))
            have hbl11 := hd (hbl10.out.grown hg11.out hbl10.out.size (fun g e => by cases e; show w.heap.size ≤ w3.heap.size; omega))
            have hR11 := hd (fun p (e : J = some p) => (RepT.store1 (c := 1) (E := 74) (V := (.slice (some ⟨W9.heap.size, 0, none⟩) 1 1)) o nmA noA mu mo (show w3.heap.size < W6.heap.size by omega) hsz9.out (hR9.out p e)))
            have x5 := hXo10.out.1 5 _ rfl
            have r5 := hXo10.out.2.1 5
            clear hal9
            go_upto_region 10 with (fail)
            change Hd (∀ p, J = some p → RepT ((W9.alloc (.cells #[.int .i64 o', .string nm', .int .i64 no', .bool mu', .int .i64 mo', .slice a' n' c'] 74)).setCell ⟨w3.heap.size, 5, none⟩ (.slice (some ⟨W9.heap.size, 0, none⟩) 1 1)) _ ((W9.alloc (.cells #[.int .i64 o', .string nm', .int .i64 no', .bool mu', .int .i64 mo', .slice a' n' c'] 74)).setCell ⟨w3.heap.size, 5, none⟩ (.slice (some ⟨W9.heap.size, 0, none⟩) 1 1)).heap.size _ _) at hR11
            generalize (W9.alloc (.cells #[.int .i64 o', .string nm', .int .i64 no', .bool mu', .int .i64 mo', .slice a' n' c'] 74)).setCell ⟨w3.heap.size, 5, none⟩ (.slice (some ⟨W9.heap.size, 0, none⟩) 1 1) = W11 at *
            clear x5 r5 k0 k1 k2 k3 k4 k5 hg11 hXo10 hXr10 hbl10 hXo9 hXr9
            have p0 := hXo11.out.1 0 _ rfl; have p1 := hXo11.out.1 1 _ rfl; have p2 := hXo11.out.1 2 _ rfl; have p3 := hXo11.out.1 3 _ rfl; have p4 := hXo11.out.1 4 _ rfl; have p5 := hXo11.out.1 5 _ rfl
            have z0 := hXr11.out.1 0 _ rfl; have rz0 := hXr11.out.2.1 0; have z1 := hXr11.out.1 1 _ rfl; have rz1 := hXr11.out.2.1 1; have z2 := hXr11.out.1 2 _ rfl; have rz2 := hXr11.out.2.1 2; have z3 := hXr11.out.1 3 _ rfl; have rz3 := hXr11.out.2.1 3; have z4 := hXr11.out.1 4 _ rfl; have rz4 := hXr11.out.2.1 4; have z5 := hXr11.out.1 5 _ rfl; have rz5 := hXr11.out.2.1 5
            have hg12 := hd (grownBy_setCells (w.heap.size + 1 + 1) [.int .i64 o, .string nmA, .int .i64 noA, .bool mu, .int .i64 mo, .slice (some ⟨W9.heap.size, 0, none⟩) 1 1] W11 0)
            have hbl12 := hd (hbl11.out.grown hg12.out hbl11.out.size (fun g e => by cases e; omega))
            have hge := hd (show w.heap.size ≤ W6.heap.size by omega)
            go_wp2_with fail
            refine bodyPost_ret (v := .tuple #[.agg #[.int .i64 o, .string nmA, .int .i64 noA, .bool mu, .int .i64 mo, .slice (some ⟨W9.heap.size, 0, none⟩) 1 1], .bool J.isSome]) (by simp [results, Try.results62, go_sem, z0, z1, z2, z3, z4, z5]) rfl ?_
            rw [hz.out]
            cases J with
            | none => exact ⟨_, _, _, _, _, _, _, _, rfl, hbl12.out⟩
            | some p => exact ⟨_, rfl, RepT.same (Same.grown hg12.out (Nat.le_refl _) (fun g e => by cases e; left; omega)) hge.out hg12.out.size _ _ (hR11.out p rfl), hbl12.out⟩
        · replace hz := hd (show z = some (.mk o nmA noA mu mo (joinL ta.parts tb)) by rw [hz.out, if_neg h4])
          have h4b : (o == 4) = false := by simpa using h4
          have x5 := hXa6.out.1 5 _ rfl
          clear hone honeb h4
          go_wp2_with fail
          clear x0 x5
          go_loopw [61] (fun n wr => ∃ (j : Nat) (sa : Option Addr) (sn sc : Nat), n = .int .i64 j ∧ j ≤ ta.parts.length ∧ Hd (BoxN wr w3.heap.size [.int .i64 o, .string nmA, .int .i64 noA, .bool mu, .int .i64 mo, .slice sa sn sc]) ∧ Hd (BoxN wr (w.heap.size + 1) [.int .i64 o, .string nmB, .int .i64 noB, .bool muB, .int .i64 moB, .slice aB tb.parts.length cB]) ∧ Hd (BoxN wr (w.heap.size + 1 + 1) [.int .i64 0, .string ⟨#[]⟩, .int .i64 0, .bool false, .int .i64 0, .slice none 0 0]) ∧ Hd (KidsT wr W6.heap.size (joinL (ta.parts.take j) tb) (.slice sa sn sc)) ∧ Hd (joinL (ta.parts.take j) tb = [] → (Value.slice sa sn sc) = .slice none 0 0) ∧ Hd (Below w.heap.size w wr) ∧ Hd (W6.heap.size ≤ wr.heap.size)) (fun n _ => ta.parts.length - (intOf n).toNat)
          case atStart => exact ⟨0, none, 0, 0, rfl, Nat.zero_le _, hXo6.out, hXb6.out, hXr6.out, by rw [List.take_zero, joinL_nil]; exact KidsT.nil, fun _ => rfl, hbW6.out, Nat.le_refl _⟩
          case round =>
            obtain ⟨j, sa, sn, sc, rfl, hj, hXo, hXb, hXr, hKd, hnil, hbl, hszr⟩ := hrel
            obtain ⟨wo, rfl⟩ : ∃ wo : World, wo = wr := ⟨_, rfl⟩
            clear hXa6 hXb6 hXr6 hXo6
            by_cases hlt : j < ta.parts.length
            · have hltI : (j : Int) < (ta.parts.length : Int) := by omega
              have hkr : j < rwA.length := by omega
              obtain ⟨b1, rfl, hb1, hc1⟩ := hSA.at (j := j) hkr
              have rx := hgA.out j hlt hkr
              obtain ⟨aX, cX, rX, hrX, hjkX⟩ := rx.open
              clear hjkX
              have q2 := hc1 j hkr
              have htk := hd (joinL_take hlt tb)
              have hxm := List.getElem_mem hlt
              have hxp := hpa.out _ hxm
              have hstep0 := hd (fun (hn : noneP tb.parts ta.parts[j].no) => (show joinStep tb ta.parts[j] = [] by unfold joinStep; rw [find_none hn]))
              have hstep1 := hd (fun i (hf : firstP tb.parts ta.parts[j].no i) => (show joinStep tb ta.parts[j] = (joinK ta.parts[j] (tb.parts[i]'hf.1)).toList by unfold joinStep; rw [find_first hf]))
              have hahj := hd (hah.out j hlt)
              have ihx := hd (ih.out ta.parts[j] hxm)
              have hln : (joinL (ta.parts.take j) tb).length ≤ 1000000 := by have h2 := joinL_len tb (ta.parts.take j); rw [List.length_take] at h2; omega
              rw [hrX] at q2 rx
              clear hrX hxm hc1
              generalize joinL (ta.parts.take j) tb = pj at *
              generalize joinStep tb ta.parts[j] = st at *
              generalize hx : ta.parts[j] = x at *
              replace hx := hd hx
              have d0 := keepCell hbl.out (show w.cell? ⟨b1, j * 6, none⟩ = _ from q2 0 _ rfl)
              have d1 := keepCell hbl.out (q2 1 _ rfl)
              have d2 := keepCell hbl.out (q2 2 _ rfl)
              have d3 := keepCell hbl.out (q2 3 _ rfl)
              have d4 := keepCell hbl.out (q2 4 _ rfl)
              have d5 := keepCell hbl.out (q2 5 _ rfl)
              clear q2
              have hal := below_a1 wo (a := (.cells #[.int .i64 x.of, .string x.name, .int .i64 x.no, .bool x.must, .int .i64 x.most, .slice aX x.parts.length cX] 74))
              have hX := hd (show BoxN (wo.alloc (.cells #[.int .i64 x.of, .string x.name, .int .i64 x.no, .bool x.must, .int .i64 x.most, .slice aX x.parts.length cX] 74)) wo.heap.size [.int .i64 x.of, .string x.name, .int .i64 x.no, .bool x.must, .int .i64 x.most, .slice aX x.parts.length cX] from BoxN.new wo [.int .i64 x.of, .string x.name, .int .i64 x.no, .bool x.must, .int .i64 x.most, .slice aX x.parts.length cX] _)
              have hXo4 := hd (hXo.out.below hal)
              have hXb4 := hd (hXb.out.below hal)
              have hXr4 := hd (hXr.out.below hal)
              have hbl4 := hd (hbl.out.next hal)
              have hKd4 := hd (KidsT.below hKd.out (Same.below hal (Nat.le_refl _)) hal.size)
              have hsz4 := hd (Nat.le_trans hszr.out hal.size)
              clear hal
              go_upto_region 14 with (fail)
              clear d0 d1 d2 d3 d4 d5 hXo hXb hXr hKd hbl hszr
              generalize wo.alloc (.cells #[.int .i64 x.of, .string x.name, .int .i64 x.no, .bool x.must, .int .i64 x.most, .slice aX x.parts.length cX] 74) = W10 at *
              have s0 := hXb4.out.1 0 _ rfl; have s1 := hXb4.out.1 1 _ rfl; have s2 := hXb4.out.1 2 _ rfl; have s3 := hXb4.out.1 3 _ rfl; have s4 := hXb4.out.1 4 _ rfl; have s5 := hXb4.out.1 5 _ rfl
              have t2 := hX.out.1 2 _ rfl
              have cp := hd (hby.out x.no W10 hbl4.out)
              rcases first_or tb.parts x.no with ⟨i, hf⟩ | hn
              · have hi := hf.1
                have hiv : i < rwB.length := by omega
                have ry := hgB.out i hi hiv
                obtain ⟨aY, cY, rY, hrY, hjkY⟩ := ry.open
                clear hjkY
                have hyp := hpb.out tb.parts[i] (List.getElem_mem hi)
                have hst := hd (hstep1.out i hf)
                rw [hrY] at ry
                have hi2 := hd (fun (w' : World) (hw : Below w.heap.size w w') => ihx.out tb.parts[i] _ _ w' la ha lb hb (Nat.le_trans hha hw.size) (Nat.le_trans hhb hw.size) hxp.1 hyp.1 hxp.2 hyp.2 (rx.below hha hw) (ry.below hhb hw))
                have hrY := hd hrY
                have hf := hd hf
                clear ry rx hyp hstep0 hstep1
                generalize hyy : tb.parts[i] = y at *
                replace hyy := hd hyy
                generalize joinK x y = J at *
                go_wp2_with fail
                refine cp.out.mono ?_
                rintro e w6 ⟨hp1, _, hb6⟩
                obtain ⟨_, rfl⟩ := hp1 i hf.out
                rw [hrY.out]
                have hal := below_a1 w6 (a := (.cells #[.int .i64 y.of, .string y.name, .int .i64 y.no, .bool y.must, .int .i64 y.most, .slice aY y.parts.length cY] 74))
                have hbb := hd (hb6.next hal)
                have hY7 := hd (show BoxN (w6.alloc (.cells #[.int .i64 y.of, .string y.name, .int .i64 y.no, .bool y.must, .int .i64 y.most, .slice aY y.parts.length cY] 74)) w6.heap.size [.int .i64 y.of, .string y.name, .int .i64 y.no, .bool y.must, .int .i64 y.most, .slice aY y.parts.length cY] from BoxN.new w6 [.int .i64 y.of, .string y.name, .int .i64 y.no, .bool y.must, .int .i64 y.most, .slice aY y.parts.length cY] _)
                have hX7 := hd (hX.out.below hbb.out)
                have hXo7 := hd (hXo4.out.below hbb.out)
                have hXb7 := hd (hXb4.out.below hbb.out)
                have hXr7 := hd (hXr4.out.below hbb.out)
                have hbl7 := hd (hbl4.out.next hbb.out)
                have hKd7 := hd (KidsT.below hKd4.out (Same.below hbb.out (Nat.le_refl _)) hbb.out.size)
                have hsz7 := hd (Nat.le_trans hsz4.out hbb.out.size)
                clear hal hb6 hp1 hbb hX hXo4 hXb4 hXr4 hbl4 hKd4 hsz4 s0 s1 s2 s3 s4 s5 t2 hyy hrY hf
                go_upto_region 16 with (fail)
                generalize w6.alloc (.cells #[.int .i64 y.of, .string y.name, .int .i64 y.no, .bool y.must, .int .i64 y.most, .slice aY y.parts.length cY] 74) = W7 at *
                have t0 := hX7.out.1 0 _ rfl; have t1 := hX7.out.1 1 _ rfl; have t2 := hX7.out.1 2 _ rfl; have t3 := hX7.out.1 3 _ rfl; have t4 := hX7.out.1 4 _ rfl; have t5 := hX7.out.1 5 _ rfl
                have u0 := hY7.out.1 0 _ rfl; have u1 := hY7.out.1 1 _ rfl; have u2 := hY7.out.1 2 _ rfl; have u3 := hY7.out.1 3 _ rfl; have u4 := hY7.out.1 4 _ rfl; have u5 := hY7.out.1 5 _ rfl
                go_wp2_with fail
                refine (hi2.out W7 hbl7.out).mono ?_
                rintro e w8 h8
                obtain ⟨o', nm', no', mu', mo', a', n', c', rfl, hR8, hb8⟩ := h8.open
                have hal := below_a1 w8 (a := (.cells #[.int .i64 o', .string nm', .int .i64 no', .bool mu', .int .i64 mo', .slice a' n' c'] 74))
                have hbb := hd (hb8.next hal)
                have hZ8 := hd (show BoxN (w8.alloc (.cells #[.int .i64 o', .string nm', .int .i64 no', .bool mu', .int .i64 mo', .slice a' n' c'] 74)) w8.heap.size [.int .i64 o', .string nm', .int .i64 no', .bool mu', .int .i64 mo', .slice a' n' c'] from BoxN.new w8 [.int .i64 o', .string nm', .int .i64 no', .bool mu', .int .i64 mo', .slice a' n' c'] _)
                have hXo8 := hd (hXo7.out.below hbb.out)
                have hXb8 := hd (hXb7.out.below hbb.out)
                have hXr8 := hd (hXr7.out.below hbb.out)
                have hbl8 := hd (hbl7.out.next hbb.out)
                have hKd8 := hd (KidsT.below hKd7.out (Same.below hbb.out (Nat.le_refl _)) hbb.out.size)
                have hsz8 := hd (Nat.le_trans hsz7.out hbb.out.size)
                have hR9 := hd (fun p (e : J = some p) => (show RepT (w8.alloc (.cells #[.int .i64 o', .string nm', .int .i64 no', .bool mu', .int .i64 mo', .slice a' n' c'] 74)) W6.heap.size (w8.alloc (.cells #[.int .i64 o', .string nm', .int .i64 no', .bool mu', .int .i64 mo', .slice a' n' c'] 74)).heap.size p [.int .i64 o', .string nm', .int .i64 no', .bool mu', .int .i64 mo', .slice a' n' c'] from RepT.same (Same.below hal (Nat.le_refl _)) hsz7.out hal.size _ _ (hR8 p e)))
                clear hal hbb h8 hR8 hb8 hXo7 hXb7 hXr7 hbl7 hKd7 hsz7 t0 t1 t2 t3 t4 t5 u0 u1 u2 u3 u4 u5 hX7 hY7 hi2
                cases J with
                | none =>
                  go_wp2_with fail
                  go_roundw
                  case rel => exact ⟨j + 1, sa, sn, sc, by go_num, by omega, hXo8, hXb8, hXr8, by rw [htk.out, hst.out, Option.toList, List.append_nil]; exact hKd8, by rw [htk.out, hst.out, Option.toList, List.append_nil]; exact hnil, hbl8, hsz8⟩
                  case measure => simp [intOf]; omega
                | some zz =>
                  have hst2 := hd (show st = [zz] from hst.out)
                  have ck := hd (putkid_s pj zz o nmA noA mu mo (.slice sa sn sc) _ _ W6.heap.size hsz8.out hln (hahj.out zz hst2.out) hKd8.out hnil.out (hR9.out zz rfl))
                  go_upto_region 18 with (fail)
                  generalize w8.alloc (.cells #[.int .i64 o', .string nm', .int .i64 no', .bool mu', .int .i64 mo', .slice a' n' c'] 74) = W8 at *
                  have p0 := hXo8.out.1 0 _ rfl; have p1 := hXo8.out.1 1 _ rfl; have p2 := hXo8.out.1 2 _ rfl; have p3 := hXo8.out.1 3 _ rfl; have p4 := hXo8.out.1 4 _ rfl; have p5 := hXo8.out.1 5 _ rfl
                  have u0 := hZ8.out.1 0 _ rfl; have u1 := hZ8.out.1 1 _ rfl; have u2 := hZ8.out.1 2 _ rfl; have u3 := hZ8.out.1 3 _ rfl; have u4 := hZ8.out.1 4 _ rfl; have u5 := hZ8.out.1 5 _ rfl
                  go_wp2_with fail
                  refine ck.out.mono ?_
                  rintro e w9 ⟨s9, rfl, hK9, ⟨a9, n9, c9, rfl⟩, hb9⟩
                  have hXo9 := hd (hXo8.out.below hb9)
                  have hXb9 := hd (hXb8.out.below hb9)
                  have hXr9 := hd (hXr8.out.below hb9)
                  have hbl9 := hd (hbl8.out.next hb9)
                  have hsz9 := hd (Nat.le_trans hsz8.out hb9.size)
                  have hg := hd (grownBy_setCells w3.heap.size [.int .i64 o, .string nmA, .int .i64 noA, .bool mu, .int .i64 mo, .slice (some a9) n9 c9] w9 0)
                  have hXoA := hd (BoxN.sets hXo9.out (v0 := .int .i64 o) (v1 := .string nmA) (v2 := .int .i64 noA) (v3 := .bool mu) (v4 := .int .i64 mo) (v5 := .slice (some a9) n9 c9))
                  have hXbA := hd (hXb9.out.grown hg.out (fun e => by have : w.heap.size + 1 = w3.heap.size := Option.some.inj e; omega))
                  have hXrA := hd (hXr9.out.grown hg.out (fun e => by have : w.heap.size + 1 + 1 = w3.heap.size := Option.some.inj e; omega))
                  have hKA := hd (KidsT.below hK9 (Same.grown hg.out (Nat.le_refl _) (fun g e => by cases e; left; omega)) hg.out.size)
                  have hblA := hd (hbl9.out.grown hg.out hbl9.out.size (fun g e => by cases e; omega))
                  have hszA := hd (Nat.le_trans hsz9.out hg.out.size)
                  have p0 := hXo9.out.1 0 _ rfl; have rp0 := hXo9.out.2.1 0; have p1 := hXo9.out.1 1 _ rfl; have rp1 := hXo9.out.2.1 1; have p2 := hXo9.out.1 2 _ rfl; have rp2 := hXo9.out.2.1 2; have p3 := hXo9.out.1 3 _ rfl; have rp3 := hXo9.out.2.1 3; have p4 := hXo9.out.1 4 _ rfl; have rp4 := hXo9.out.2.1 4; have p5 := hXo9.out.1 5 _ rfl; have rp5 := hXo9.out.2.1 5
                  clear hK9 hb9 hg
                  go_wp2_with fail
                  go_roundw
                  case rel => exact ⟨j + 1, some a9, n9, c9, by go_num, by omega, hXoA, hXbA, hXrA, by rw [htk.out, hst2.out]; exact hKA, by rw [htk.out, hst2.out]; exact fun e => by simp at e, hblA, hszA⟩
                  case measure => simp [intOf]; omega
              · have hst := hd (hstep0.out hn)
                have hn := hd hn
                clear hstep0 hstep1 rx
                go_wp2_with fail
                refine cp.out.mono ?_
                rintro e w6 ⟨_, hp2, hb6⟩
                obtain rfl := hp2 hn.out
                have hal := below_a1 w6 (a := (.cells #[.int .i64 0, .string ⟨#[]⟩, .int .i64 0, .bool false, .int .i64 0, .slice none 0 0] 74))
                have hbb := hd (hb6.next hal)
                have hXo7 := hd (hXo4.out.below hbb.out)
                have hXb7 := hd (hXb4.out.below hbb.out)
                have hXr7 := hd (hXr4.out.below hbb.out)
                have hbl7 := hd (hbl4.out.next hbb.out)
                have hKd7 := hd (KidsT.below hKd4.out (Same.below hbb.out (Nat.le_refl _)) hbb.out.size)
                have hsz7 := hd (Nat.le_trans hsz4.out hbb.out.size)
                clear hal hb6 hp2 hbb hX hXo4 hXb4 hXr4 hbl4 hKd4 hsz4 s0 s1 s2 s3 s4 s5 t2
                go_wp2_with fail
                go_roundw
                case rel => exact ⟨j + 1, sa, sn, sc, by go_num, by omega, hXo7, hXb7, hXr7, by rw [htk.out, hst.out, List.append_nil]; exact hKd7, by rw [htk.out, hst.out, List.append_nil]; exact hnil, hbl7, hsz7⟩
                case measure => simp [intOf]; omega
            · obtain rfl : j = ta.parts.length := by omega
              have hltI : ¬ (ta.parts.length : Int) < (ta.parts.length : Int) := by omega
              rw [List.take_length] at hKd
              have p0 := hXo.out.1 0 _ rfl; have p1 := hXo.out.1 1 _ rfl; have p2 := hXo.out.1 2 _ rfl; have p3 := hXo.out.1 3 _ rfl; have p4 := hXo.out.1 4 _ rfl; have p5 := hXo.out.1 5 _ rfl
              have z0 := hXr.out.1 0 _ rfl; have rz0 := hXr.out.2.1 0; have z1 := hXr.out.1 1 _ rfl; have rz1 := hXr.out.2.1 1; have z2 := hXr.out.1 2 _ rfl; have rz2 := hXr.out.2.1 2; have z3 := hXr.out.1 3 _ rfl; have rz3 := hXr.out.2.1 3; have z4 := hXr.out.1 4 _ rfl; have rz4 := hXr.out.2.1 4; have z5 := hXr.out.1 5 _ rfl; have rz5 := hXr.out.2.1 5
              have hg := hd (grownBy_setCells (w.heap.size + 1 + 1) [.int .i64 o, .string nmA, .int .i64 noA, .bool mu, .int .i64 mo, .slice sa sn sc] wo 0)
              have hK9 := hd (KidsT.rep (KidsT.below hKd.out (Same.grown hg.out (Nat.le_refl _) (fun g e => by cases e; left; omega)) hg.out.size) o nmA noA mu mo)
              have hbl9 := hd (hbl.out.grown hg.out hbl.out.size (fun g e => by cases e; omega))
              have hge := hd (show w.heap.size ≤ W6.heap.size by omega)
              clear hg hKd
              go_wp2_with fail
              refine bodyPost_ret (v := .tuple #[.agg #[.int .i64 o, .string nmA, .int .i64 noA, .bool mu, .int .i64 mo, .slice sa sn sc], .bool true]) (by simp [results, Try.results62, go_sem, z0, z1, z2, z3, z4, z5]) rfl ?_
              rw [hz.out]
              exact ⟨_, rfl, RepT.same (fun _ _ _ _ => rfl) hge.out (Nat.le_refl _) _ _ hK9.out, hbl9.out⟩
  · have hres := hd (show z = none by rw [hz.out, if_neg hof])
    have hofb : (o != oB) = true := by simpa using hof
    clear hz hof
    go_enter Try.func62, Try.ntmps62
    go_upto_region 1 with (fail)
    rw [← hW.out]
    clear hW
    have z0 := hXr.out.1 0 _ rfl; have rz0 := hXr.out.2.1 0; have z1 := hXr.out.1 1 _ rfl; have rz1 := hXr.out.2.1 1; have z2 := hXr.out.1 2 _ rfl; have rz2 := hXr.out.2.1 2; have z3 := hXr.out.1 3 _ rfl; have rz3 := hXr.out.2.1 3; have z4 := hXr.out.1 4 _ rfl; have rz4 := hXr.out.2.1 4; have z5 := hXr.out.1 5 _ rfl; have rz5 := hXr.out.2.1 5
    have hg8 := hd (grownBy_setCells (w.heap.size + 1 + 1) [.int .i64 0, .string ⟨#[]⟩, .int .i64 0, .bool false, .int .i64 0, .slice none 0 0] W 0)
    have hb8 := hd (show Below w.heap.size w _ from hbW.out.grown hg8.out hbW.out.size (fun g e => by cases e; omega))
    go_wp2_with fail
    refine bodyPost_ret (v := .tuple #[.agg #[.int .i64 0, .string ⟨#[]⟩, .int .i64 0, .bool false, .int .i64 0, .slice none 0 0], .bool false]) (by simp [results, Try.results62, go_sem, z0, z1, z2, z3, z4, z5]) rfl ?_
    rw [hres.out]
    exact ⟨_, _, _, _, _, _, _, _, rfl, hb8.out⟩
end Go.Proofs.Ytobahkjbadamhaa

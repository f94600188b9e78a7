/- What two types have in common as types: join of the program. -/
import Derived.Test.YtobahkjbadamhaaSchemas
import Derived.Test.YtobahkjbadamhaaSubMI
import Derived.StillTailTactics
namespace Go.Proofs.Ytobahkjbadamhaa
open Go.RowKit
set_option linter.unusedVariables false
set_option maxRecDepth 100000
theorem joinK_eq (a b : K) : joinK a b = if a.of = b.of then (if a.of = 4 then (joinH a.parts b).map (fun p => .mk a.of a.name a.no (a.must && b.must) (max a.most b.most) [p]) else some (.mk a.of a.name a.no (a.must && b.must) (max a.most b.most) (joinL a.parts b))) else none := by
  cases a; rw [joinK]; rfl
theorem joinH_one {x y b : K} (h : b.parts = [y]) : joinH [x] b = joinK x y := by rw [joinH]; dsimp only; rw [h]
def joinStep (b x : K) : List K := match b.parts.find? (byNo x.no) with
  | none => []
  | some y => (joinK x y).toList
theorem joinL_nil (b : K) : joinL [] b = [] := by rw [joinL]
theorem joinL_cons (b x : K) (xs : List K) : joinL (x :: xs) b = joinStep b x ++ joinL xs b := by rw [joinL]; rfl
theorem joinL_snoc (b p : K) : ∀ ps : List K, joinL (ps ++ [p]) b = joinL ps b ++ joinStep b p := by
  intro ps
  induction ps with
  | nil => rw [List.nil_append, joinL_cons, joinL_nil, List.append_nil, List.nil_append]
  | cons q ps ih => rw [List.cons_append, joinL_cons, joinL_cons, ih, List.append_assoc]
theorem joinL_take {ps : List K} {j : Nat} (h : j < ps.length) (b : K) : joinL (ps.take (j + 1)) b = joinL (ps.take j) b ++ joinStep b ps[j] := by
  rw [List.take_succ_eq_append_getElem h, joinL_snoc]
theorem joinStep_len (b x : K) : (joinStep b x).length ≤ 1 := by
  unfold joinStep
  split
  · simp
  · rename_i y _; cases joinK x y <;> simp
theorem joinL_len (b : K) : ∀ ps : List K, (joinL ps b).length ≤ ps.length := by
  intro ps
  induction ps with
  | nil => rw [joinL_nil]; exact Nat.le_refl _
  | cons p ps ih => rw [joinL_cons, List.length_append, List.length_cons]; have := joinStep_len b p; omega
def JoPost : Option K → World → Ending → World → Prop
  | some t => fun w e w' => ∃ v, e = .returned v ∧ RepP w' w.heap.size w'.heap.size t v ∧ Below w.heap.size w w'
  | none => fun w e w' => e = .returned (.pointer none) ∧ Below w.heap.size w w'
theorem max_ite (a b : Int) : (if a < b then b else a) = max a b := by
  rw [Int.max_def]; split <;> split <;> omega
/-- A type whose one part is laid as a slice of one. -/
theorem RepP.store1 {w5 : World} {bO lo L c : Nat} {o : Int} {nm : ByteArray} {no : Int} {mu : Bool} {mo : Int} {p : K} {vp : Value} {E : TypeId} (hX : BoxN w5 bO [.int .i64 o, .string nm, .int .i64 no, .bool mu, .int .i64 mo, .slice none 0 0]) (hlo : lo ≤ bO) (hL : bO < L) (hr : RepP w5 L w5.heap.size p vp) :
    RepP ((w5.alloc (.cells #[vp] E)).setCell ⟨bO, 5, none⟩ (.slice (some ⟨w5.heap.size, 0, none⟩) 1 c)) lo ((w5.alloc (.cells #[vp] E)).setCell ⟨bO, 5, none⟩ (.slice (some ⟨w5.heap.size, 0, none⟩) 1 c)).heap.size (.mk o nm no mu mo [p]) (.pointer (some ⟨bO, 0, none⟩)) := by
  have hb5 := hX.2.2
  have hXa := (hX.below (below_a1 w5 (a := .cells #[vp] E))).set (i := 5) (by simp) (.slice (some ⟨w5.heap.size, 0, none⟩) 1 c)
  have hcell : (w5.alloc (.cells #[vp] E)).cell? ⟨w5.heap.size, 0, none⟩ = some vp := by
    have := cells_new w5 [vp] E 0 vp rfl
    exact this
  have hsz : w5.heap.size + 1 ≤ ((w5.alloc (.cells #[vp] E)).setCell ⟨bO, 5, none⟩ (.slice (some ⟨w5.heap.size, 0, none⟩) 1 c)).heap.size := Nat.le_trans (by simp) (grownBy_setCell (w5.alloc (.cells #[vp] E)) ⟨bO, 5, none⟩ (.slice (some ⟨w5.heap.size, 0, none⟩) 1 c)).size
  have hg := grownBy_setCell (w5.alloc (.cells #[vp] E)) ⟨bO, 5, none⟩ (.slice (some ⟨w5.heap.size, 0, none⟩) 1 c)
  have hr1 := RepP.same (Same.grown hg (by simp) (fun g e => by cases e; left; exact hL)) (Nat.le_refl _) (Nat.le_refl _) p vp (hr.below (Nat.le_refl _) (below_a1 w5 (a := .cells #[vp] E)))
  rw [RepP]
  refine ⟨bO, .slice (some ⟨w5.heap.size, 0, none⟩) 1 c, [vp], rfl, ⟨hlo, hXa.2.2⟩, ⟨hXa.1 0 _ rfl, hXa.1 1 _ rfl, hXa.1 2 _ rfl, hXa.1 3 _ rfl, hXa.1 4 _ rfl, hXa.1 5 _ rfl⟩, ?_, ?_⟩
  · refine ⟨_, c, rfl, .inr ⟨w5.heap.size, 0, rfl, ⟨by omega, by omega⟩, fun i v hv => ?_⟩⟩
    have hi : i = 0 := by have := (List.getElem?_eq_some_iff.1 hv).1; simpa using this
    subst hi
    simp at hv
    subst hv
    rw [World.cell?_setCell_other _ _ _ _ (by intro e; have e2 := congrArg Addr.block e; dsimp only at e2; omega)]
    exact hcell
  · rw [RepL]
    exact ⟨vp, [], rfl, hr1.wide (by omega) (by omega), by rw [RepL]⟩
set_option maxHeartbeats 12800000 in
theorem join_i (a : K) : ∀ (b : K) (va vb : Value) (w : World) (la ha lb hb : Nat), ha ≤ w.heap.size → hb ≤ w.heap.size → countK a ≤ 1000000 → countK b ≤ 1000000 → rightK a → rightK b → RepP w la ha a va → RepP w lb hb b vb →
    Calls Try.prog 64 #[va, vb] w (JoPost (joinK a b) w) := by
  refine K.ind2 (P := fun a => ∀ (b : K) (va vb : Value) (w : World) (la ha lb hb : Nat), ha ≤ w.heap.size → hb ≤ w.heap.size → countK a ≤ 1000000 → countK b ≤ 1000000 → rightK a → rightK b → RepP w la ha a va → RepP w lb hb b vb →
    Calls Try.prog 64 #[va, vb] w (JoPost (joinK a b) w)) ?_ a
  intro ta ih tb va vb w la ha lb hb hha hhb hca hcb hra hrb hA hB
  replace ih := hd ih
  obtain ⟨bA, aA, cA, vsA, rfl, hbA, x0, x1, x2, x3, x4, x5, hSA, hlA, hgA⟩ := hA.open
  obtain ⟨bB, aB, cB, vsB, rfl, hbB, y0, y1, y2, y3, y4, y5, hSB, hlB, hgB⟩ := hB.open
  have hz := hd (joinK_eq ta tb)
  have hpa := hd (fun p (hp : p ∈ ta.parts) => (show countK p ≤ 1000000 ∧ rightK p from ⟨by have h1 := count_part hp; have h2 := countK_eq ta; omega, right_part hra hp⟩))
  have hpb := hd (fun p (hp : p ∈ tb.parts) => (show countK p ≤ 1000000 ∧ rightK p from ⟨by have h1 := count_part hp; have h2 := countK_eq tb; omega, right_part hrb hp⟩))
  have hlla : ta.parts.length ≤ 1000000 := by have h1 := len_count ta.parts; have h2 := countK_eq ta; omega
  have hllb : tb.parts.length ≤ 1000000 := by have h1 := len_count tb.parts; have h2 := countK_eq tb; omega
  replace hgA := hd hgA
  replace hgB := hd hgB
  have hone := hd (fun h => right_one hra h)
  have honeb := hd (fun h => right_one hrb h)
  have hpart := hd (fun (no : Int) (w' : World) (hw : Below w.heap.size w w') => part_i tb no bB cB aB vsB w' lb hb (Nat.le_trans hhb hw.size) hllb (keepCell hw y5) (hSB.same (Same.below hw hhb) (Nat.le_refl _) (Nat.le_refl _)) hlB (fun j h1 h2 => (hgB.out j h1 h2).below hhb hw))
  clear y1 y2 hA hB hra hrb hca hcb
  generalize joinK ta tb = z at *
  by_cases hof : ta.of = tb.of
  · replace hz := hd (show z = if ta.of = 4 then (joinH ta.parts tb).map (fun p => .mk ta.of ta.name ta.no (ta.must && tb.must) (max ta.most tb.most) [p]) else some (.mk ta.of ta.name ta.no (ta.must && tb.must) (max ta.most tb.most) (joinL ta.parts tb)) by rw [hz.out, if_pos hof])
    rw [← hof] at y0 honeb
    have hmx := max_ite ta.most tb.most
    obtain ⟨i0, hi0, hz0, hz1, hz2⟩ := info_parts infoPtr
    have Hi := hd hi0; have Hz0 := hd hz0; have Hz1 := hd hz1; have Hz2 := hd hz2
    clear hi0 hz0 hz1 hz2 hof
    generalize max ta.most tb.most = mo at *
    obtain ⟨mu, hmu⟩ : ∃ mu : Bool, (ta.must && tb.must) = mu := ⟨_, rfl⟩
    rw [hmu] at hz
    generalize ta.of = o at *
    generalize ta.name = nm at *
    generalize ta.no = no at *
    generalize ta.most = mA at *
    generalize tb.most = mB at *
    generalize tb.must = mt at *
    cases hma : ta.must with
    | true =>
      rw [hma] at x3 hmu
      obtain rfl : mt = mu := by simpa using hmu
      clear hmu hma
      go_enter Try.func64, Try.ntmps64
      go_wp2_with fail
      go_quiet (fail)
      have hB1 := hd (show Below w.heap.size w (w.drewN nq) from below_drewN (Below.refl _ w) nq)
      generalize w.drewN nq = w1 at hB1 ⊢
      have z0 := keepCell hB1.out x0
      have z1 := keepCell hB1.out x1
      have z2 := keepCell hB1.out x2
      have z3 := keepCell hB1.out x3
      have z4 := keepCell hB1.out x4
      have u3 := keepCell hB1.out y3
      have u4 := keepCell hB1.out y4
      go_upto_region 3 with (fail)
      go_still_tail 31, (by kernel_rfl)
      change wpList _ _ _ _ _ w1.drew
      go_upto_region 4 with (fail)
      have hbW := hd (show Below w.heap.size w ((w1.alloc (.cells #[.int .i64 o, .string nm, .int .i64 no, .bool mt, .int .i64 mo, .slice none 0 0] 117)).drew) from (hB1.out.next (below_a1 _)).drew)
      have hX := hd (show BoxN ((w1.alloc (.cells #[.int .i64 o, .string nm, .int .i64 no, .bool mt, .int .i64 mo, .slice none 0 0] 117)).drew) w1.heap.size [.int .i64 o, .string nm, .int .i64 no, .bool mt, .int .i64 mo, .slice none 0 0] from (BoxN.new w1 _ _).below (Below.refl _ _).drew)
      have hzW : (w1.alloc (.cells #[.int .i64 o, .string nm, .int .i64 no, .bool mt, .int .i64 mo, .slice none 0 0] 117)).drew.heap.size = w1.heap.size + 1 := by show (World.alloc _ _).heap.size = _; simp
      generalize (w1.alloc (.cells #[.int .i64 o, .string nm, .int .i64 no, .bool mt, .int .i64 mo, .slice none 0 0] 117)).drew = W at *
      have hz1s := hB1.out.size
      have X0 := keepCell hbW.out x0
      have X5 := keepCell hbW.out x5
      have Y5 := keepCell hbW.out y5
      clear z0 z1 z2 z3 z4 u3 u4 hB1
      by_cases h4 : o = 4
      · replace hz := hd (show z = (joinH ta.parts tb).map (fun p => .mk o nm no mt mo [p]) by rw [hz.out, if_pos h4])
        obtain ⟨xa, hxa⟩ := hone.out h4
        obtain ⟨yb, hyb⟩ := honeb.out h4
        replace hz := hd (show z = (joinK xa yb).map (fun p => .mk o nm no mt mo [p]) by rw [hz.out, hxa, joinH_one hyb])
        have h4b : (o == 4) = true := by simpa using h4
        obtain ⟨b1, o1, rfl, hb1, hc1⟩ := hSA.at (j := 0) (by rw [hlA, hxa]; simp)
        obtain ⟨b2, o2, rfl, hb2, hc2⟩ := hSB.at (j := 0) (by rw [hlB, hyb]; simp)
        have q1 := hc1 0 (by rw [hlA, hxa]; simp)
        have q2 := hc2 0 (by rw [hlB, hyb]; simp)
        have r1 := hgA.out 0 (by rw [hxa]; simp) (by rw [hlA, hxa]; simp)
        have r2 := hgB.out 0 (by rw [hyb]; simp) (by rw [hlB, hyb]; simp)
        have e1 : ta.parts[0]'(by rw [hxa]; simp) = xa := by simp [hxa]
        have e2 : tb.parts[0]'(by rw [hyb]; simp) = yb := by simp [hyb]
        rw [e1] at r1
        rw [e2] at r2
        have hi := hd (fun (w' : World) (hw : Below w.heap.size w w') => ih.out xa (by rw [hxa]; simp) yb _ _ w' la ha lb hb (Nat.le_trans hha hw.size) (Nat.le_trans hhb hw.size) (hpa.out xa (by rw [hxa]; simp)).1 (hpb.out yb (by rw [hyb]; simp)).1 (hpa.out xa (by rw [hxa]; simp)).2 (hpb.out yb (by rw [hyb]; simp)).2 (r1.below hha hw) (r2.below hhb hw))
        rw [hxa] at X5
        rw [hyb] at Y5
        rw [Nat.add_zero] at q1 q2
        have Q1 := keepCell hbW.out q1
        have Q2 := keepCell hbW.out q2
        generalize (vsA[0]'(by rw [hlA, hxa]; simp)) = ua at *
        generalize (vsB[0]'(by rw [hlB, hyb]; simp)) = ub at *
        generalize joinK xa yb = J at *
        simp only [List.length_singleton] at X5 Y5
        clear hc1 hc2 r1 r2 e1 e2 hone honeb hpart h4 q1 q2
        go_upto_region 5 with (fail)
        go_still_tail 12, (by kernel_rfl)
        change wpList _ _ _ _ _ W.drew
        go_wp2_with fail
        refine (hi.out W.drew hbW.out.drew).mono ?_
        cases J with
        | none =>
          rintro e w5 ⟨rfl, hb5⟩
          have hB5 := hd (hbW.out.drew.next hb5)
          have hres := hd (show z = none from hz.out)
          clear hb5
          go_wp2_with fail
          go_ret
          rw [hres.out]
          exact ⟨rfl, hB5.out⟩
        | some p =>
          rintro e w5 ⟨vp, rfl, hrp, hb5⟩
          obtain ⟨bp, _, _, _, rfl, hjk⟩ := hrp.open
          have hB5 := hd (hbW.out.drew.next hb5)
          have hX5 := hd ((hX.out.below (Below.refl _ W).drew).below hb5)
          have hres := hd (show z = some (.mk o nm no mt mo [p]) from hz.out)
          have hz5 := hb5.size
          have hz5 : W.heap.size ≤ w5.heap.size := hz5
          have hfin := hd (RepP.store1 (E := 79) (c := 1) hX5.out (lo := w.heap.size) (by omega) (L := W.drew.heap.size) (by show w1.heap.size < W.heap.size; omega) hrp)
          have hX6 := hd (hX5.out.below (below_a1 w5 (a := .cells #[.pointer (some ⟨bp, 0, none⟩)] 79)))
          have hB6 := hd (hB5.out.next (below_a1 w5 (a := .cells #[.pointer (some ⟨bp, 0, none⟩)] 79)))
          have y6 := hX6.out.1 5 _ rfl
          have r6 := hX6.out.2.1 5
          clear hb5 hjk hrp
          go_wp2_with fail
          go_ret
          rw [hres.out]
          exact ⟨_, rfl, hfin.out, hB6.out.setCell (by omega) _⟩
      · replace hz := hd (show z = some (.mk o nm no mt mo (joinL ta.parts tb)) by rw [hz.out, if_neg h4])
        have h4b : (o == 4) = false := by simpa using h4
        clear hone honeb h4
        go_wp2_with fail
        go_loopw [84] (fun n wr => ∃ (j : Nat) (s : Value) (vs : List Value), j ≤ ta.parts.length ∧ n = .int .i64 j ∧ Hd (BoxN wr w1.heap.size [.int .i64 o, .string nm, .int .i64 no, .bool mt, .int .i64 mo, s]) ∧ Hd (Own wr (w1.heap.size + 1) 79 1 s (vs.map encV)) ∧ Hd (Sep wr w1.heap.size s (joinL (ta.parts.take j) tb) vs) ∧ Hd (Below w.heap.size w wr)) (fun n _ => ta.parts.length - (intOf n).toNat)
        case atStart => exact ⟨0, .slice none 0 0, [], Nat.zero_le _, rfl, hX.out, Own.nil, by rw [List.take_zero, joinL_nil]; exact Sep.nil, hbW.out⟩
        case round =>
          obtain ⟨j, s, vs, hj, rfl, hX, hO, hSep, hbl⟩ := hrel
          obtain ⟨wo, rfl⟩ : ∃ wo : World, wo = wr := ⟨_, rfl⟩
          by_cases hlt : j < ta.parts.length
          · have hltI : (j : Int) < (ta.parts.length : Int) := by omega
            obtain ⟨b1, o1, rfl, hb1, hc1⟩ := hSA.at (j := j) (by omega)
            have q1 := hc1 j (by omega)
            have rx := hgA.out j hlt (by omega)
            obtain ⟨bx, _, _, _, hvx, _, _, _, p2, _, _, _, _, _, _⟩ := rx.open
            rw [hvx] at q1 rx
            have Q1 := keepCell hbl.out q1
            have P2 := keepCell hbl.out p2
            have cp := hd (hpart.out ta.parts[j].no wo hbl.out)
            have htk := hd (joinL_take hlt tb)
            have hvl : vs.length ≤ 1000000 := by have h1 := hSep.out.1; have h2 := joinL_len tb (ta.parts.take j); have h3 := List.length_take_le j ta.parts; rw [List.length_take] at h2; omega
            have hxm := List.getElem_mem hlt
            have hxp := hpa.out _ hxm
            have hsz := hX.out.2.2
            clear hvx hc1 q1 p2
            rcases first_or tb.parts ta.parts[j].no with ⟨i, hf⟩ | hn
            · have hst := hd (show joinStep tb ta.parts[j] = (joinK ta.parts[j] (tb.parts[i]'hf.1)).toList by unfold joinStep; rw [find_first hf])
              rw [hst.out] at htk
              have hib := hf.1
              have ry := hgB.out i hib (by omega)
              obtain ⟨bY, _, _, _, hvy, _⟩ := ry.open
              rw [hvy] at ry
              have hym := hpb.out _ (List.getElem_mem hib)
              have cj := hd (fun (w' : World) (hw : Below w.heap.size w w') => ih.out _ hxm tb.parts[i] _ _ w' la ha lb hb (Nat.le_trans hha hw.size) (Nat.le_trans hhb hw.size) hxp.1 hym.1 hxp.2 hym.2 (rx.below hha hw) (ry.below hhb hw))
              have hf := hd hf
              replace hvy := hd hvy
              clear hxm hxp hym rx ry hst
              generalize joinK ta.parts[j] tb.parts[i] = J at *
              generalize ta.parts[j] = x at *
              go_wp2_with fail
              refine cp.out.mono ?_
              rintro e w2 ⟨hp1, _, hb2⟩
              obtain ⟨_, rfl⟩ := hp1 i hf.out
              rw [hvy.out]
              have hX2 := hd (hX.out.below hb2)
              have hO2 := hd (hO.out.below hb2)
              have hS2 := hd (hSep.out.below hb2)
              have hbl2 := hd (hbl.out.next hb2)
              have hsz2 := hX2.out.2.2
              clear hb2 hp1 Q1 P2
              go_wp2_with fail
              refine (cj.out w2 hbl2.out).mono ?_
              cases J with
              | none =>
                rintro e w5 ⟨rfl, hb5⟩
                have hX5 := hd (hX2.out.below hb5)
                have hO5 := hd (hO2.out.below hb5)
                have hS5 := hd (hS2.out.below hb5)
                have hbl5 := hd (hbl2.out.next hb5)
                clear hb5
                go_wp2_with fail
                go_roundw
                case rel => exact ⟨j + 1, s, vs, by omega, by go_num, hX5, hO5, by rw [htk.out, Option.toList, List.append_nil]; exact hS5, hbl5⟩
                case measure => simp [intOf]; omega
              | some p =>
                rintro e w5 ⟨vp, rfl, hrp, hb5⟩
                obtain ⟨bp, _, _, _, rfl, hjk⟩ := hrp.open
                clear hjk
                obtain ⟨sa, sc, rfl, _⟩ := hO.out.sl
                simp only [List.length_map] at *
                have hone := hd (one_ptr (.pointer (some ⟨bp, 0, none⟩)) bp rfl)
                have hX5 := hd (hX2.out.below hb5)
                have hO5 := hd (hO2.out.below hb5)
                have hrp := hd hrp
                have hb5 := hd hb5
                have hz5 := hb5.out.size
                have y5' := hX5.out.1 5 _ rfl
                have hB5 := hd (hbl2.out.next hb5.out)
                go_wp2_with (at_builtin; refine wpList_appOwn rfl (.tmp 105) (.tmp 107) 115 rfl (w1.heap.size + 1) 79 i0 _ 1 8 Try.underlying115 Hi.out Hz0.out Hz1.out Hz2.out rfl (by decide) _ (vs.map encV) [encV (.pointer (some ⟨bp, 0, none⟩))] rfl (hO5.out.below (below_a1 _)) _ 1 1 rfl rfl (one_row rfl) (cells_new _ _ _) hone.out (by rw [List.length_map]; omega) (by decide) (by first | omega | exact Nat.le_refl _ | (simp; done) | (simp; omega)) ?_; intro s6 w6 ho6 hg6 hv6; obtain ⟨a6, c6, hs6, _⟩ := ho6.sl; rw [List.length_append, List.length_map, List.length_singleton] at hs6; subst hs6; have hX6 := hd ((hX5.out.below (below_a1 _)).grown hg6 (by intro e; have := (hO5.out.lt _ e.symm).1; omega)); have y6 := hX6.out.1 5 _ rfl; have r6 := hX6.out.2.1 5; have hg6 := hd hg6; have hv6 := hd hv6; have ho6 := hd ho6; have hz6 := hg6.out.size; clear y5')
                have hne6 : ∀ g, (Value.slice a6 (vs.length + 1) c6).ownBlock = some g → w1.heap.size + 1 ≤ g := fun g hg => (ho6.out.lt g hg).1
                have hX7 := hd (hX6.out.set (i := 5) (by simp) (.slice a6 (vs.length + 1) c6))
                have hO7 := hd (ho6.out.kept (grownBy_setCell w6 ⟨w1.heap.size, 5, none⟩ (.slice a6 (vs.length + 1) c6)) (.inr (fun e => by have : w1.heap.size + 1 ≤ w1.heap.size := hne6 _ e; omega)))
                have hS7 := hd (Sep.step hS2.out hsz2 (fun g hg => (hO2.out.lt g hg).2) hb5.out hrp.out (w2 := w5.alloc (.cells #[.pointer (some ⟨bp, 0, none⟩)] 79)) (by simp) (below_a1 w5) hg6.out hv6.out (w4 := w6.setCell ⟨w1.heap.size, 5, none⟩ (.slice a6 (vs.length + 1) c6)) rfl)
                have hB7 := hd (show Below w.heap.size w (w6.setCell ⟨w1.heap.size, 5, none⟩ (.slice a6 (vs.length + 1) c6)) from Below.setCell ((hB5.out.next (below_a1 w5 (a := .cells #[.pointer (some ⟨bp, 0, none⟩)] 79))).grown hg6.out (by first | omega | exact Nat.le_refl _ | (simp; done) | (simp; omega)) (fun g hg => by have := (hO5.out.lt g hg).1; omega)) (by simp; omega) _)
                go_wp2_with fail
                go_roundw
                case rel => exact ⟨j + 1, (.slice a6 (vs.length + 1) c6), vs ++ [.pointer (some ⟨bp, 0, none⟩)], by omega, by go_num, hX7.out, by rw [List.map_append]; exact hO7.out, by rw [htk.out]; exact hS7.out, hB7.out⟩
                case measure => simp [intOf]; omega
            · have hst := hd (show joinStep tb ta.parts[j] = [] by unfold joinStep; rw [find_none hn])
              rw [hst.out, List.append_nil] at htk
              have hn := hd hn
              clear hxm hxp rx hst
              generalize ta.parts[j] = x at *
              go_wp2_with fail
              refine cp.out.mono ?_
              rintro e w2 ⟨_, hp1, hb2⟩
              obtain rfl := hp1 hn.out
              have hX2 := hd (hX.out.below hb2)
              have hO2 := hd (hO.out.below hb2)
              have hS2 := hd (hSep.out.below hb2)
              have hbl2 := hd (hbl.out.next hb2)
              clear hb2 hp1 Q1 P2
              go_wp2_with fail
              go_roundw
              case rel => exact ⟨j + 1, s, vs, by omega, by go_num, hX2, hO2, by rw [htk.out]; exact hS2, hbl2⟩
              case measure => simp [intOf]; omega
          · obtain rfl : j = ta.parts.length := by omega
            have hltI : ¬ (ta.parts.length : Int) < (ta.parts.length : Int) := by omega
            rw [List.take_length] at hSep
            have hfin := hd (show RepP wo w.heap.size wo.heap.size (.mk o nm no mt mo (joinL ta.parts tb)) (.pointer (some ⟨w1.heap.size, 0, none⟩)) from by
              rw [RepP]
              refine ⟨w1.heap.size, s, vs, rfl, ⟨by omega, hX.out.2.2⟩, ⟨hX.out.1 0 _ rfl, hX.out.1 1 _ rfl, hX.out.1 2 _ rfl, hX.out.1 3 _ rfl, hX.out.1 4 _ rfl, hX.out.1 5 _ rfl⟩, ?_, hSep.out.rep (by omega)⟩
              exact PSl.same (PSl.own hO.out (fun g hg => (hO.out.lt g hg).2)) (fun _ _ _ _ => rfl) (by omega) (Nat.le_refl _))
            go_wp2_with fail
            go_ret
            rw [hz.out]
            exact ⟨_, rfl, hfin.out, hbl.out⟩
    | false =>
      rw [hma] at x3 hmu
      obtain rfl : false = mu := by simpa using hmu
      clear hmu hma
      go_enter Try.func64, Try.ntmps64
      go_wp2_with fail
      go_quiet (fail)
      have hB1 := hd (show Below w.heap.size w (w.drewN nq) from below_drewN (Below.refl _ w) nq)
      generalize w.drewN nq = w1 at hB1 ⊢
      have z0 := keepCell hB1.out x0
      have z1 := keepCell hB1.out x1
      have z2 := keepCell hB1.out x2
      have z3 := keepCell hB1.out x3
      have z4 := keepCell hB1.out x4
      have u3 := keepCell hB1.out y3
      have u4 := keepCell hB1.out y4
      go_upto_region 3 with (fail)
      go_still_tail 31, (by kernel_rfl)
      change wpList _ _ _ _ _ w1.drew
      go_upto_region 4 with (fail)
      have hbW := hd (show Below w.heap.size w ((w1.alloc (.cells #[.int .i64 o, .string nm, .int .i64 no, .bool false, .int .i64 mo, .slice none 0 0] 117)).drew) from (hB1.out.next (below_a1 _)).drew)
      have hX := hd (show BoxN ((w1.alloc (.cells #[.int .i64 o, .string nm, .int .i64 no, .bool false, .int .i64 mo, .slice none 0 0] 117)).drew) w1.heap.size [.int .i64 o, .string nm, .int .i64 no, .bool false, .int .i64 mo, .slice none 0 0] from (BoxN.new w1 _ _).below (Below.refl _ _).drew)
      have hzW : (w1.alloc (.cells #[.int .i64 o, .string nm, .int .i64 no, .bool false, .int .i64 mo, .slice none 0 0] 117)).drew.heap.size = w1.heap.size + 1 := by show (World.alloc _ _).heap.size = _; simp
      generalize (w1.alloc (.cells #[.int .i64 o, .string nm, .int .i64 no, .bool false, .int .i64 mo, .slice none 0 0] 117)).drew = W at *
      have hz1s := hB1.out.size
      have X0 := keepCell hbW.out x0
      have X5 := keepCell hbW.out x5
      have Y5 := keepCell hbW.out y5
      clear z0 z1 z2 z3 z4 u3 u4 hB1
      by_cases h4 : o = 4
      · replace hz := hd (show z = (joinH ta.parts tb).map (fun p => .mk o nm no false mo [p]) by rw [hz.out, if_pos h4])
        obtain ⟨xa, hxa⟩ := hone.out h4
        obtain ⟨yb, hyb⟩ := honeb.out h4
        replace hz := hd (show z = (joinK xa yb).map (fun p => .mk o nm no false mo [p]) by rw [hz.out, hxa, joinH_one hyb])
        have h4b : (o == 4) = true := by simpa using h4
        obtain ⟨b1, o1, rfl, hb1, hc1⟩ := hSA.at (j := 0) (by rw [hlA, hxa]; simp)
        obtain ⟨b2, o2, rfl, hb2, hc2⟩ := hSB.at (j := 0) (by rw [hlB, hyb]; simp)
        have q1 := hc1 0 (by rw [hlA, hxa]; simp)
        have q2 := hc2 0 (by rw [hlB, hyb]; simp)
        have r1 := hgA.out 0 (by rw [hxa]; simp) (by rw [hlA, hxa]; simp)
        have r2 := hgB.out 0 (by rw [hyb]; simp) (by rw [hlB, hyb]; simp)
        have e1 : ta.parts[0]'(by rw [hxa]; simp) = xa := by simp [hxa]
        have e2 : tb.parts[0]'(by rw [hyb]; simp) = yb := by simp [hyb]
        rw [e1] at r1
        rw [e2] at r2
        have hi := hd (fun (w' : World) (hw : Below w.heap.size w w') => ih.out xa (by rw [hxa]; simp) yb _ _ w' la ha lb hb (Nat.le_trans hha hw.size) (Nat.le_trans hhb hw.size) (hpa.out xa (by rw [hxa]; simp)).1 (hpb.out yb (by rw [hyb]; simp)).1 (hpa.out xa (by rw [hxa]; simp)).2 (hpb.out yb (by rw [hyb]; simp)).2 (r1.below hha hw) (r2.below hhb hw))
        rw [hxa] at X5
        rw [hyb] at Y5
        rw [Nat.add_zero] at q1 q2
        have Q1 := keepCell hbW.out q1
        have Q2 := keepCell hbW.out q2
        generalize (vsA[0]'(by rw [hlA, hxa]; simp)) = ua at *
        generalize (vsB[0]'(by rw [hlB, hyb]; simp)) = ub at *
        generalize joinK xa yb = J at *
        simp only [List.length_singleton] at X5 Y5
        clear hc1 hc2 r1 r2 e1 e2 hone honeb hpart h4 q1 q2
        go_upto_region 5 with (fail)
        go_still_tail 12, (by kernel_rfl)
        change wpList _ _ _ _ _ W.drew
        go_wp2_with fail
        refine (hi.out W.drew hbW.out.drew).mono ?_
        cases J with
        | none =>
          rintro e w5 ⟨rfl, hb5⟩
          have hB5 := hd (hbW.out.drew.next hb5)
          have hres := hd (show z = none from hz.out)
          clear hb5
          go_wp2_with fail
          go_ret
          rw [hres.out]
          exact ⟨rfl, hB5.out⟩
        | some p =>
          rintro e w5 ⟨vp, rfl, hrp, hb5⟩
          obtain ⟨bp, _, _, _, rfl, hjk⟩ := hrp.open
          have hB5 := hd (hbW.out.drew.next hb5)
          have hX5 := hd ((hX.out.below (Below.refl _ W).drew).below hb5)
          have hres := hd (show z = some (.mk o nm no false mo [p]) from hz.out)
          have hz5 := hb5.size
          have hz5 : W.heap.size ≤ w5.heap.size := hz5
          have hfin := hd (RepP.store1 (E := 79) (c := 1) hX5.out (lo := w.heap.size) (by omega) (L := W.drew.heap.size) (by show w1.heap.size < W.heap.size; omega) hrp)
          have hX6 := hd (hX5.out.below (below_a1 w5 (a := .cells #[.pointer (some ⟨bp, 0, none⟩)] 79)))
          have hB6 := hd (hB5.out.next (below_a1 w5 (a := .cells #[.pointer (some ⟨bp, 0, none⟩)] 79)))
          have y6 := hX6.out.1 5 _ rfl
          have r6 := hX6.out.2.1 5
          clear hb5 hjk hrp
          go_wp2_with fail
          go_ret
          rw [hres.out]
          exact ⟨_, rfl, hfin.out, hB6.out.setCell (by omega) _⟩
      · replace hz := hd (show z = some (.mk o nm no false mo (joinL ta.parts tb)) by rw [hz.out, if_neg h4])
        have h4b : (o == 4) = false := by simpa using h4
        clear hone honeb h4
        go_wp2_with fail
        go_loopw [84] (fun n wr => ∃ (j : Nat) (s : Value) (vs : List Value), j ≤ ta.parts.length ∧ n = .int .i64 j ∧ Hd (BoxN wr w1.heap.size [.int .i64 o, .string nm, .int .i64 no, .bool false, .int .i64 mo, s]) ∧ Hd (Own wr (w1.heap.size + 1) 79 1 s (vs.map encV)) ∧ Hd (Sep wr w1.heap.size s (joinL (ta.parts.take j) tb) vs) ∧ Hd (Below w.heap.size w wr)) (fun n _ => ta.parts.length - (intOf n).toNat)
        case atStart => exact ⟨0, .slice none 0 0, [], Nat.zero_le _, rfl, hX.out, Own.nil, by rw [List.take_zero, joinL_nil]; exact Sep.nil, hbW.out⟩
        case round =>
          obtain ⟨j, s, vs, hj, rfl, hX, hO, hSep, hbl⟩ := hrel
          obtain ⟨wo, rfl⟩ : ∃ wo : World, wo = wr := ⟨_, rfl⟩
          by_cases hlt : j < ta.parts.length
          · have hltI : (j : Int) < (ta.parts.length : Int) := by omega
            obtain ⟨b1, o1, rfl, hb1, hc1⟩ := hSA.at (j := j) (by omega)
            have q1 := hc1 j (by omega)
            have rx := hgA.out j hlt (by omega)
            obtain ⟨bx, _, _, _, hvx, _, _, _, p2, _, _, _, _, _, _⟩ := rx.open
            rw [hvx] at q1 rx
            have Q1 := keepCell hbl.out q1
            have P2 := keepCell hbl.out p2
            have cp := hd (hpart.out ta.parts[j].no wo hbl.out)
            have htk := hd (joinL_take hlt tb)
            have hvl : vs.length ≤ 1000000 := by have h1 := hSep.out.1; have h2 := joinL_len tb (ta.parts.take j); have h3 := List.length_take_le j ta.parts; rw [List.length_take] at h2; omega
            have hxm := List.getElem_mem hlt
            have hxp := hpa.out _ hxm
            have hsz := hX.out.2.2
            clear hvx hc1 q1 p2
            rcases first_or tb.parts ta.parts[j].no with ⟨i, hf⟩ | hn
            · have hst := hd (show joinStep tb ta.parts[j] = (joinK ta.parts[j] (tb.parts[i]'hf.1)).toList by unfold joinStep; rw [find_first hf])
              rw [hst.out] at htk
              have hib := hf.1
              have ry := hgB.out i hib (by omega)
              obtain ⟨bY, _, _, _, hvy, _⟩ := ry.open
              rw [hvy] at ry
              have hym := hpb.out _ (List.getElem_mem hib)
              have cj := hd (fun (w' : World) (hw : Below w.heap.size w w') => ih.out _ hxm tb.parts[i] _ _ w' la ha lb hb (Nat.le_trans hha hw.size) (Nat.le_trans hhb hw.size) hxp.1 hym.1 hxp.2 hym.2 (rx.below hha hw) (ry.below hhb hw))
              have hf := hd hf
              replace hvy := hd hvy
              clear hxm hxp hym rx ry hst
              generalize joinK ta.parts[j] tb.parts[i] = J at *
              generalize ta.parts[j] = x at *
              go_wp2_with fail
              refine cp.out.mono ?_
              rintro e w2 ⟨hp1, _, hb2⟩
              obtain ⟨_, rfl⟩ := hp1 i hf.out
              rw [hvy.out]
              have hX2 := hd (hX.out.below hb2)
              have hO2 := hd (hO.out.below hb2)
              have hS2 := hd (hSep.out.below hb2)
              have hbl2 := hd (hbl.out.next hb2)
              have hsz2 := hX2.out.2.2
              clear hb2 hp1 Q1 P2
              go_wp2_with fail
              refine (cj.out w2 hbl2.out).mono ?_
              cases J with
              | none =>
                rintro e w5 ⟨rfl, hb5⟩
                have hX5 := hd (hX2.out.below hb5)
                have hO5 := hd (hO2.out.below hb5)
                have hS5 := hd (hS2.out.below hb5)
                have hbl5 := hd (hbl2.out.next hb5)
                clear hb5
                go_wp2_with fail
                go_roundw
                case rel => exact ⟨j + 1, s, vs, by omega, by go_num, hX5, hO5, by rw [htk.out, Option.toList, List.append_nil]; exact hS5, hbl5⟩
                case measure => simp [intOf]; omega
              | some p =>
                rintro e w5 ⟨vp, rfl, hrp, hb5⟩
                obtain ⟨bp, _, _, _, rfl, hjk⟩ := hrp.open
                clear hjk
                obtain ⟨sa, sc, rfl, _⟩ := hO.out.sl
                simp only [List.length_map] at *
                have hone := hd (one_ptr (.pointer (some ⟨bp, 0, none⟩)) bp rfl)
                have hX5 := hd (hX2.out.below hb5)
                have hO5 := hd (hO2.out.below hb5)
                have hrp := hd hrp
                have hb5 := hd hb5
                have hz5 := hb5.out.size
                have y5' := hX5.out.1 5 _ rfl
                have hB5 := hd (hbl2.out.next hb5.out)
                go_wp2_with (at_builtin; refine wpList_appOwn rfl (.tmp 105) (.tmp 107) 115 rfl (w1.heap.size + 1) 79 i0 _ 1 8 Try.underlying115 Hi.out Hz0.out Hz1.out Hz2.out rfl (by decide) _ (vs.map encV) [encV (.pointer (some ⟨bp, 0, none⟩))] rfl (hO5.out.below (below_a1 _)) _ 1 1 rfl rfl (one_row rfl) (cells_new _ _ _) hone.out (by rw [List.length_map]; omega) (by decide) (by first | omega | exact Nat.le_refl _ | (simp; done) | (simp; omega)) ?_; intro s6 w6 ho6 hg6 hv6; obtain ⟨a6, c6, hs6, _⟩ := ho6.sl; rw [List.length_append, List.length_map, List.length_singleton] at hs6; subst hs6; have hX6 := hd ((hX5.out.below (below_a1 _)).grown hg6 (by intro e; have := (hO5.out.lt _ e.symm).1; omega)); have y6 := hX6.out.1 5 _ rfl; have r6 := hX6.out.2.1 5; have hg6 := hd hg6; have hv6 := hd hv6; have ho6 := hd ho6; have hz6 := hg6.out.size; clear y5')
                have hne6 : ∀ g, (Value.slice a6 (vs.length + 1) c6).ownBlock = some g → w1.heap.size + 1 ≤ g := fun g hg => (ho6.out.lt g hg).1
                have hX7 := hd (hX6.out.set (i := 5) (by simp) (.slice a6 (vs.length + 1) c6))
                have hO7 := hd (ho6.out.kept (grownBy_setCell w6 ⟨w1.heap.size, 5, none⟩ (.slice a6 (vs.length + 1) c6)) (.inr (fun e => by have : w1.heap.size + 1 ≤ w1.heap.size := hne6 _ e; omega)))
                have hS7 := hd (Sep.step hS2.out hsz2 (fun g hg => (hO2.out.lt g hg).2) hb5.out hrp.out (w2 := w5.alloc (.cells #[.pointer (some ⟨bp, 0, none⟩)] 79)) (by simp) (below_a1 w5) hg6.out hv6.out (w4 := w6.setCell ⟨w1.heap.size, 5, none⟩ (.slice a6 (vs.length + 1) c6)) rfl)
                have hB7 := hd (show Below w.heap.size w (w6.setCell ⟨w1.heap.size, 5, none⟩ (.slice a6 (vs.length + 1) c6)) from Below.setCell ((hB5.out.next (below_a1 w5 (a := .cells #[.pointer (some ⟨bp, 0, none⟩)] 79))).grown hg6.out (by first | omega | exact Nat.le_refl _ | (simp; done) | (simp; omega)) (fun g hg => by have := (hO5.out.lt g hg).1; omega)) (by simp; omega) _)
                go_wp2_with fail
                go_roundw
                case rel => exact ⟨j + 1, (.slice a6 (vs.length + 1) c6), vs ++ [.pointer (some ⟨bp, 0, none⟩)], by omega, by go_num, hX7.out, by rw [List.map_append]; exact hO7.out, by rw [htk.out]; exact hS7.out, hB7.out⟩
                case measure => simp [intOf]; omega
            · have hst := hd (show joinStep tb ta.parts[j] = [] by unfold joinStep; rw [find_none hn])
              rw [hst.out, List.append_nil] at htk
              have hn := hd hn
              clear hxm hxp rx hst
              generalize ta.parts[j] = x at *
              go_wp2_with fail
              refine cp.out.mono ?_
              rintro e w2 ⟨_, hp1, hb2⟩
              obtain rfl := hp1 hn.out
              have hX2 := hd (hX.out.below hb2)
              have hO2 := hd (hO.out.below hb2)
              have hS2 := hd (hSep.out.below hb2)
              have hbl2 := hd (hbl.out.next hb2)
              clear hb2 hp1 Q1 P2
              go_wp2_with fail
              go_roundw
              case rel => exact ⟨j + 1, s, vs, by omega, by go_num, hX2, hO2, by rw [htk.out]; exact hS2, hbl2⟩
              case measure => simp [intOf]; omega
          · obtain rfl : j = ta.parts.length := by omega
            have hltI : ¬ (ta.parts.length : Int) < (ta.parts.length : Int) := by omega
            rw [List.take_length] at hSep
            have hfin := hd (show RepP wo w.heap.size wo.heap.size (.mk o nm no false mo (joinL ta.parts tb)) (.pointer (some ⟨w1.heap.size, 0, none⟩)) from by
              rw [RepP]
              refine ⟨w1.heap.size, s, vs, rfl, ⟨by omega, hX.out.2.2⟩, ⟨hX.out.1 0 _ rfl, hX.out.1 1 _ rfl, hX.out.1 2 _ rfl, hX.out.1 3 _ rfl, hX.out.1 4 _ rfl, hX.out.1 5 _ rfl⟩, ?_, hSep.out.rep (by omega)⟩
              exact PSl.same (PSl.own hO.out (fun g hg => (hO.out.lt g hg).2)) (fun _ _ _ _ => rfl) (by omega) (Nat.le_refl _))
            go_wp2_with fail
            go_ret
            rw [hz.out]
            exact ⟨_, rfl, hfin.out, hbl.out⟩
  · have hres := hd (show z = none by rw [hz.out, if_neg hof])
    have hofb : (ta.of != tb.of) = true := by simpa using hof
    generalize ta.of = o1 at *
    generalize tb.of = o2 at *
    clear hz hof
    go_enter Try.func64, Try.ntmps64
    go_wp2_with fail
    go_quiet (fail)
    go_wp2_with fail
    go_ret
    rw [hres.out]
    exact ⟨rfl, below_drewN (Below.refl _ w) _⟩
end Go.Proofs.Ytobahkjbadamhaa

/- The reference on one type of a flat list: l2Part (with KindV, KindW). -/
import Derived.Test.YtcepnifcfkgaeaaDoorKindPTU
import Derived.Test.YtcepnifcfkgaeaaDoorKindDE
/- The reference on one type of a flat list: l2Part. -/
namespace Go.Proofs.YtcepnifcfkgaeaaDoor
open Go.RowKit
set_option linter.unusedVariables false
set_option maxRecDepth 100000
theorem str_ne {a b : ByteArray} (h : a ≠ b) : (a.toList == b.toList) = false := by
  rw [beq_eq_false_iff_ne]
  intro e
  apply h
  rw [ByteArray.toList_eq, ByteArray.toList_eq] at e
  exact ByteArray.ext (Array.ext' e)
theorem partP_up {l : List DType} {i : Nat} (h : partP l i) : ∃ hi : i < l.length, 0 ≤ l[i].up ∧ l[i].up < i := by
  obtain ⟨hi, q, hq, h1, h2, _⟩ := h
  exact ⟨hi, by omega, by omega⟩
/-- What the reference asks of a type in turn. -/
theorem partP_iff {l : List DType} {i q : Nat} (hi : i < l.length) (hq : q < l.length) (hqi : q < i) (hu : l[i].up = (q : Int)) :
    partP l i ↔ holdsB l[q].kind = true ∧ (∃ q : Nat, U l i = (q : Int) ∧ Anc l (i - 1) q) ∧ (l[q].kind = 4 → blankP l[i].name l[i].no l[i].must) ∧ (l[q].kind ≠ 4 → nameP l[i].name ∧ (1 ≤ l[i].no ∧ l[i].no ≤ 30) ∧ ahead l q i l[i].name l[i].no) := by
  constructor
  · rintro ⟨_, q', hq', h1, h2, h3, h4, h5, h6⟩
    have : q' = q := by omega
    subst this
    exact ⟨h3, ⟨q', by rw [U_at hi, hu], h4⟩, h5, h6⟩
  · rintro ⟨h3, ⟨q', h4, h5⟩, h6, h7⟩
    have : q' = q := by rw [U_at hi] at h4; omega
    subst this
    exact ⟨hi, q', hq, hqi, hu, h3, h5, h6, h7⟩
set_option maxHeartbeats 6400000 in
theorem part_s (l : List DType) (v : Value) (i : Nat) (w : World) (hl : l.length ≤ 1000000) (hs : ∀ x ∈ l, x.name.size ≤ 1000000000000) (h : Sl w v 6 (l.map DType.enc)) (hi0 : 0 < i) (hi : i < l.length) (hw : ∀ k, k < i → U l k < (k : Int)) (r : Bool) (hr : r = true ↔ partP l i) :
    Calls Tryd.prog 19 #[.agg #[v], .int .i64 i] w (BoolPost r w) := by
  rcases h.open with ⟨a1, c1, rfl, hrr⟩ | ⟨b1, o1, c, rfl, hrr, C⟩
  · exfalso; have : l = [] := by simpa using hrr
    subst this; simp at hi
  clear hrr h
  simp only [List.length_map]
  have hC := hd C
  have hiI : (i : Int) < (l.length : Int) := by omega
  have hq := hd (show (w.alloc (.cells #[.slice (some ⟨b1, o1, none⟩) l.length c] 30)).cell? ⟨w.heap.size, 0, none⟩ = some (.slice (some ⟨b1, o1, none⟩) l.length c) by go_simp)
  obtain ⟨V, hV⟩ : ∃ V, V = w.alloc (.cells #[.slice (some ⟨b1, o1, none⟩) l.length c] 30) := ⟨_, rfl⟩
  have hbV := hd (show Below w.heap.size w V by rw [hV]; exact below_a1 w)
  have hsV : V.heap.size = w.heap.size + 1 := by rw [hV]; simp
  rw [← hV] at hq
  replace hV := hd hV
  obtain ⟨f0, f1, f2, f3, f4, f5⟩ := Cells.rowType l i hi (hC.out.mono hbV.out)
  have hnm := hs l[i] (List.getElem_mem hi)
  replace hs := hd hs
  have hgen : ∀ q (hq : q < l.length) (hqi : q < i), l[i].up = (q : Int) → _ := fun q hq hqi hu => partP_iff hi hq hqi hu
  have hup := hd (fun h => partP_up (l := l) (i := i) h)
  replace hgen := hd hgen
  replace hw := hd hw
  replace hr := hd hr
  have hca := hd (fun (w' : World) (hb : Below w.heap.size w w') (z : Bool) hz => around_s l b1 o1 c i w' hl (hC.out.mono hb) hi0 hi hw.out z hz)
  generalize hx : l[i] = x at *
  replace hx := hd hx
  have pf := keepCell (below_a1 V (a := .cells #[.int .i64 x.kind, .string x.name, .int .i64 x.no, .bool x.must, .int .i64 x.up, .int .i64 x.most] 50)) hq.out
  have hX := hd (show BoxN (V.alloc (.cells #[.int .i64 x.kind, .string x.name, .int .i64 x.no, .bool x.must, .int .i64 x.up, .int .i64 x.most] 50)) V.heap.size x.enc from BoxN.new V x.enc _)
  have hbW := hd (hbV.out.next (below_a1 V (a := .cells #[.int .i64 x.kind, .string x.name, .int .i64 x.no, .bool x.must, .int .i64 x.up, .int .i64 x.most] 50)))
  rw [hsV] at hX
  clear C
  go_enter Tryd.func19, Tryd.ntmps19
  go_upto_region 1 with (fail)
  rw [← hV.out]
  clear hV
  have qV := hq.out
  go_upto_region 2 with (fail)
  have p0 := hX.out.1 0 _ rfl; have p1 := hX.out.1 1 _ rfl; have p2 := hX.out.1 2 _ rfl; have p3 := hX.out.1 3 _ rfl; have p4 := hX.out.1 4 _ rfl; have p5 := hX.out.1 5 _ rfl
  generalize V.alloc (.cells #[.int .i64 x.kind, .string x.name, .int .i64 x.no, .bool x.must, .int .i64 x.up, .int .i64 x.most] 50) = W at *
  clear f0 f1 f2 f3 f4 f5 hsV p0 p5 qV
  by_cases hu0 : x.up < 0
  · have hres := hd (show r = false by
      rw [← Bool.not_eq_true, hr.out]; intro g
      obtain ⟨_, g1, _⟩ := hup.out g
      rw [hx.out] at g1; omega)
    go_wp2_with fail
    go_ret
    exact ⟨by rw [hres.out]; rfl, hbW.out⟩
  by_cases hui : (i : Int) ≤ x.up
  · have hres := hd (show r = false by
      rw [← Bool.not_eq_true, hr.out]; intro g
      obtain ⟨_, _, g1⟩ := hup.out g
      rw [hx.out] at g1; omega)
    go_wp2_with fail
    go_ret
    exact ⟨by rw [hres.out]; rfl, hbW.out⟩
  obtain ⟨q, hqu⟩ := Int.eq_ofNat_of_zero_le (show 0 ≤ x.up by omega)
  have hqi : q < i := by omega
  have hql : q < l.length := by omega
  have hiff := hgen.out q hql hqi hqu
  obtain ⟨g0, g1, g2, g3, g4, g5⟩ := Cells.rowType l q hql (hC.out.mono hbW.out)
  have hqI : (q : Int) < (l.length : Int) := by omega
  have hq0 : ¬ (q : Int) < 0 := by omega
  have hqiI : ¬ (i : Int) ≤ (q : Int) := by omega
  rw [hqu] at p4
  replace hqu := hd hqu
  clear hgen hup g1 g2 g3 g4 g5 hu0 hui
  generalize l[q].kind = kq at *
  have ch := hd (fun w => holds_s kq w)
  obtain ⟨rA, hrA⟩ := boolOf (∃ q : Nat, U l i = (q : Int) ∧ Anc l (i - 1) q)
  have ca := hd (hca.out W hbW.out rA hrA)
  cases hhq : holdsB kq with
  | false =>
    rw [hhq] at ch
    have hres := hd (show r = false by rw [← Bool.not_eq_true, hr.out, hiff]; rintro ⟨g, _⟩; rw [hhq] at g; cases g)
    clear hiff hrA hhq
    go_wp2_with fail
    refine (ch.out _).mono ?_
    rintro e w' ⟨rfl, rfl⟩
    go_wp2_with fail
    go_ret
    exact ⟨by rw [hres.out]; rfl, hbW.out⟩
  | true =>
    rw [hhq] at ch
    cases rA with
    | false =>
      have hres := hd (show r = false by rw [← Bool.not_eq_true, hr.out, hiff]; rintro ⟨_, g, _⟩; exact absurd (hrA.2 g) (by simp))
      clear hiff hrA hhq
      go_wp2_with fail
      refine (ch.out _).mono ?_
      rintro e w' ⟨rfl, rfl⟩
      go_wp2_with fail
      refine ca.out.mono ?_
      rintro e w' ⟨rfl, rfl⟩
      go_wp2_with fail
      go_ret
      exact ⟨by rw [hres.out]; rfl, hbW.out⟩
    | true =>
      by_cases h4 : kq = 4
      · have hz := hd (show r = (x.name.toList.isEmpty && (x.no == 0) && !x.must) by
          rw [Bool.eq_iff_iff, hr.out, hiff]
          simp only [Bool.and_eq_true, emp_iff, beq_iff_eq, Bool.not_eq_true']
          constructor
          · rintro ⟨_, _, g, _⟩; have := g h4; exact ⟨⟨this.1, this.2.1⟩, this.2.2⟩
          · rintro ⟨⟨k1, k2⟩, k3⟩; exact ⟨hhq, hrA.1 rfl, fun _ => ⟨k1, k2, k3⟩, fun g => absurd h4 g⟩)
        clear hiff hrA hhq
        subst h4
        cases hn : x.name.toList.isEmpty with
        | false =>
          go_wp2_with fail
          refine (ch.out _).mono ?_
          rintro e w' ⟨rfl, rfl⟩
          go_wp2_with fail
          refine ca.out.mono ?_
          rintro e w' ⟨rfl, rfl⟩
          go_wp2_with fail
          go_ret
          exact ⟨by rw [hz.out, hn]; rfl, hbW.out⟩
        | true =>
          cases hno : (x.no == 0) with
          | false =>
            go_wp2_with fail
            refine (ch.out _).mono ?_
            rintro e w' ⟨rfl, rfl⟩
            go_wp2_with fail
            refine ca.out.mono ?_
            rintro e w' ⟨rfl, rfl⟩
            go_wp2_with fail
            go_ret
            exact ⟨by rw [hz.out, hn, hno]; rfl, hbW.out⟩
          | true =>
            go_wp2_with fail
            refine (ch.out _).mono ?_
            rintro e w' ⟨rfl, rfl⟩
            go_wp2_with fail
            refine ca.out.mono ?_
            rintro e w' ⟨rfl, rfl⟩
            go_wp2_with fail
            go_ret
            exact ⟨by rw [hz.out, hn, hno]; rfl, hbW.out⟩
      · have h4b : (kq == 4) = false := by simpa using h4
        have hz := hd (show r = true ↔ nameP x.name ∧ (1 ≤ x.no ∧ x.no ≤ 30) ∧ ahead l q i x.name x.no by
          rw [hr.out, hiff]
          constructor
          · rintro ⟨_, _, _, g⟩; exact g h4
          · intro g; exact ⟨hhq, hrA.1 rfl, fun k => absurd k h4, fun _ => g⟩)
        clear hiff hrA hhq h4
        obtain ⟨n, hn⟩ := boolOf (nameP x.name)
        have cn := hd (fun w => name_s x.name w hnm n hn)
        replace hn := hd hn
        cases n with
        | false =>
          have hres := hd (show r = false by rw [← Bool.not_eq_true, hz.out]; rintro ⟨g, _⟩; exact absurd (hn.out.2 g) (by simp))
          go_wp2_with fail
          refine (ch.out _).mono ?_
          rintro e w' ⟨rfl, rfl⟩
          go_wp2_with fail
          refine ca.out.mono ?_
          rintro e w' ⟨rfl, rfl⟩
          go_wp2_with fail
          refine (cn.out _).mono ?_
          rintro e w' ⟨rfl, rfl⟩
          go_wp2_with fail
          go_ret
          exact ⟨by rw [hres.out]; rfl, hbW.out⟩
        | true =>
          by_cases hno : 1 ≤ x.no ∧ x.no ≤ 30
          · have cw := hd (fun w => within_s x.no 1 30 w true (by simpa using hno))
            have hz := hd (show r = true ↔ ahead l q i x.name x.no by
              rw [hz.out]; exact ⟨fun g => g.2.2, fun g => ⟨hn.out.1 rfl, hno, g⟩⟩)
            have hw9 : IntKind.i64.wrap ((q : Int) + 1) = ((q + 1 : Nat) : Int) := by rw [IntWalk.i64_in _ (by omega)]; omega
            clear hno
            go_wp2_with fail
            refine (ch.out _).mono ?_
            rintro e w' ⟨rfl, rfl⟩
            go_wp2_with fail
            refine ca.out.mono ?_
            rintro e w' ⟨rfl, rfl⟩
            go_wp2_with fail
            refine (cn.out _).mono ?_
            rintro e w' ⟨rfl, rfl⟩
            go_wp2_with fail
            refine (cw.out _).mono ?_
            rintro e w' ⟨rfl, rfl⟩
            clear ch ca cn cw
            go_wp2_with fail
            go_loopw [6] (fun n wr => ∃ k : Nat, n = .int .i64 k ∧ (q < k ∧ k ≤ i) ∧ Hd (ahead l q k x.name x.no) ∧ Hd (Below W.heap.size W wr)) (fun n _ => i - (intOf n).toNat)
            case atStart => exact ⟨q + 1, by go_num, by omega, fun m h1 h2 => by omega, Below.refl _ _⟩
            case round =>
              obtain ⟨k, rfl, ⟨hqk, hki⟩, hah, hbl⟩ := hrel
              obtain ⟨wo, rfl⟩ : ∃ wo : World, wo = wr := ⟨_, rfl⟩
              have t1 := keepCell hbl.out p1
              have t2 := keepCell hbl.out p2
              have t4 := keepCell hbl.out p4
              have tf := keepCell hbl.out pf
              have hbo := hd (hbW.out.next hbl.out)
              by_cases hlt : k < i
              · have hltI : (k : Int) < (i : Int) := by omega
                have hkl : k < l.length := by omega
                have hkI : (k : Int) < (l.length : Int) := by omega
                obtain ⟨y0, y1, y2, y3, y4, y5⟩ := Cells.rowType l k hkl (hC.out.mono hbo.out)
                have hUk := hd (U_at hkl)
                have hstep := hd (fun (g : U l k = (q : Int) → l[k].no < x.no ∧ l[k].name ≠ x.name) => (show ahead l q (k + 1) x.name x.no from fun m h1 h2 h3 h4 => by
                  by_cases e : m = k
                  · subst e; exact g h4
                  · exact hah.out m h1 (by omega) h3 h4))
                have hbad := hd (fun (g : U l k = (q : Int)) (g2 : ¬ (l[k].no < x.no ∧ l[k].name ≠ x.name)) => (show r = false from by
                  rw [← Bool.not_eq_true, hz.out]; intro k1
                  exact g2 (k1 k hqk hlt hkl g)))
                generalize l[k] = y at *
                have s1 := fun o => keepCell (below_a1 wo (a := o)) t1
                have s2 := fun o => keepCell (below_a1 wo (a := o)) t2
                have s4 := fun o => keepCell (below_a1 wo (a := o)) t4
                have hbo2 := hd (fun o => hbo.out.next (below_a1 wo (a := o)))
                have hbl2 := hd (fun o => hbl.out.next (below_a1 wo (a := o)))
                by_cases hyu : y.up = (q : Int)
                · rw [hyu] at y4
                  by_cases hyn : x.no ≤ y.no
                  · have hres := hd (hbad.out (by rw [hUk.out, hyu]) (fun g => by omega))
                    clear hyu
                    go_wp2_with fail
                    go_ret
                    exact ⟨by rw [hres.out]; rfl, hbo2.out _⟩
                  · by_cases hye : y.name = x.name
                    · have hres := hd (hbad.out (by rw [hUk.out, hyu]) (fun g => g.2 hye))
                      rw [hye] at y1
                      clear hyu hye
                      go_wp2_with fail
                      go_ret
                      exact ⟨by rw [hres.out]; rfl, hbo2.out _⟩
                    · have hst := hd (hstep.out (fun _ => ⟨by omega, hye⟩))
                      have hyeb := str_ne hye
                      clear hyu
                      go_wp2_with fail
                      go_roundw
                      case rel => exact ⟨k + 1, by go_num, by omega, hst, hbl2.out _⟩
                      case measure => simp [intOf]; omega
                · have hyub : (y.up == (q : Int)) = false := by simpa using hyu
                  have hst := hd (hstep.out (fun g => absurd (by rw [← hUk.out]; exact g) hyu))
                  clear hyu
                  go_wp2_with fail
                  go_roundw
                  case rel => exact ⟨k + 1, by go_num, by omega, hst, hbl2.out _⟩
                  case measure => simp [intOf]; omega
              · obtain rfl : k = i := by omega
                have hltI : ¬ (k : Int) < (k : Int) := by omega
                have hres := hd (hz.out.2 hah.out)
                go_wp2_with fail
                go_ret
                exact ⟨by rw [hres.out]; rfl, hbo.out⟩
          · have cw := hd (fun w => within_s x.no 1 30 w false (by simp; omega))
            have hres := hd (show r = false by rw [← Bool.not_eq_true, hz.out]; rintro ⟨_, g, _⟩; exact hno g)
            clear hno
            go_wp2_with fail
            refine (ch.out _).mono ?_
            rintro e w' ⟨rfl, rfl⟩
            go_wp2_with fail
            refine ca.out.mono ?_
            rintro e w' ⟨rfl, rfl⟩
            go_wp2_with fail
            refine (cn.out _).mono ?_
            rintro e w' ⟨rfl, rfl⟩
            go_wp2_with fail
            refine (cw.out _).mono ?_
            rintro e w' ⟨rfl, rfl⟩
            go_wp2_with fail
            go_ret
            exact ⟨by rw [hres.out]; rfl, hbW.out⟩
end Go.Proofs.YtcepnifcfkgaeaaDoor
/- GoodSchema of the reference. -/
namespace Go.Proofs.YtcepnifcfkgaeaaDoor
open Go.RowKit
set_option linter.unusedVariables false
set_option maxRecDepth 100000
theorem flat_enc {l : List DType} (hf : flatP l) : ∃ t, enc l t 0 l.length := by
  obtain ⟨h0, h1, h2, h3⟩ := hf.2.1
  have hn := hf.1
  have hU : U l 0 = -1 := by rw [U_at h0, h2]
  obtain ⟨t, e, g1, g2⟩ := parse l.length 0 (by omega) h0 (fun i hi => by
    have : i = 0 := by omega
    subst this; rw [hU]; omega)
  have he : e = l.length := by
    obtain ⟨b1, b2, b3⟩ := enc_bd t _ _ g1
    by_cases hlt : e < l.length
    · exfalso
      obtain ⟨hi, q, hq, h1, h2, h3, h4, _⟩ := hf.2.2.2.1 e (by omega) hlt
      exact g2 q (Nat.zero_le _) h4 ⟨hq, h3⟩ (by rw [U_at hlt, h2])
    · omega
  subst he
  exact ⟨t, g1⟩
def rootT (x : DType) : Prop := x.kind = 5 ∧ x.up = -1 ∧ blankP x.name x.no x.must
def preT (l : List DType) (k : Nat) (i : Nat) (x : DType) : Prop := okT x ∧ (i = 0 → rootT x) ∧ (0 < i → partP l i)
def preL (l : List DType) (k : Nat) : Prop := ∀ i (h : i < l.length), i < k → preT l k i l[i]
def oneL (l : List DType) (k : Nat) : Prop := ∀ i (h : i < l.length), i < k → l[i].kind = 4 → (kidsOf l i).length = 1
theorem flat_iff {l : List DType} (hn : 1 ≤ l.length ∧ l.length ≤ 30) : flatP l ↔ preL l l.length ∧ oneL l l.length := by
  constructor
  · rintro ⟨_, ⟨h0, h1⟩, h2, h3, h4⟩
    exact ⟨fun i hi _ => ⟨h2 i hi, fun e => by subst e; exact h1, fun e => h3 i e hi⟩, fun i hi _ => h4 i hi⟩
  · rintro ⟨h1, h2⟩
    exact ⟨hn, ⟨by omega, (h1 0 (by omega) (by omega)).2.1 rfl⟩, fun i hi => (h1 i hi hi).1, fun i h0 hi => (h1 i hi hi).2.2 h0, fun i hi => h2 i hi hi⟩
theorem preL_up {l : List DType} {k : Nat} (h : preL l k) (hk : k ≤ l.length) : ∀ i, i < k → U l i < (i : Int) := by
  intro i hi
  have hp := h i (by omega) hi
  rw [U_at (by omega)]
  by_cases h0 : i = 0
  · have := (hp.2.1 h0).2.1; omega
  · obtain ⟨_, _, g⟩ := partP_up (hp.2.2 (by omega)); exact g
theorem good_flat {l : List DType} {t : K} (hf : flatP l) (he : enc l t 0 l.length) : goodP l ↔ deepK t ≤ 5 := by
  constructor
  · rintro ⟨_, t', h1, h2⟩
    have : t = t' := Sb.uniq t 0 t' (enc_out he) (enc_out h1)
    subst this; exact h2
  · intro h; exact ⟨hf, t, he, h⟩
set_option maxHeartbeats 6400000 in
theorem GoodSchema_s (l : List DType) (v : Value) (w : World) (hl : l.length ≤ 1000000000000) (hs : ∀ x ∈ l, x.name.size ≤ 1000000000000) (h : Sl w v 6 (l.map DType.enc)) (r : Bool) (hr : r = true ↔ goodP l) :
    Calls Tryd.prog 10 #[.agg #[v]] w (BoolPost r w) := by
  by_cases hn : 1 ≤ l.length ∧ l.length ≤ 30
  · rcases h.open with ⟨a1, c1, rfl, hrr⟩ | ⟨b1, o1, c, rfl, hrr, C⟩
    · exfalso; have : l = [] := by simpa using hrr
      subst this; simp at hn
    clear hrr
    have hSl := hd h
    clear h
    simp only [List.length_map] at *
    have hC := hd C
    obtain ⟨hn1, hn2⟩ := hn
    replace hr := hd hr
    replace hs := hd hs
    have cw := hd (fun w => within_s (l.length : Int) 1 30 w true (by simp; omega))
    have hq := hd (show (w.alloc (.cells #[.slice (some ⟨b1, o1, none⟩) l.length c] 30)).cell? ⟨w.heap.size, 0, none⟩ = some (.slice (some ⟨b1, o1, none⟩) l.length c) by go_simp)
    obtain ⟨W, hW⟩ : ∃ W, W = w.alloc (.cells #[.slice (some ⟨b1, o1, none⟩) l.length c] 30) := ⟨_, rfl⟩
    have hbW := hd (show Below w.heap.size w W by rw [hW]; exact below_a1 w)
    have hsW : W.heap.size = w.heap.size + 1 := by rw [hW]; simp
    rw [← hW] at hq
    replace hW := hd hW
    have cpart := hd (fun (k : Nat) (w' : World) (hb : Below w.heap.size w w') (hk0 : 0 < k) (hk : k < l.length) (hpre : preL l k) (rp : Bool) hrp => part_s l _ k w' (by omega) hs.out (hSl.out.mono hb) hk0 hk (preL_up hpre (by omega)) rp hrp)
    have ckids := hd (fun (k : Nat) (w' : World) (hb : Below w.heap.size w w') (hk : k < l.length) => kids_s l _ k w' (by omega) (hSl.out.mono hb) hk)
    clear C
    go_enter Tryd.func10, Tryd.ntmps10
    go_upto_region 1 with (fail)
    rw [← hW.out]
    clear hW
    have qW := hq.out
    go_wp2_with fail
    refine (cw.out _).mono ?_
    rintro e w' ⟨rfl, rfl⟩
    go_wp2_with fail
    clear qW
    go_loopw [15] (fun n wr => ∃ k : Nat, k ≤ l.length ∧ n = .int .i64 k ∧ Hd (preL l k) ∧ Hd (Below W.heap.size W wr)) (fun n _ => l.length - (intOf n).toNat)
    case atStart => exact ⟨0, Nat.zero_le _, rfl, fun i h1 h2 => by omega, Below.refl _ _⟩
    case round =>
      obtain ⟨k, hk, rfl, hpre, hbl⟩ := hrel
      obtain ⟨wo, rfl⟩ : ∃ wo : World, wo = wr := ⟨_, rfl⟩
      have qf := keepCell hbl.out hq.out
      have hbw := hd (hbW.out.next hbl.out)
      by_cases hlt : k < l.length
      · have hltI : (k : Int) < (l.length : Int) := by omega
        obtain ⟨f0, f1, f2, f3, f4, f5⟩ := Cells.rowType l k hlt (hC.out.mono hbw.out)
        have hstep := hd (fun (g : preT l k k l[k]) => (show preL l (k + 1) from fun i h1 h2 => by
          by_cases e : i = k
          · subst e; exact g
          · exact hpre.out i h1 (by omega)))
        have hbad := hd (fun (g : ¬ preT l k k l[k]) => (show r = false from by
          rw [← Bool.not_eq_true, hr.out]; rintro ⟨hf, _⟩
          exact g (((flat_iff ⟨hn1, hn2⟩).1 hf).1 k hlt hlt)))
        generalize hx : l[k] = x at *
        replace hx := hd hx
        have hX := hd (show BoxN (wo.alloc (.cells #[.int .i64 x.kind, .string x.name, .int .i64 x.no, .bool x.must, .int .i64 x.up, .int .i64 x.most] 50)) wo.heap.size x.enc from BoxN.new wo x.enc _)
        have hbl2 := hd (hbl.out.next (below_a1 wo (a := (.cells #[.int .i64 x.kind, .string x.name, .int .i64 x.no, .bool x.must, .int .i64 x.up, .int .i64 x.most] 50))))
        have hbo := hd (hbw.out.next (below_a1 wo (a := (.cells #[.int .i64 x.kind, .string x.name, .int .i64 x.no, .bool x.must, .int .i64 x.up, .int .i64 x.most] 50))))
        have qf2 := keepCell (below_a1 wo (a := (.cells #[.int .i64 x.kind, .string x.name, .int .i64 x.no, .bool x.must, .int .i64 x.up, .int .i64 x.most] 50))) qf
        go_upto_region 6 with (fail)
        have p0 := hX.out.1 0 _ rfl; have p1 := hX.out.1 1 _ rfl; have p2 := hX.out.1 2 _ rfl; have p3 := hX.out.1 3 _ rfl; have p4 := hX.out.1 4 _ rfl; have p5 := hX.out.1 5 _ rfl
        generalize wo.alloc (.cells #[.int .i64 x.kind, .string x.name, .int .i64 x.no, .bool x.must, .int .i64 x.up, .int .i64 x.most] 50) = W4 at *
        clear f0 f1 f2 f3 f4 f5 qf
        by_cases hkk : 1 ≤ x.kind ∧ x.kind ≤ 5
        · have c5 := hd (fun w => within_s x.kind 1 5 w true (by simpa using hkk))
          by_cases h3 : x.kind = 3
          · rw [h3] at c5 p0
            by_cases hm : 0 ≤ x.most ∧ x.most ≤ 20
            · have cm := hd (fun w => within_s x.most 0 20 w true (by simpa using hm))
              have hok := hd (show okT x from ⟨hkk.1, hkk.2, fun _ => hm, fun g => absurd h3 g⟩)
              by_cases hk0 : k = 0
              · subst hk0
                have hres := hd (hbad.out (fun g => by have := (g.2.1 rfl).1; omega))
                clear hkk hm h3
                go_wp2_with fail
                refine (c5.out _).mono ?_
                rintro e w' ⟨rfl, rfl⟩
                go_wp2_with fail
                refine (cm.out _).mono ?_
                rintro e w' ⟨rfl, rfl⟩
                go_wp2_with fail
                go_ret
                exact ⟨by rw [hres.out]; rfl, hbo.out⟩
              · obtain ⟨rp, hrp⟩ := boolOf (partP l k)
                have hk0 : 0 < k := by omega
                have hk0I : (0 : Int) < (k : Int) := by omega
                have hk0b : ((k : Int) == 0) = false := by simp; omega
                have cp := hd (cpart.out k W4 hbo.out hk0 hlt hpre.out rp hrp)
                replace hrp := hd hrp
                clear hkk hm h3
                cases rp with
                | false =>
                  have hres := hd (hbad.out (fun g => by have := hrp.out.2 (g.2.2 hk0); simp at this))
                  go_wp2_with fail
                  refine (c5.out _).mono ?_
                  rintro e w' ⟨rfl, rfl⟩
                  go_wp2_with fail
                  refine (cm.out _).mono ?_
                  rintro e w' ⟨rfl, rfl⟩
                  go_wp2_with fail
                  refine cp.out.mono ?_
                  rintro e w6 ⟨rfl, hb6⟩
                  have hb7 := hd (hbo.out.next hb6)
                  clear hb6
                  go_wp2_with fail
                  go_ret
                  exact ⟨by rw [hres.out]; rfl, hb7.out⟩
                | true =>
                  have hnx := hd (hstep.out ⟨hok.out, fun e => by omega, fun _ => hrp.out.1 rfl⟩)
                  go_wp2_with fail
                  refine (c5.out _).mono ?_
                  rintro e w' ⟨rfl, rfl⟩
                  go_wp2_with fail
                  refine (cm.out _).mono ?_
                  rintro e w' ⟨rfl, rfl⟩
                  go_wp2_with fail
                  refine cp.out.mono ?_
                  rintro e w6 ⟨rfl, hb6⟩
                  have hbl3 := hd (hbl2.out.next hb6)
                  clear hb6
                  go_wp2_with fail
                  go_roundw
                  case rel => exact ⟨k + 1, by omega, by go_num, hnx, hbl3⟩
                  case measure => simp [intOf]; omega
            · have cm := hd (fun w => within_s x.most 0 20 w false (by simp; omega))
              have hres := hd (hbad.out (fun g => by have := g.1.2.2.1 h3; exact hm this))
              clear hkk hm h3
              go_wp2_with fail
              refine (c5.out _).mono ?_
              rintro e w' ⟨rfl, rfl⟩
              go_wp2_with fail
              refine (cm.out _).mono ?_
              rintro e w' ⟨rfl, rfl⟩
              go_wp2_with fail
              go_ret
              exact ⟨by rw [hres.out]; rfl, hbo.out⟩
          · have h3b : (x.kind == 3) = false := by simpa using h3
            have h3n : (x.kind != 3) = true := by simpa using h3
            by_cases hm : x.most = 0
            · have hok := hd (show okT x from ⟨hkk.1, hkk.2, fun g => absurd g h3, fun _ => hm⟩)
              have hmb : (x.most != 0) = false := by simpa using hm
              replace hm := hd hm
              by_cases hk0 : k = 0
              · subst hk0
                clear hkk h3
                by_cases hx5 : x.kind = 5
                · have hx5b : (x.kind != 5) = false := by simpa using hx5
                  replace hx5 := hd hx5
                  by_cases hxu : x.up = -1
                  · have hxub : (x.up != -1) = false := by simpa using hxu
                    replace hxu := hd hxu
                    by_cases hxn : x.name = ⟨#[]⟩
                    · have hxnb : x.name.toList.isEmpty = true := emp_iff.2 hxn
                      replace hxn := hd hxn
                      by_cases hxo : x.no = 0
                      · have hxob : (x.no != 0) = false := by simpa using hxo
                        replace hxo := hd hxo
                        cases hmu : x.must with
                        | true =>
                          have hres := hd (hbad.out (fun g => by have := (g.2.1 rfl).2.2.2.2; rw [hmu] at this; cases this))
                          rw [hmu] at p3
                          go_wp2_with fail
                          refine (c5.out _).mono ?_
                          rintro e w' ⟨rfl, rfl⟩
                          go_wp2_with fail
                          go_ret
                          exact ⟨by rw [hres.out]; rfl, hbo.out⟩
                        | false =>
                          have hnx := hd (hstep.out ⟨hok.out, fun _ => ⟨hx5.out, hxu.out, hxn.out, hxo.out, hmu⟩, fun e => by omega⟩)
                          rw [hmu] at p3
                          go_wp2_with fail
                          refine (c5.out _).mono ?_
                          rintro e w' ⟨rfl, rfl⟩
                          go_wp2_with fail
                          go_roundw
                          case rel => exact ⟨0 + 1, by omega, by go_num, hnx, hbl2⟩
                          case measure => simp [intOf]; omega
                      · have hres := hd (hbad.out (fun g => by exact hxo (g.2.1 rfl).2.2.2.1))
                        have hxob : (x.no != 0) = true := by simpa using hxo
                        clear hxo
                        go_wp2_with fail
                        refine (c5.out _).mono ?_
                        rintro e w' ⟨rfl, rfl⟩
                        go_wp2_with fail
                        go_ret
                        exact ⟨by rw [hres.out]; rfl, hbo.out⟩
                    · have hres := hd (hbad.out (fun g => by exact hxn (g.2.1 rfl).2.2.1))
                      have hxnb : x.name.toList.isEmpty = false := by rw [← Bool.not_eq_true, emp_iff]; exact hxn
                      clear hxn
                      go_wp2_with fail
                      refine (c5.out _).mono ?_
                      rintro e w' ⟨rfl, rfl⟩
                      go_wp2_with fail
                      go_ret
                      exact ⟨by rw [hres.out]; rfl, hbo.out⟩
                  · have hres := hd (hbad.out (fun g => by exact hxu (g.2.1 rfl).2.1))
                    have hxub : (x.up != -1) = true := by simpa using hxu
                    clear hxu
                    go_wp2_with fail
                    refine (c5.out _).mono ?_
                    rintro e w' ⟨rfl, rfl⟩
                    go_wp2_with fail
                    go_ret
                    exact ⟨by rw [hres.out]; rfl, hbo.out⟩
                · have hres := hd (hbad.out (fun g => by exact hx5 (g.2.1 rfl).1))
                  have hx5b : (x.kind != 5) = true := by simpa using hx5
                  clear hx5
                  go_wp2_with fail
                  refine (c5.out _).mono ?_
                  rintro e w' ⟨rfl, rfl⟩
                  go_wp2_with fail
                  go_ret
                  exact ⟨by rw [hres.out]; rfl, hbo.out⟩
              · obtain ⟨rp, hrp⟩ := boolOf (partP l k)
                have hk0 : 0 < k := by omega
                have hk0I : (0 : Int) < (k : Int) := by omega
                have hk0b : ((k : Int) == 0) = false := by simp; omega
                have cp := hd (cpart.out k W4 hbo.out hk0 hlt hpre.out rp hrp)
                replace hrp := hd hrp
                clear hkk h3
                cases rp with
                | false =>
                  have hres := hd (hbad.out (fun g => by have := hrp.out.2 (g.2.2 hk0); simp at this))
                  go_wp2_with fail
                  refine (c5.out _).mono ?_
                  rintro e w' ⟨rfl, rfl⟩
                  go_wp2_with fail
                  refine cp.out.mono ?_
                  rintro e w6 ⟨rfl, hb6⟩
                  have hb7 := hd (hbo.out.next hb6)
                  clear hb6
                  go_wp2_with fail
                  go_ret
                  exact ⟨by rw [hres.out]; rfl, hb7.out⟩
                | true =>
                  have hnx := hd (hstep.out ⟨hok.out, fun e => by omega, fun _ => hrp.out.1 rfl⟩)
                  go_wp2_with fail
                  refine (c5.out _).mono ?_
                  rintro e w' ⟨rfl, rfl⟩
                  go_wp2_with fail
                  refine cp.out.mono ?_
                  rintro e w6 ⟨rfl, hb6⟩
                  have hbl3 := hd (hbl2.out.next hb6)
                  clear hb6
                  go_wp2_with fail
                  go_roundw
                  case rel => exact ⟨k + 1, by omega, by go_num, hnx, hbl3⟩
                  case measure => simp [intOf]; omega
            · have hmb : (x.most != 0) = true := by simpa using hm
              have hres := hd (hbad.out (fun g => by have := g.1.2.2.2 h3; exact hm this))
              clear hkk hm h3
              go_wp2_with fail
              refine (c5.out _).mono ?_
              rintro e w' ⟨rfl, rfl⟩
              go_wp2_with fail
              go_ret
              exact ⟨by rw [hres.out]; rfl, hbo.out⟩
        · have c5 := hd (fun w => within_s x.kind 1 5 w false (by simp; omega))
          have hres := hd (hbad.out (fun g => by exact hkk ⟨g.1.1, g.1.2.1⟩))
          clear hkk
          go_wp2_with fail
          refine (c5.out _).mono ?_
          rintro e w' ⟨rfl, rfl⟩
          go_wp2_with fail
          go_ret
          exact ⟨by rw [hres.out]; rfl, hbo.out⟩
      · obtain rfl : k = l.length := by omega
        have hltI : ¬ (l.length : Int) < (l.length : Int) := by omega
        go_wp2_with fail
        go_loopw [85] (fun n wr => ∃ k : Nat, k ≤ l.length ∧ n = .int .i64 k ∧ Hd (oneL l k) ∧ Hd (Below W.heap.size W wr)) (fun n _ => l.length - (intOf n).toNat)
        case atStart => exact ⟨0, Nat.zero_le _, rfl, fun i h1 h2 => by omega, hbl.out⟩
        case round =>
          clear qf
          obtain ⟨k, hk2, rfl, hone, hbl9⟩ := hrel
          rename World => wp
          obtain ⟨wo, rfl⟩ : ∃ wo : World, wo = wp := ⟨_, rfl⟩
          have qf := keepCell hbl9.out hq.out
          have hbw := hd (hbW.out.next hbl9.out)
          by_cases hlt : k < l.length
          · have hltI : (k : Int) < (l.length : Int) := by omega
            obtain ⟨f0, f1, f2, f3, f4, f5⟩ := Cells.rowType l k hlt (hC.out.mono hbw.out)
            have hstep := hd (fun (g : l[k].kind = 4 → (kidsOf l k).length = 1) => (show oneL l (k + 1) from fun i h1 h2 => by
              by_cases e : i = k
              · subst e; exact g
              · exact hone.out i h1 (by omega)))
            have hbad := hd (fun (g : ¬ (l[k].kind = 4 → (kidsOf l k).length = 1)) => (show r = false from by
              rw [← Bool.not_eq_true, hr.out]; rintro ⟨hf, _⟩
              exact g (((flat_iff ⟨hn1, hn2⟩).1 hf).2 k hlt hlt)))
            have hbl2 := hd (hbl9.out.next (below_a1 wo (a := (.cells #[.int .i64 l[k].kind, .string l[k].name, .int .i64 l[k].no, .bool l[k].must, .int .i64 l[k].up, .int .i64 l[k].most] 50))))
            have hbo := hd (hbw.out.next (below_a1 wo (a := (.cells #[.int .i64 l[k].kind, .string l[k].name, .int .i64 l[k].no, .bool l[k].must, .int .i64 l[k].up, .int .i64 l[k].most] 50))))
            have ck := hd (ckids.out k (wo.alloc (.cells #[.int .i64 l[k].kind, .string l[k].name, .int .i64 l[k].no, .bool l[k].must, .int .i64 l[k].up, .int .i64 l[k].most] 50)) hbo.out hlt)
            have hX := hd (show BoxN (wo.alloc (.cells #[.int .i64 l[k].kind, .string l[k].name, .int .i64 l[k].no, .bool l[k].must, .int .i64 l[k].up, .int .i64 l[k].most] 50)) wo.heap.size l[k].enc from BoxN.new wo l[k].enc _)
            have qf2 := keepCell (below_a1 wo (a := (.cells #[.int .i64 l[k].kind, .string l[k].name, .int .i64 l[k].no, .bool l[k].must, .int .i64 l[k].up, .int .i64 l[k].most] 50))) qf
            generalize l[k] = x at *
            go_upto_region 14 with (fail)
            have p0 := hX.out.1 0 _ rfl
            generalize wo.alloc (.cells #[.int .i64 x.kind, .string x.name, .int .i64 x.no, .bool x.must, .int .i64 x.up, .int .i64 x.most] 50) = W4 at *
            clear f0 f1 f2 f3 f4 f5 qf
            by_cases h4 : x.kind = 4
            · rw [h4] at p0
              by_cases hkl : (kidsOf l k).length = 1
              · have hnx := hd (hstep.out (fun _ => hkl))
                go_wp2_with fail
                refine ck.out.mono ?_
                rintro e w6 ⟨vK, rfl, hoK, hb6⟩
                obtain ⟨aK, cK, rfl, _⟩ := hoK.sl
                rw [List.length_map, hkl]
                have hbl3 := hd (hbl2.out.next hb6)
                clear hoK hb6 hkl h4
                go_wp2_with fail
                go_roundw
                case rel => exact ⟨k + 1, by omega, by go_num, hnx, hbl3⟩
                case measure => simp [intOf]; omega
              · have hres := hd (hbad.out (fun g => hkl (g h4)))
                have hklb : (((kidsOf l k).length : Int) != 1) = true := by simp; omega
                go_wp2_with fail
                refine ck.out.mono ?_
                rintro e w6 ⟨vK, rfl, hoK, hb6⟩
                obtain ⟨aK, cK, rfl, _⟩ := hoK.sl
                rw [List.length_map]
                have hb7 := hd (hbo.out.next hb6)
                generalize (kidsOf l k).length = nk at *
                clear hoK hb6 hkl h4
                go_wp2_with fail
                go_ret
                exact ⟨by rw [hres.out]; rfl, hb7.out⟩
            · have h4b : (x.kind == 4) = false := by simpa using h4
              have hnx := hd (hstep.out (fun g => absurd g h4))
              clear h4
              go_wp2_with fail
              go_roundw
              case rel => exact ⟨k + 1, by omega, by go_num, hnx, hbl2⟩
              case measure => simp [intOf]; omega
          · obtain rfl : k = l.length := by omega
            have hf := (flat_iff ⟨hn1, hn2⟩).2 ⟨hpre.out, hone.out⟩
            obtain ⟨t, ht⟩ := flat_enc hf
            have hgf := good_flat hf ht
            have hct := enc_count t _ _ ht
            have ct := hd (tree_s l b1 o1 c (by omega) t 0 wo (enc_out ht) (hC.out.mono hbw.out) (by omega))
            have cd := hd (fun r w lo hi hh hR => deep_s t r w lo hi hh (by omega) hR)
            have hz := hd (show r = decide (deepK t ≤ 5) by rw [Bool.eq_iff_iff, hr.out, hgf, decide_eq_true_eq])
            clear hf ht hgf hct
            generalize deepK t = dp at *
            go_wp2_with fail
            refine ct.out.mono ?_
            rintro e w6 ⟨rt, rfl, hrt, hb6⟩
            have cd2 := hd (cd.out rt w6 _ _ (Nat.le_refl _) hrt)
            have hb7 := hd (hbw.out.next hb6)
            clear hrt hb6
            go_wp2_with fail
            refine cd2.out.mono ?_
            rintro e w8 ⟨rfl, hb8⟩
            have hb9 := hd (hb7.out.next hb8)
            clear hb8
            go_wp2_with fail
            go_ret
            exact ⟨by rw [hz.out]; rfl, hb9.out⟩
  · have hz := hd (show r = false by
      rw [← Bool.not_eq_true, hr]; rintro ⟨hf, _⟩
      exact hn hf.1)
    have cw := hd (fun w => within_s (l.length : Int) 1 30 w false (by simp; omega))
    obtain ⟨a1, c1, rfl, _⟩ := h
    simp only [List.length_map]
    clear hr
    go_enter Tryd.func10, Tryd.ntmps10
    go_wp2_with fail
    refine (cw.out _).mono ?_
    rintro e w' ⟨rfl, rfl⟩
    go_wp2_with fail
    go_ret
    exact ⟨by rw [hz.out]; rfl, below_a1 _⟩
end Go.Proofs.YtcepnifcfkgaeaaDoor
/- What the laws on good schemas share; DeepOf of both sides. -/
namespace Go.Proofs.YtcepnifcfkgaeaaDoor
open Go.RowKit
set_option linter.unusedVariables false
set_option maxRecDepth 100000
theorem small_types {l : List DType} (h : SmallType 1048576 l.length l) : ∀ x ∈ l, x.name.size ≤ 1000000000000 := by
  intro x hx
  obtain ⟨i, hi, rfl⟩ := List.mem_iff_getElem.1 hx
  have := h i hi hi
  omega
theorem treeOf_uniq {l : List DType} {t t' : K} (h : treeOf l t) (h' : treeOf l t') : t = t' := Sb.uniq t 0 t' (enc_out h.1) (enc_out h'.1)
theorem good_len' {l : List DType} (h : goodP l) : 1 ≤ l.length ∧ l.length ≤ 30 := h.1.1
/-- The reference's tree of a good schema. -/
theorem root_s (l : List DType) (v : Value) (w : World) (hg : goodP l) (t : K) (ht : treeOf l t) (h : Sl w v 6 (l.map DType.enc)) :
    Calls Tryd.prog 12 #[.agg #[v], .int .i64 0] w (TreePost t w) := by
  have hn := good_len' hg
  rcases h.open with ⟨a1, c1, rfl, hrr⟩ | ⟨b1, o1, c, rfl, hrr, C⟩
  · exfalso; have : l = [] := by simpa using hrr
    subst this; simp at hn
  rw [List.length_map]
  exact tree_s l b1 o1 c (by omega) t 0 w (enc_out ht.1) C (by have := enc_count t _ _ ht.1; omega)
theorem deepR_ex (l : List DType) : ∃ r : Int, (∀ t, treeOf l t → goodP l → deepK t = r) ∧ (¬ goodP l → r = 0) := by
  by_cases h : goodP l
  · obtain ⟨t, ht⟩ := good_tree h
    exact ⟨deepK t, fun t' h' _ => by rw [treeOf_uniq h' ht], fun g => absurd h g⟩
  · exact ⟨0, fun t _ g => absurd g h, fun _ => rfl⟩
end Go.Proofs.YtcepnifcfkgaeaaDoor

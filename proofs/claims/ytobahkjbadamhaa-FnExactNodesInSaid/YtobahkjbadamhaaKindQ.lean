/- The reference on one type of a flat list: l2Part. -/
import Derived.Test.YtobahkjbadamhaaKindP
import Derived.Test.YtobahkjbadamhaaKindE
namespace Go.Proofs.Ytobahkjbadamhaa
open Go.RowKit
set_option linter.unusedVariables false
set_option maxRecDepth 100000
theorem str_ne {a b : ByteArray} (h : a ≠ b) : (a.toList == b.toList) = false := by
  rw [beq_eq_false_iff_ne]
  intro e
  apply h
  rw [ByteArray.toList_eq, ByteArray.toList_eq] at e
  exact ByteArray.ext (Array.ext' e)
theorem partP_up {l : List DType} {i : Nat} (h : partP l i) : ∃ hi : i < l.length, 0 ≤ l[i].up ∧ l[i].up < i := by
  obtain ⟨hi, q, hq, h1, h2, _⟩ := h
  exact ⟨hi, by omega, by omega⟩
/-- What the reference asks of a type in turn. -/
theorem partP_iff {l : List DType} {i q : Nat} (hi : i < l.length) (hq : q < l.length) (hqi : q < i) (hu : l[i].up = (q : Int)) :
    partP l i ↔ holdsB l[q].kind = true ∧ (∃ q : Nat, U l i = (q : Int) ∧ Anc l (i - 1) q) ∧ (l[q].kind = 4 → blankP l[i].name l[i].no l[i].must) ∧ (l[q].kind ≠ 4 → nameP l[i].name ∧ (1 ≤ l[i].no ∧ l[i].no ≤ 30) ∧ ahead l q i l[i].name l[i].no) := by
  constructor
  · rintro ⟨_, q', hq', h1, h2, h3, h4, h5, h6⟩
    have : q' = q := by omega
    subst this
    exact ⟨h3, ⟨q', by rw [U_at hi, hu], h4⟩, h5, h6⟩
  · rintro ⟨h3, ⟨q', h4, h5⟩, h6, h7⟩
    have : q' = q := by rw [U_at hi] at h4; omega
    subst this
    exact ⟨hi, q', hq, hqi, hu, h3, h5, h6, h7⟩
set_option maxHeartbeats 6400000 in
theorem part_s (l : List DType) (v : Value) (i : Nat) (w : World) (hl : l.length ≤ 1000000) (hs : ∀ x ∈ l, x.name.size ≤ 1000000000000) (h : Sl w v 6 (l.map DType.enc)) (hi0 : 0 < i) (hi : i < l.length) (hw : ∀ k, k < i → U l k < (k : Int)) (r : Bool) (hr : r = true ↔ partP l i) :
    Calls Try.prog 93 #[.agg #[v], .int .i64 i] w (BoolPost r w) := by
  rcases h.open with ⟨a1, c1, rfl, hrr⟩ | ⟨b1, o1, c, rfl, hrr, C⟩
  · exfalso; have : l = [] := by simpa using hrr
    subst this; simp at hi
  clear hrr h
  simp only [List.length_map]
  have hC := hd C
  have hiI : (i : Int) < (l.length : Int) := by omega
  have hq := hd (show (w.alloc (.cells #[.slice (some ⟨b1, o1, none⟩) l.length c] 28)).cell? ⟨w.heap.size, 0, none⟩ = some (.slice (some ⟨b1, o1, none⟩) l.length c) by go_simp)
  obtain ⟨V, hV⟩ : ∃ V, V = w.alloc (.cells #[.slice (some ⟨b1, o1, none⟩) l.length c] 28) := ⟨_, rfl⟩
  have hbV := hd (show Below w.heap.size w V by rw [hV]; exact below_a1 w)
  have hsV : V.heap.size = w.heap.size + 1 := by rw [hV]; simp
  rw [← hV] at hq
  replace hV := hd hV
  obtain ⟨f0, f1, f2, f3, f4, f5⟩ := Cells.rowType l i hi (hC.out.mono hbV.out)
  have hnm := hs l[i] (List.getElem_mem hi)
  replace hs := hd hs
  have hgen : ∀ q (hq : q < l.length) (hqi : q < i), l[i].up = (q : Int) → _ := fun q hq hqi hu => partP_iff hi hq hqi hu
  have hup := hd (fun h => partP_up (l := l) (i := i) h)
  replace hgen := hd hgen
  replace hw := hd hw
  replace hr := hd hr
  have hca := hd (fun (w' : World) (hb : Below w.heap.size w w') (z : Bool) hz => around_s l b1 o1 c i w' hl (hC.out.mono hb) hi0 hi hw.out z hz)
  generalize hx : l[i] = x at *
  replace hx := hd hx
  have pf := keepCell (below_a1 V (a := .cells #[.int .i64 x.kind, .string x.name, .int .i64 x.no, .bool x.must, .int .i64 x.up, .int .i64 x.most] 71)) hq.out
  have hX := hd (show BoxN (V.alloc (.cells #[.int .i64 x.kind, .string x.name, .int .i64 x.no, .bool x.must, .int .i64 x.up, .int .i64 x.most] 71)) V.heap.size x.enc from BoxN.new V x.enc _)
  have hbW := hd (hbV.out.next (below_a1 V (a := .cells #[.int .i64 x.kind, .string x.name, .int .i64 x.no, .bool x.must, .int .i64 x.up, .int .i64 x.most] 71)))
  rw [hsV] at hX
  clear C
  go_enter Try.func93, Try.ntmps93
  go_upto_region 1 with (fail)
  rw [← hV.out]
  clear hV
  have qV := hq.out
  go_upto_region 2 with (fail)
  have p0 := hX.out.1 0 _ rfl; have p1 := hX.out.1 1 _ rfl; have p2 := hX.out.1 2 _ rfl; have p3 := hX.out.1 3 _ rfl; have p4 := hX.out.1 4 _ rfl; have p5 := hX.out.1 5 _ rfl
  generalize V.alloc (.cells #[.int .i64 x.kind, .string x.name, .int .i64 x.no, .bool x.must, .int .i64 x.up, .int .i64 x.most] 71) = W at *
  clear f0 f1 f2 f3 f4 f5 hsV p0 p5 qV
  by_cases hu0 : x.up < 0
  · have hres := hd (show r = false by
      rw [← Bool.not_eq_true, hr.out]; intro g
      obtain ⟨_, g1, _⟩ := hup.out g
      rw [hx.out] at g1; omega)
    go_wp2_with fail
    go_ret
    exact ⟨by rw [hres.out]; rfl, hbW.out⟩
  by_cases hui : (i : Int) ≤ x.up
  · have hres := hd (show r = false by
      rw [← Bool.not_eq_true, hr.out]; intro g
      obtain ⟨_, _, g1⟩ := hup.out g
      rw [hx.out] at g1; omega)
    go_wp2_with fail
    go_ret
    exact ⟨by rw [hres.out]; rfl, hbW.out⟩
  obtain ⟨q, hqu⟩ := Int.eq_ofNat_of_zero_le (show 0 ≤ x.up by omega)
  have hqi : q < i := by omega
  have hql : q < l.length := by omega
  have hiff := hgen.out q hql hqi hqu
  obtain ⟨g0, g1, g2, g3, g4, g5⟩ := Cells.rowType l q hql (hC.out.mono hbW.out)
  have hqI : (q : Int) < (l.length : Int) := by omega
  have hq0 : ¬ (q : Int) < 0 := by omega
  have hqiI : ¬ (i : Int) ≤ (q : Int) := by omega
  rw [hqu] at p4
  replace hqu := hd hqu
  clear hgen hup g1 g2 g3 g4 g5 hu0 hui
  generalize l[q].kind = kq at *
  have ch := hd (fun w => holds_s kq w)
  obtain ⟨rA, hrA⟩ := boolOf (∃ q : Nat, U l i = (q : Int) ∧ Anc l (i - 1) q)
  have ca := hd (hca.out W hbW.out rA hrA)
  cases hhq : holdsB kq with
  | false =>
    rw [hhq] at ch
    have hres := hd (show r = false by rw [← Bool.not_eq_true, hr.out, hiff]; rintro ⟨g, _⟩; rw [hhq] at g; cases g)
    clear hiff hrA hhq
    go_wp2_with fail
    refine (ch.out _).mono ?_
    rintro e w' ⟨rfl, rfl⟩
    go_wp2_with fail
    go_ret
    exact ⟨by rw [hres.out]; rfl, hbW.out⟩
  | true =>
    rw [hhq] at ch
    cases rA with
    | false =>
      have hres := hd (show r = false by rw [← Bool.not_eq_true, hr.out, hiff]; rintro ⟨_, g, _⟩; exact absurd (hrA.2 g) (by simp))
      clear hiff hrA hhq
      go_wp2_with fail
      refine (ch.out _).mono ?_
      rintro e w' ⟨rfl, rfl⟩
      go_wp2_with fail
      refine ca.out.mono ?_
      rintro e w' ⟨rfl, rfl⟩
      go_wp2_with fail
      go_ret
      exact ⟨by rw [hres.out]; rfl, hbW.out⟩
    | true =>
      by_cases h4 : kq = 4
      · have hz := hd (show r = (x.name.toList.isEmpty && (x.no == 0) && !x.must) by
          rw [Bool.eq_iff_iff, hr.out, hiff]
          simp only [Bool.and_eq_true, emp_iff, beq_iff_eq, Bool.not_eq_true']
          constructor
          · rintro ⟨_, _, g, _⟩; have := g h4; exact ⟨⟨this.1, this.2.1⟩, this.2.2⟩
          · rintro ⟨⟨k1, k2⟩, k3⟩; exact ⟨hhq, hrA.1 rfl, fun _ => ⟨k1, k2, k3⟩, fun g => absurd h4 g⟩)
        clear hiff hrA hhq
        subst h4
        cases hn : x.name.toList.isEmpty with
        | false =>
          go_wp2_with fail
          refine (ch.out _).mono ?_
          rintro e w' ⟨rfl, rfl⟩
          go_wp2_with fail
          refine ca.out.mono ?_
          rintro e w' ⟨rfl, rfl⟩
          go_wp2_with fail
          go_ret
          exact ⟨by rw [hz.out, hn]; rfl, hbW.out⟩
        | true =>
          cases hno : (x.no == 0) with
          | false =>
            go_wp2_with fail
            refine (ch.out _).mono ?_
            rintro e w' ⟨rfl, rfl⟩
            go_wp2_with fail
            refine ca.out.mono ?_
            rintro e w' ⟨rfl, rfl⟩
            go_wp2_with fail
            go_ret
            exact ⟨by rw [hz.out, hn, hno]; rfl, hbW.out⟩
          | true =>
            go_wp2_with fail
            refine (ch.out _).mono ?_
            rintro e w' ⟨rfl, rfl⟩
            go_wp2_with fail
            refine ca.out.mono ?_
            rintro e w' ⟨rfl, rfl⟩
            go_wp2_with fail
            go_ret
            exact ⟨by rw [hz.out, hn, hno]; rfl, hbW.out⟩
      · have h4b : (kq == 4) = false := by simpa using h4
        have hz := hd (show r = true ↔ nameP x.name ∧ (1 ≤ x.no ∧ x.no ≤ 30) ∧ ahead l q i x.name x.no by
          rw [hr.out, hiff]
          constructor
          · rintro ⟨_, _, _, g⟩; exact g h4
          · intro g; exact ⟨hhq, hrA.1 rfl, fun k => absurd k h4, fun _ => g⟩)
        clear hiff hrA hhq h4
        obtain ⟨n, hn⟩ := boolOf (nameP x.name)
        have cn := hd (fun w => name_s x.name w hnm n hn)
        replace hn := hd hn
        cases n with
        | false =>
          have hres := hd (show r = false by rw [← Bool.not_eq_true, hz.out]; rintro ⟨g, _⟩; exact absurd (hn.out.2 g) (by simp))
          go_wp2_with fail
          refine (ch.out _).mono ?_
          rintro e w' ⟨rfl, rfl⟩
          go_wp2_with fail
          refine ca.out.mono ?_
          rintro e w' ⟨rfl, rfl⟩
          go_wp2_with fail
          refine (cn.out _).mono ?_
          rintro e w' ⟨rfl, rfl⟩
          go_wp2_with fail
          go_ret
          exact ⟨by rw [hres.out]; rfl, hbW.out⟩
        | true =>
          by_cases hno : 1 ≤ x.no ∧ x.no ≤ 30
          · have cw := hd (fun w => within_s x.no 1 30 w true (by simpa using hno))
            have hz := hd (show r = true ↔ ahead l q i x.name x.no by
              rw [hz.out]; exact ⟨fun g => g.2.2, fun g => ⟨hn.out.1 rfl, hno, g⟩⟩)
            have hw9 : IntKind.i64.wrap ((q : Int) + 1) = ((q + 1 : Nat) : Int) := by rw [IntWalk.i64_in _ (by omega)]; omega
            clear hno
            go_wp2_with fail
            refine (ch.out _).mono ?_
            rintro e w' ⟨rfl, rfl⟩
            go_wp2_with fail
            refine ca.out.mono ?_
            rintro e w' ⟨rfl, rfl⟩
            go_wp2_with fail
            refine (cn.out _).mono ?_
            rintro e w' ⟨rfl, rfl⟩
            go_wp2_with fail
            refine (cw.out _).mono ?_
            rintro e w' ⟨rfl, rfl⟩
            clear ch ca cn cw
            go_wp2_with fail
            go_loopw [6] (fun n wr => ∃ k : Nat, n = .int .i64 k ∧ (q < k ∧ k ≤ i) ∧ Hd (ahead l q k x.name x.no) ∧ Hd (Below W.heap.size W wr)) (fun n _ => i - (intOf n).toNat)
            case atStart => exact ⟨q + 1, by go_num, by omega, fun m h1 h2 => by omega, Below.refl _ _⟩
            case round =>
              obtain ⟨k, rfl, ⟨hqk, hki⟩, hah, hbl⟩ := hrel
              obtain ⟨wo, rfl⟩ : ∃ wo : World, wo = wr := ⟨_, rfl⟩
              have t1 := keepCell hbl.out p1
              have t2 := keepCell hbl.out p2
              have t4 := keepCell hbl.out p4
              have tf := keepCell hbl.out pf
              have hbo := hd (hbW.out.next hbl.out)
              by_cases hlt : k < i
              · have hltI : (k : Int) < (i : Int) := by omega
                have hkl : k < l.length := by omega
                have hkI : (k : Int) < (l.length : Int) := by omega
                obtain ⟨y0, y1, y2, y3, y4, y5⟩ := Cells.rowType l k hkl (hC.out.mono hbo.out)
                have hUk := hd (U_at hkl)
                have hstep := hd (fun (g : U l k = (q : Int) → l[k].no < x.no ∧ l[k].name ≠ x.name) => (show ahead l q (k + 1) x.name x.no from fun m h1 h2 h3 h4 => by
                  by_cases e : m = k
                  · subst e; exact g h4
                  · exact hah.out m h1 (by omega) h3 h4))
                have hbad := hd (fun (g : U l k = (q : Int)) (g2 : ¬ (l[k].no < x.no ∧ l[k].name ≠ x.name)) => (show r = false from by
                  rw [← Bool.not_eq_true, hz.out]; intro k1
                  exact g2 (k1 k hqk hlt hkl g)))
                generalize l[k] = y at *
                have s1 := fun o => keepCell (below_a1 wo (a := o)) t1
                have s2 := fun o => keepCell (below_a1 wo (a := o)) t2
                have s4 := fun o => keepCell (below_a1 wo (a := o)) t4
                have hbo2 := hd (fun o => hbo.out.next (below_a1 wo (a := o)))
                have hbl2 := hd (fun o => hbl.out.next (below_a1 wo (a := o)))
                by_cases hyu : y.up = (q : Int)
                · rw [hyu] at y4
                  by_cases hyn : x.no ≤ y.no
                  · have hres := hd (hbad.out (by rw [hUk.out, hyu]) (fun g => by omega))
                    clear hyu
                    go_wp2_with fail
                    go_ret
                    exact ⟨by rw [hres.out]; rfl, hbo2.out _⟩
                  · by_cases hye : y.name = x.name
                    · have hres := hd (hbad.out (by rw [hUk.out, hyu]) (fun g => g.2 hye))
                      rw [hye] at y1
                      clear hyu hye
                      go_wp2_with fail
                      go_ret
                      exact ⟨by rw [hres.out]; rfl, hbo2.out _⟩
                    · have hst := hd (hstep.out (fun _ => ⟨by omega, hye⟩))
                      have hyeb := str_ne hye
                      clear hyu
                      go_wp2_with fail
                      go_roundw
                      case rel => exact ⟨k + 1, by go_num, by omega, hst, hbl2.out _⟩
                      case measure => simp [intOf]; omega
                · have hyub : (y.up == (q : Int)) = false := by simpa using hyu
                  have hst := hd (hstep.out (fun g => absurd (by rw [← hUk.out]; exact g) hyu))
                  clear hyu
                  go_wp2_with fail
                  go_roundw
                  case rel => exact ⟨k + 1, by go_num, by omega, hst, hbl2.out _⟩
                  case measure => simp [intOf]; omega
              · obtain rfl : k = i := by omega
                have hltI : ¬ (k : Int) < (k : Int) := by omega
                have hres := hd (hz.out.2 hah.out)
                go_wp2_with fail
                go_ret
                exact ⟨by rw [hres.out]; rfl, hbo.out⟩
          · have cw := hd (fun w => within_s x.no 1 30 w false (by simp; omega))
            have hres := hd (show r = false by rw [← Bool.not_eq_true, hz.out]; rintro ⟨_, g, _⟩; exact hno g)
            clear hno
            go_wp2_with fail
            refine (ch.out _).mono ?_
            rintro e w' ⟨rfl, rfl⟩
            go_wp2_with fail
            refine ca.out.mono ?_
            rintro e w' ⟨rfl, rfl⟩
            go_wp2_with fail
            refine (cn.out _).mono ?_
            rintro e w' ⟨rfl, rfl⟩
            go_wp2_with fail
            refine (cw.out _).mono ?_
            rintro e w' ⟨rfl, rfl⟩
            go_wp2_with fail
            go_ret
            exact ⟨by rw [hres.out]; rfl, hbW.out⟩
end Go.Proofs.Ytobahkjbadamhaa

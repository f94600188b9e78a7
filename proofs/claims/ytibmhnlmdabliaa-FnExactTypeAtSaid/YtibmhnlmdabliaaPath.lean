/- The path of a type, on both sides. -/
import Derived.Test.YtibmhnlmdabliaaPathM
import Derived.BigQuiet
namespace Go.Proofs.Ytibmhnlmdabliaa
open Go.RowKit
set_option linter.unusedVariables false
set_option maxRecDepth 100000
theorem emp_no {s : ByteArray} (h : s ≠ nilS) : s.toList.isEmpty = false := by rw [← Bool.not_eq_true, emp_iff]; exact h
theorem emp_yes {s : ByteArray} (h : s = nilS) : s.toList.isEmpty = true := emp_iff.2 h
set_option maxHeartbeats 3200000 in
theorem path_s (l : List DType) (b1 o1 c : Nat) (hg : goodP l) : ∀ (k : Nat) (w : World), k < l.length → Cells w b1 o1 6 (l.map DType.enc) →
    Calls Try.prog 102 #[.agg #[.slice (some ⟨b1, o1, none⟩) l.length c], .int .i64 k] w (PathPost (PT l k) w) := by
  intro k
  induction k using Nat.strongRecOn with
  | _ k ih =>
    intro w hk C
    replace ih := hd ih
    have hC := hd C
    have hkI : (k : Int) < (l.length : Int) := by omega
    have pf := (show (w.alloc (.cells #[.slice (some ⟨b1, o1, none⟩) l.length c] 66)).cell? ⟨w.heap.size, 0, none⟩ = some (.slice (some ⟨b1, o1, none⟩) l.length c) by go_simp)
    have hB0 := hd (below_a1 w (a := (.cells #[.slice (some ⟨b1, o1, none⟩) l.length c] 66)))
    have hsV : (w.alloc (.cells #[.slice (some ⟨b1, o1, none⟩) l.length c] 66)).heap.size = w.heap.size + 1 := by simp
    obtain ⟨V, hV⟩ : ∃ V, V = w.alloc (.cells #[.slice (some ⟨b1, o1, none⟩) l.length c] 66) := ⟨_, rfl⟩
    rw [← hV] at pf hB0 hsV
    replace hV := hd hV
    obtain ⟨f0, f1, f2, f3, f4, f5⟩ := Cells.rowType l k hk (hC.out.mono hB0.out)
    have hpar := hd (fun (h : 0 < k) => good_par hg h hk)
    have hrec := hd (fun (q : Nat) (h : 0 < k) hq hqk hu => PT_rec hg (q := q) h hk hq hqk hu)
    generalize l[k] = x at *
    have pf2 := keepCell (below_a1 V (a := (.cells #[.int .i64 x.kind, .string x.name, .int .i64 x.no, .bool x.must, .int .i64 x.up, .int .i64 x.most] 125))) pf
    have hX := hd (show BoxN (V.alloc (.cells #[.int .i64 x.kind, .string x.name, .int .i64 x.no, .bool x.must, .int .i64 x.up, .int .i64 x.most] 125)) V.heap.size x.enc from BoxN.new V x.enc _)
    have hB := hd (hB0.out.next (below_a1 V (a := (.cells #[.int .i64 x.kind, .string x.name, .int .i64 x.no, .bool x.must, .int .i64 x.up, .int .i64 x.most] 125))))
    rw [hsV] at hX
    clear C
    go_enter Try.func102, Try.ntmps102
    go_upto_region 1 with (fail)
    rw [← hV.out]
    clear hV
    go_upto_region 2 with (fail)
    have p0 := hX.out.1 0 _ rfl; have p1 := hX.out.1 1 _ rfl; have p2 := hX.out.1 2 _ rfl; have p3 := hX.out.1 3 _ rfl; have p4 := hX.out.1 4 _ rfl; have p5 := hX.out.1 5 _ rfl
    generalize V.alloc (.cells #[.int .i64 x.kind, .string x.name, .int .i64 x.no, .bool x.must, .int .i64 x.up, .int .i64 x.most] 125) = W at *
    clear f0 f1 f2 f3 f4 f5 pf hsV
    by_cases hk0 : k = 0
    · subst hk0
      have hz := hd (PT_zero l)
      go_wp2_with fail
      go_ret2
      exact ⟨by rw [hz.out]; rfl, hB.out⟩
    · have hkb : ((k : Int) == 0) = false := by simp; omega
      obtain ⟨q, hq, hqk, hu, hnm, hns⟩ := hpar.out (by omega)
      have hl30 := (good_len' hg).2
      have hz := hd (hrec.out q (by omega) hq hqk hu)
      obtain ⟨g0, g1, g2, g3, g4, g5⟩ := Cells.rowType l q hq (hC.out.mono hB.out)
      have hqI : (q : Int) < (l.length : Int) := by omega
      have ci := hd (ih.out q hqk W hq (hC.out.mono hB.out))
      rw [hu] at p4
      generalize l[q].kind = kq at *
      clear g1 g2 g3 g4 g5 hrec hpar
      by_cases h5 : kq = 5
      · replace hnm := hd (hnm h5)
        have hns := hns h5
        rw [if_pos h5] at hz
        subst h5
        cases hP : PT l q with
        | none =>
          rw [hP] at ci hz
          replace hP := hd hP
          go_wp2_with fail
          refine ci.out.mono ?_
          rintro e w5 ⟨rfl, hb5⟩
          have hB5 := hd (hB.out.next hb5)
          clear hb5
          simp only [Option.getD_none, Option.isSome_none]
          go_wp2_with fail
          go_ret2
          exact ⟨by rw [hz.out]; rfl, hB5.out⟩
        | some p =>
          rw [hP] at ci hz
          replace hP := hd hP
          by_cases hp : p = nilS
          · have hpe := emp_yes hp
            go_wp2_with fail
            refine ci.out.mono ?_
            rintro e w5 ⟨rfl, hb5⟩
            have hB5 := hd (hB.out.next hb5)
            have p1' := keepCell hb5 p1
            clear hb5
            simp only [Option.getD_some, Option.isSome_some]
            have hz2 := hd (show PT l k = some x.name by rw [hz.out, hp]; simp [J_nil])
            replace hp := hd hp
            go_wp2_with fail
            go_ret2
            exact ⟨by rw [hz2.out]; rfl, hB5.out⟩
          · have hpe := emp_no hp
            have hps := PT_size hg q p hq hP.out
            have hd1 : (⟨#[46]⟩ : ByteArray).size = 1 := rfl
            have hs1 : p.size + (⟨#[46]⟩ : ByteArray).size ≤ 50000000 := by omega
            have hs2 : (p ++ (⟨#[46]⟩ : ByteArray)).size + x.name.size ≤ 50000000 := by rw [ByteArray.size_append]; omega
            have hs3 : ¬ (9223372036854775807 : Int) < (p.size : Int) + 1 := by omega
            have hs4 : ¬ (9223372036854775807 : Int) < (p.size : Int) + 1 + (x.name.size : Int) := by omega
            go_wp2_with fail
            refine ci.out.mono ?_
            rintro e w5 ⟨rfl, hb5⟩
            have hB5 := hd (hB.out.next hb5)
            have p1' := keepCell hb5 p1
            clear hb5
            simp only [Option.getD_some, Option.isSome_some]
            have hz2 := hd (show PT l k = some (p ++ dotS ++ x.name) by rw [hz.out]; simp only [Option.map_some]; rw [J_two hp hnm.out, app_as])
            replace hp := hd hp
            go_wp2_with fail
            go_ret2
            exact ⟨by rw [hz2.out]; rfl, hB5.out⟩
      · have h5b : (kq != 5) = true := by simpa using h5
        rw [if_neg h5] at hz
        clear h5 hnm
        go_wp2_with fail
        go_ret2
        exact ⟨by rw [hz.out]; rfl, hB.out⟩
set_option maxHeartbeats 3200000 in
theorem path_i (l : List DType) (b1 o1 c : Nat) (hg : goodP l) (k : Nat) (w : World) (hk : k < l.length) (C : Cells w b1 o1 6 (l.map DType.enc)) :
    Calls Try.prog 104 #[.agg #[.slice (some ⟨b1, o1, none⟩) l.length c], .int .i64 k] w (PathPost (PT l k) w) := by
  have hC := hd C
  have pf := (show (w.alloc (.cells #[.slice (some ⟨b1, o1, none⟩) l.length c] 66)).cell? ⟨w.heap.size, 0, none⟩ = some (.slice (some ⟨b1, o1, none⟩) l.length c) by go_simp)
  have hB0 := hd (below_a1 w (a := (.cells #[.slice (some ⟨b1, o1, none⟩) l.length c] 66)))
  obtain ⟨V, hV⟩ : ∃ V, V = w.alloc (.cells #[.slice (some ⟨b1, o1, none⟩) l.length c] 66) := ⟨_, rfl⟩
  rw [← hV] at pf hB0
  replace hV := hd hV
  replace pf := hd pf
  clear C
  go_enter Try.func104, Try.ntmps104
  go_upto_region 1 with (fail)
  rw [← hV.out]
  clear hV
  go_wp2_with fail
  go_loopw [1, 6] (fun n s wr => ∃ (j : Nat) (p : ByteArray), n = .int .i64 j ∧ s = .string p ∧ j < l.length ∧ Hd (PT l k = (PT l j).map (fun z => J z p)) ∧ Hd (p.size + 11 * j ≤ 11 * k) ∧ Hd (Below V.heap.size V wr)) (fun n _ _ => (intOf n).toNat)
  case atStart => exact ⟨k, nilS, rfl, rfl, hk, by rw [Hd]; cases PT l k <;> simp [J_nil'], by rw [Hd]; exact Nat.le_of_eq (Nat.zero_add _), Below.refl _ _⟩
  case round =>
    obtain ⟨j, p, rfl, rfl, hj, hrel, hps, hbl⟩ := hrel
    obtain ⟨wo, rfl⟩ : ∃ wo : World, wo = wr := ⟨_, rfl⟩
    have qf := keepCell hbl.out pf.out
    have hbw := hd (hB0.out.next hbl.out)
    by_cases hj0 : j = 0
    · subst hj0
      have hz := hd (show PT l k = some p by rw [hrel.out, PT_zero]; simp [J_nil])
      go_wp2_with fail
      go_ret2
      exact ⟨by rw [hz.out]; rfl, hbw.out⟩
    · have hjI : (0 : Int) < (j : Int) := by omega
      have hjl : (j : Int) < (l.length : Int) := by omega
      obtain ⟨f0, f1, f2, f3, f4, f5⟩ := Cells.rowType l j hj (hC.out.mono hbw.out)
      obtain ⟨q, hq, hqk, hu, hnm, hns⟩ := good_par hg (show 0 < j by omega) hj
      have hl30 := (good_len' hg).2
      have hz := PT_rec hg (show 0 < j by omega) hj hq hqk hu
      obtain ⟨g0, g1, g2, g3, g4, g5⟩ := Cells.rowType l q hq (hC.out.mono hbw.out)
      have hqI : (q : Int) < (l.length : Int) := by omega
      rw [hu] at f4
      generalize l[q].kind = kq at *
      generalize hx : l[j] = x at *
      replace hz := hd hz
      have g0a := fun o => keepCell (below_a1 wo (a := o)) g0
      have qfa := fun o => keepCell (below_a1 wo (a := o)) qf
      have hbl2 := hd (fun o => hbl.out.next (below_a1 wo (a := o)))
      have hbw2 := hd (fun o => hbw.out.next (below_a1 wo (a := o)))
      clear g0 g1 g2 g3 g4 g5 hx hu
      by_cases h5 : kq = 5
      · replace hnm := hd (hnm h5)
        have hns := hns h5
        rw [if_pos h5] at hz
        subst h5
        by_cases hp : p = nilS
        · have hpe := emp_yes hp
          have hps9 := hps.out
          have hd1 : (⟨#[46]⟩ : ByteArray).size = 1 := rfl
          have hs1 : x.name.size + p.size ≤ 50000000 := by omega
          have hs3 : ¬ (9223372036854775807 : Int) < (x.name.size : Int) + (p.size : Int) := by omega
          have hsz := hd (show (x.name ++ p).size + 11 * q ≤ 11 * k by rw [ByteArray.size_append]; omega)
          have hr2 := hd (show PT l k = (PT l q).map (fun z => J z (x.name ++ p)) by rw [hrel.out, hz.out, hp, app_nil]; cases PT l q <;> simp [J_nil'])
          replace hp := hd hp
          go_wp2_with fail
          go_quiet (fail)
          go_wp2_with fail
          go_roundw
          case rel => exact ⟨q, _, rfl, rfl, hq, hr2, hsz, below_drewN (hbl2.out _) _⟩
          case measure => simp [intOf]; omega
        · have hpe := emp_no hp
          have hps9 := hps.out
          have hd1 : (⟨#[46]⟩ : ByteArray).size = 1 := rfl
          have hs1 : (⟨#[46]⟩ : ByteArray).size + p.size ≤ 50000000 := by omega
          have hs2 : x.name.size + ((⟨#[46]⟩ : ByteArray) ++ p).size ≤ 50000000 := by rw [ByteArray.size_append]; omega
          have hs3 : ¬ (9223372036854775807 : Int) < 1 + (p.size : Int) := by omega
          have hs4 : ¬ (9223372036854775807 : Int) < (x.name.size : Int) + (1 + (p.size : Int)) := by omega
          have hsz := hd (show (x.name ++ (dotS ++ p)).size + 11 * q ≤ 11 * k by rw [ByteArray.size_append, ByteArray.size_append]; have : dotS.size = 1 := rfl; omega)
          have hr2 := hd (show PT l k = (PT l q).map (fun z => J z (x.name ++ (dotS ++ p))) by
            rw [hrel.out, hz.out]
            cases PT l q with
            | none => rfl
            | some z => simp only [Option.map_some]; rw [J_as hnm.out, J_two hnm.out hp])
          replace hp := hd hp
          go_wp2_with fail
          go_quiet (fail)
          go_wp2_with fail
          go_roundw
          case rel => exact ⟨q, _, rfl, rfl, hq, hr2, hsz, below_drewN (hbl2.out _) _⟩
          case measure => simp [intOf]; omega
      · have h5b : (kq != 5) = true := by simpa using h5
        have hr2 := hd (show PT l k = none by rw [hrel.out, hz.out, if_neg h5]; rfl)
        clear h5 hnm
        go_wp2_with fail
        go_ret2
        exact ⟨by rw [hr2.out]; rfl, hbw2.out _⟩
end Go.Proofs.Ytibmhnlmdabliaa

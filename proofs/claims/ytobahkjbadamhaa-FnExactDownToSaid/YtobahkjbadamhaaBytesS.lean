/- The bytes of a value: l4Bytes of the reference. -/
import Derived.Test.YtobahkjbadamhaaDecE
import Derived.Test.YtobahkjbadamhaaReads
import Derived.Test.YtobahkjbadamhaaFlatDef
import Derived.Test.YtobahkjbadamhaaSubS
import Derived.Deep.RegionLaw
namespace Go.Proofs.Ytobahkjbadamhaa
open Go.RowKit
set_option linter.unusedVariables false
set_option maxRecDepth 100000
/-- The field that a part of a message is. -/
def fieldOf (y x : K) : DField := if foldB y.of = true then ⟨x.no, 0, x.most, ⟨#[]⟩⟩ else ⟨x.no, 2, 0, mkS (encB y x)⟩
theorem fieldOf_fb {y x : K} (h : x.no = y.no) : fb (fieldOf y x) = tagB y.of y.no ++ sized y.of (encB y x) := by
  unfold fieldOf tagB sized kindN fb
  by_cases hf : foldB y.of = true
  · rw [if_pos hf, if_pos hf, if_pos hf]
    have h2 : y.of ≠ 2 := by rw [foldB_iff] at hf; omega
    dsimp only
    rw [if_pos rfl, h, encB_eq, if_neg h2, if_pos hf]
  · rw [if_neg hf, if_neg hf, if_neg hf]
    dsimp only
    rw [if_neg (by decide), h]
    rfl
theorem flat_snoc (l : List DField) (f : DField) : flat (l ++ [f]) = flat l ++ fb f := by simp [flat]
theorem take_flat {α : Type} (g : α → List UInt8) {l : List α} {k : Nat} (h : k < l.length) : (l.take (k + 1)).flatMap g = (l.take k).flatMap g ++ g l[k] := by
  rw [List.take_succ_eq_append_getElem h, List.flatMap_append]; simp
theorem take_flat_len {α : Type} (g : α → List UInt8) (l : List α) (k : Nat) : ((l.take k).flatMap g).length ≤ (l.flatMap g).length := by
  have : l.flatMap g = (l.take k).flatMap g ++ (l.drop k).flatMap g := by rw [← List.flatMap_append, List.take_append_drop]
  rw [this, List.length_append]; omega
/-- What the number of a part is for its bytes. -/
theorem fld_nat {n : Int} (h : numB n = true) : ∃ m : Nat, fld n = (m : Int) ∧ m ≤ 2000000001 ∧ -1000000000 ≤ n ∧ n ≤ 1000000000 := by
  simp [numB] at h
  have : 0 ≤ fld n ∧ fld n ≤ 2000000001 := by unfold fld; split <;> omega
  obtain ⟨m, hm⟩ := Int.eq_ofNat_of_zero_le this.1
  exact ⟨m, hm, by omega, h⟩
set_option maxHeartbeats 12800000 in
theorem bytes_s (t : K) : ∀ (v : K) (rV rT : List Value) (w : World) (lv hv lo hi : Nat), hv ≤ w.heap.size → hi ≤ w.heap.size → countK v ≤ 1000 → countK t ≤ 1000 → rightK t → fitsB t v = true → foldB t.of = false → v.parts.length ≤ 40 → (∀ x, InK x v → x.parts.length ≤ 40) → RepX HV 5 w lv hv v rV → RepT w lo hi t rT →
    Calls Try.prog 79 #[.agg rV.toArray, .agg rT.toArray] w (StrPost (encB t v) w) := by
  refine K.ind2 (P := fun t => ∀ (v : K) (rV rT : List Value) (w : World) (lv hv lo hi : Nat), hv ≤ w.heap.size → hi ≤ w.heap.size → countK v ≤ 1000 → countK t ≤ 1000 → rightK t → fitsB t v = true → foldB t.of = false → v.parts.length ≤ 40 → (∀ x, InK x v → x.parts.length ≤ 40) → RepX HV 5 w lv hv v rV → RepT w lo hi t rT →
    Calls Try.prog 79 #[.agg rV.toArray, .agg rT.toArray] w (StrPost (encB t v) w)) ?_ t
  intro t ih v rV rT w lv hv lo hi hhv hh hcv hct hrt hfit hnf hl40 hin40 hV hT
  replace ih := hd ih
  obtain ⟨aV, cV, rwV, rfl, hSV, hlV, hgV⟩ := hV.openV
  obtain ⟨aT, cT, rwT, rfl, hST, hlT, hgT⟩ := hT.open
  have hsz := enc_size t hrt v hfit hcv
  have hkinds := right_holds hrt
  have hpv := hd (fun p (hp : p ∈ v.parts) => (show countK p ≤ 1000 ∧ p.parts.length ≤ 40 ∧ ∀ x, InK x p → x.parts.length ≤ 40 from ⟨by have h1 := count_part hp; have h2 := countK_eq v; omega, hin40 p (.kid hp), fun x hx => hin40 x (hx.trans (.kid hp))⟩))
  have hpt := hd (fun p (hp : p ∈ t.parts) => (show countK p ≤ 1000 ∧ rightK p from ⟨by have h1 := count_part hp; have h2 := countK_eq t; omega, right_part hrt hp⟩))
  have hlt : t.parts.length ≤ 1000000 := by have h1 := len_count t.parts; have h2 := countK_eq t; omega
  have h4 := hd (fun h4 => fits_parts4 hfit h4 hrt)
  have h5 := hd (fun h5 => (show risesK t.parts ∧ foundP t.parts v.parts ∧ ∀ y ∈ t.parts, 1 ≤ y.no ∧ y.no ≤ 30 from ⟨right_rises hrt h5, (fits_parts5 hfit h5 hrt).2.1, fun y hy => ((hrt.ok.2.1 y hy).1 h5).2⟩))
  have hz := hd (encB_eq t v)
  have cb := hd (fun no w' (hb : Below w.heap.size w w') => by_s t no aT cT rwT w' lo hi (Nat.le_trans hh hb.size) hlt (hST.same (Same.below hb hh) (Nat.le_refl _) (Nat.le_refl _)) hlT (fun j h1 h2 => (hgT j h1 h2).below hh hb))
  replace hgV := hd hgV
  replace hgT := hd hgT
  clear hV hT hrt hfit hin40
  have hX := hd (show BoxN ((w.alloc (.cells #[.int .i64 v.most, .string v.name, .int .i64 v.no, .bool v.must, .slice aV v.parts.length cV] 93)).alloc (.cells #[.int .i64 t.of, .string t.name, .int .i64 t.no, .bool t.must, .int .i64 t.most, .slice aT t.parts.length cT] 74)) w.heap.size [.int .i64 v.most, .string v.name, .int .i64 v.no, .bool v.must, .slice aV v.parts.length cV] from (BoxN.new w _ _).below (below_a1 _))
  have hY := hd (show BoxN ((w.alloc (.cells #[.int .i64 v.most, .string v.name, .int .i64 v.no, .bool v.must, .slice aV v.parts.length cV] 93)).alloc (.cells #[.int .i64 t.of, .string t.name, .int .i64 t.no, .bool t.must, .int .i64 t.most, .slice aT t.parts.length cT] 74)) (w.heap.size + 1) [.int .i64 t.of, .string t.name, .int .i64 t.no, .bool t.must, .int .i64 t.most, .slice aT t.parts.length cT] from by have := BoxN.new (w.alloc (.cells #[.int .i64 v.most, .string v.name, .int .i64 v.no, .bool v.must, .slice aV v.parts.length cV] 93)) [.int .i64 t.of, .string t.name, .int .i64 t.no, .bool t.must, .int .i64 t.most, .slice aT t.parts.length cT] 74; rwa [World.size_alloc] at this)
  have hbW := hd (below_a2 w (a := (.cells #[.int .i64 v.most, .string v.name, .int .i64 v.no, .bool v.must, .slice aV v.parts.length cV] 93)) (b := (.cells #[.int .i64 t.of, .string t.name, .int .i64 t.no, .bool t.must, .int .i64 t.most, .slice aT t.parts.length cT] 74)))
  obtain ⟨W, hW⟩ : ∃ W, W = (w.alloc (.cells #[.int .i64 v.most, .string v.name, .int .i64 v.no, .bool v.must, .slice aV v.parts.length cV] 93)).alloc (.cells #[.int .i64 t.of, .string t.name, .int .i64 t.no, .bool t.must, .int .i64 t.most, .slice aT t.parts.length cT] 74) := ⟨_, rfl⟩
  have hWz : Hd (W.heap.size = w.heap.size + 2) := by rw [Hd, hW]; simp
  rw [← hW] at hX hY hbW
  replace hW := hd hW
  have x1 := hX.out.1 1 _ rfl
  have x4 := hX.out.1 4 _ rfl
  have y0 := hY.out.1 0 _ rfl
  generalize hto : t.of = o at *
  generalize encB t v = z at *
  by_cases h2 : o = 2
  · have hres := hd (show z = v.name.data.toList by rw [hz.out, if_pos h2])
    subst h2
    clear hz
    go_enter Try.func79, Try.ntmps79
    go_upto_region 1 with (fail)
    rw [← hW.out]
    clear hW
    go_wp2_with fail
    go_ret
    exact ⟨by rw [hres.out, mkS_toList]; rfl, hbW.out⟩
  · have h2c : (o == 2) = false := by simpa using h2
    by_cases ho4 : o = 4
    · obtain ⟨p, hp, hrp, hfx⟩ := h4.out ho4
      replace hz := hd (show z = v.parts.flatMap (fun x => sized p.of (encB p x)) by
        rw [hz.out, if_neg h2, if_neg (by rw [hnf]; simp), if_pos ho4, hp]; simp only [encH_one])
      have hbnd := hd (fun k => Nat.le_trans (take_flat_len (fun x => sized p.of (encB p x)) v.parts k) (by rw [← hz.out]; omega : _ ≤ 60000))
      replace hp := hd hp
      subst ho4
      clear h2
      go_enter Try.func79, Try.ntmps79
      go_upto_region 1 with (fail)
      rw [← hW.out]
      clear hW
      go_wp2_with fail
      clear x1 x4 y0
      go_loopw [5, 25] (fun sv n wr => ∃ k : Nat, n = .int .i64 k ∧ k ≤ v.parts.length ∧ sv = .string (mkS ((v.parts.take k).flatMap (fun x => sized p.of (encB p x)))) ∧ Hd (Below W.heap.size W wr)) (fun _ n _ => v.parts.length - (intOf n).toNat)
      case atStart => exact ⟨0, rfl, Nat.zero_le _, rfl, Below.refl _ _⟩
      case round =>
        obtain ⟨k, rfl, hk, rfl, hbl⟩ := hrel
        obtain ⟨wo, rfl⟩ : ∃ wo : World, wo = wr := ⟨_, rfl⟩
        have hbw := hd (hbW.out.next hbl.out)
        by_cases hlk : k < v.parts.length
        · have hlkI : (k : Int) < (v.parts.length : Int) := by omega
          have hkr : k < rwV.length := by omega
          obtain ⟨b4, rfl, hb4, hc4⟩ := hSV.at (j := k) hkr
          have rx := hgV.out k hlk hkr
          obtain ⟨a4, c4, rows4, hr4, _⟩ := rx.openV
          have hck := hc4 k hkr
          rw [hr4] at hck rx
          have hpl0 : 0 < t.parts.length := by rw [hp.out]; simp
          have hpr0 : 0 < rwT.length := by omega
          obtain ⟨bT, rfl, hbT, hcT⟩ := hST.at (j := 0) hpr0
          have rp := hgT.out 0 hpl0 hpr0
          have hp0 : t.parts[0] = p := by simp [hp.out]
          rw [hp0] at rp
          obtain ⟨a6, c6, rows6, hr6, _⟩ := rp.open
          have hcp := hcT 0 hpr0
          rw [hr6] at hcp rp
          have hpm : p ∈ t.parts := by rw [hp.out]; simp
          have hplI : (0 : Int) < (t.parts.length : Int) := by omega
          have hmem : v.parts[k] ∈ v.parts := List.getElem_mem hlk
          have hxx := hpv.out v.parts[k] hmem
          have hxf := (hfx v.parts[k] hmem).2
          have hnum := hd (fun (hf : foldB p.of = true) => fld_nat (fits_num hxf hf hrp))
          have hst := hd (take_flat (fun x => sized p.of (encB p x)) hlk)
          have hb0 := hd (hbnd.out k)
          have hb1 := hd (hbnd.out (k + 1))
          have hsx := hd (enc_size p hrp v.parts[k] hxf hxx.1)
          have cf := hd (fun (hf : foldB p.of = false) w' (hb : Below w.heap.size w w') => ih.out p hpm v.parts[k] _ _ w' lv hv lo hi (Nat.le_trans hhv hb.size) (Nat.le_trans hh hb.size) hxx.1 (hpt.out p hpm).1 hrp hxf hf hxx.2.1 hxx.2.2 (rx.below hhv hb) (rp.below hh hb))
          have henc := hd (encB_eq p v.parts[k])
          have e0 := keepCell hbw.out (show w.cell? ⟨b4, k * 5, none⟩ = _ from hck 0 _ rfl)
          have e1 := keepCell hbw.out (hck 1 _ rfl)
          have e2 := keepCell hbw.out (hck 2 _ rfl)
          have e3 := keepCell hbw.out (hck 3 _ rfl)
          have e4 := keepCell hbw.out (hck 4 _ rfl)
          clear hxx hr4 hck rx hc4 hxf hmem
          generalize encB p v.parts[k] = d at *
          generalize v.parts[k] = x at *
          have hX4 := hd (show BoxN (wo.alloc (.cells #[.int .i64 x.most, .string x.name, .int .i64 x.no, .bool x.must, .slice a4 x.parts.length c4] 93)) wo.heap.size [.int .i64 x.most, .string x.name, .int .i64 x.no, .bool x.must, .slice a4 x.parts.length c4] from BoxN.new wo [.int .i64 x.most, .string x.name, .int .i64 x.no, .bool x.must, .slice a4 x.parts.length c4] _)
          have hbl4 := hd (hbl.out.next (below_a1 wo (a := .cells #[.int .i64 x.most, .string x.name, .int .i64 x.no, .bool x.must, .slice a4 x.parts.length c4] 93)))
          have hbw4 := hd (hbw.out.next (below_a1 wo (a := .cells #[.int .i64 x.most, .string x.name, .int .i64 x.no, .bool x.must, .slice a4 x.parts.length c4] 93)))
          go_upto_region 9 with (fail)
          generalize wo.alloc (.cells #[.int .i64 x.most, .string x.name, .int .i64 x.no, .bool x.must, .slice a4 x.parts.length c4] 93) = W4 at *
          clear e0 e1 e2 e3 e4
          have hY4 := hd (hY.out.below hbl4.out)
          have y5 := hY4.out.1 5 _ rfl
          have p0 := keepCell hbw4.out (show w.cell? ⟨bT, 0, none⟩ = _ from hcp 0 _ rfl)
          have p1 := keepCell hbw4.out (show w.cell? ⟨bT, 1, none⟩ = _ from hcp 1 _ rfl)
          have p2 := keepCell hbw4.out (show w.cell? ⟨bT, 2, none⟩ = _ from hcp 2 _ rfl)
          have p3 := keepCell hbw4.out (show w.cell? ⟨bT, 3, none⟩ = _ from hcp 3 _ rfl)
          have p4 := keepCell hbw4.out (show w.cell? ⟨bT, 4, none⟩ = _ from hcp 4 _ rfl)
          have p5 := keepCell hbw4.out (show w.cell? ⟨bT, 5, none⟩ = _ from hcp 5 _ rfl)
          have cfo := hd (folded_b p.of (.string p.name) (.int .i64 p.no) (.bool p.must) (.int .i64 p.most) (.slice a6 p.parts.length c6) W4)
          generalize hpf : foldB p.of = pf at *
          cases pf with
          | true =>
            obtain ⟨m, hm, hm9, hn0, hn1⟩ := hnum.out rfl
            have hdv := hd (show sized p.of d = varB m by
              have h2 : p.of ≠ 2 := by rw [foldB_iff] at hpf; omega
              rw [sized, if_pos hpf, henc.out, if_neg h2, if_pos rfl, hm]; rfl)
            have c1 := hd (fun w => fold_s x.most w)
            rw [hm] at c1
            have hml := varB_len10 m (by omega)
            have hb0o := hb0.out
            have hfin := hd (show Value.string (mkS ((v.parts.take k).flatMap (fun x => sized p.of (encB p x))) ++ mkS (varB m)) = .string (mkS ((v.parts.take (k + 1)).flatMap (fun x => sized p.of (encB p x)))) by rw [hst.out, ← hdv.out, mkS_append])
            have hs2 : (mkS ((v.parts.take k).flatMap (fun x => sized p.of (encB p x)))).size + (mkS (varB m)).size ≤ 50000000 := by rw [mkS_size, mkS_size]; omega
            clear hcT hcp hr6 rp hst hb0 hb1 hsx henc hdv hb0o hnum hpf
            generalize (v.parts.take k).flatMap (fun x => sized p.of (encB p x)) = ys at *
            generalize hzs : (v.parts.take (k + 1)).flatMap (fun x => sized p.of (encB p x)) = zs at *
            replace hzs := hd hzs
            go_wp2_with fail
            refine cfo.out.mono ?_
            rintro e w5 ⟨rfl, hb5⟩
            have hX5 := hd (hX4.out.below hb5)
            have hbl5 := hd (hbl4.out.next hb5)
            have u0 := hX5.out.1 0 _ rfl
            clear hb5 p0 p1 p2 p3 p4 p5 y5
            go_wp2_with fail
            refine (c1.out _ (by omega) (by omega)).mono ?_
            rintro e w6 ⟨rfl, rfl⟩
            go_wp2_with fail
            refine (varint_s m _ (by omega)).mono ?_
            rintro e w6 ⟨rfl, hb6⟩
            have hbl6 := hd (hbl5.out.next hb6)
            clear hb6 u0
            go_wp2_with fail
            go_roundw
            case rel => exact ⟨k + 1, by go_num, by omega, by rw [hzs.out]; exact hfin.out, hbl6⟩
            case measure => simp [intOf]; omega
          | false =>
            replace cf := hd (cf.out rfl)
            have hdl : d.length ≤ 60000 := by have := hsx.out; have := countK_eq x; have := hb1.out; have h9 := hst.out; rw [h9, List.length_append, sized, if_neg (by rw [hpf]; simp), List.length_append] at this; omega
            have hdl2 : (mkS d).size ≤ 60000 := by rw [mkS_size]; exact hdl
            have hdv := hd (show sized p.of d = varB d.length ++ d by rw [sized, if_neg (by rw [hpf]; simp)])
            have hml := varB_len10 d.length (by omega)
            have hb0o := hb0.out
            have hfin := hd (show Value.string (mkS ((v.parts.take k).flatMap (fun x => sized p.of (encB p x))) ++ (mkS (varB d.length) ++ mkS d)) = .string (mkS ((v.parts.take (k + 1)).flatMap (fun x => sized p.of (encB p x)))) by rw [hst.out, hdv.out, mkS_append, mkS_append])
            have hs1 : (mkS (varB d.length)).size + (mkS d).size ≤ 50000000 := by rw [mkS_size, mkS_size]; omega
            have hs2 : (mkS ((v.parts.take k).flatMap (fun x => sized p.of (encB p x)))).size + (mkS (varB d.length) ++ mkS d).size ≤ 50000000 := by rw [ByteArray.size_append, mkS_size, mkS_size, mkS_size]; omega
            have hs3i : ¬ (9223372036854775807 : Int) < ((mkS (varB d.length)).size : Int) + ((mkS d).size : Int) := by omega
            have hs2i : ¬ (9223372036854775807 : Int) < ((mkS ((v.parts.take k).flatMap (fun x => sized p.of (encB p x)))).size : Int) + ((mkS (varB d.length) ++ mkS d).size : Int) := by omega
            have hs2j : ¬ (9223372036854775807 : Int) < ((mkS ((v.parts.take k).flatMap (fun x => sized p.of (encB p x)))).size : Int) + (((mkS (varB d.length)).size : Int) + ((mkS d).size : Int)) := by rw [ByteArray.size_append] at hs2; omega
            have hs3k : IntKind.i64.max = 9223372036854775807 := rfl
            have cv := hd (fun w => varint_s d.length w (by omega))
            have hsd := hd (mkS_size d)
            clear hcT hcp hr6 rp hst hb0 hb1 hsx henc hdv hb0o hnum hpf hfx
            generalize (v.parts.take k).flatMap (fun x => sized p.of (encB p x)) = ys at *
            generalize hzs : (v.parts.take (k + 1)).flatMap (fun x => sized p.of (encB p x)) = zs at *
            replace hzs := hd hzs
            go_wp2_with fail
            refine cfo.out.mono ?_
            rintro e w5 ⟨rfl, hb5⟩
            have hX5 := hd (hX4.out.below hb5)
            have hbl5 := hd (hbl4.out.next hb5)
            have hbw5 := hd (hbw4.out.next hb5)
            have q0 := keepCell hb5 p0
            have q1 := keepCell hb5 p1
            have q2 := keepCell hb5 p2
            have q3 := keepCell hb5 p3
            have q4 := keepCell hb5 p4
            have q5 := keepCell hb5 p5
            have z5 := keepCell hb5 y5
            have u0 := hX5.out.1 0 _ rfl; have u1 := hX5.out.1 1 _ rfl; have u2 := hX5.out.1 2 _ rfl; have u3 := hX5.out.1 3 _ rfl; have u4 := hX5.out.1 4 _ rfl
            clear hb5 p0 p1 p2 p3 p4 p5 y5
            go_wp2_with fail
            go_region_law (first
              | (go_simp; go_at_call 79; refine (cf.out _ (by first | exact hbw5.out | exact hbw5.out.drew)).mono ?_; rintro e' w6 ⟨rfl, hb6⟩; have hb6 := hd (show Below w5.heap.size w5 w6 from by first | exact hb6 | exact (Below.refl _ w5).drew.next hb6)))
            all_goals
              have hbl6 := hd (hbl5.out.next hb6.out)
              clear hb6
              go_wp2_with fail
              refine (cv.out _).mono ?_
              rintro e w7 ⟨rfl, hb7⟩
              have hbl7 := hd (hbl6.out.next hb7)
              clear hb7
              go_wp2_with fail
              go_roundw
              case rel => exact ⟨k + 1, by go_num, by omega, by rw [hzs.out]; exact hfin.out, hbl7⟩
              case measure => simp [intOf]; omega
        · obtain rfl : k = v.parts.length := by omega
          have hltI : ¬ (v.parts.length : Int) < (v.parts.length : Int) := by omega
          have hfin := hd (show (v.parts.take v.parts.length).flatMap (fun x => sized p.of (encB p x)) = z by rw [hz.out, List.take_length])
          rw [hfin.out]
          go_wp2_with fail
          go_ret
          exact ⟨rfl, hbw.out⟩
    · have h5' : o = 5 := by
        rcases hkinds with e | e | e | e | e
        · rw [e] at hnf; simp [foldB] at hnf
        · exact absurd e h2
        · rw [e] at hnf; simp [foldB] at hnf
        · exact absurd e ho4
        · exact e
      obtain ⟨hri, hfd, hnos⟩ := h5.out h5'
      replace hz := hd (show z = v.parts.flatMap (fun x => encL1 t.parts x) by
        rw [hz.out, if_neg h2, if_neg (by rw [hnf]; simp), if_neg ho4])
      have hzl : z.length ≤ 60000 := by omega
      replace hri := hd hri
      replace hfd := hd hfd
      replace hnos := hd hnos
      have ho4c : (o == 4) = false := by simpa using ho4
      subst h5'
      clear h2 ho4 h4 h5 hkinds hnf
      obtain ⟨i0, hi0, hz0, hz1, hz2⟩ := info_parts infoField
      have Hi := hd hi0; have Hz0 := hd hz0; have Hz1 := hd hz1; have Hz2 := hd hz2
      clear hi0 hz0 hz1 hz2
      go_enter Try.func79, Try.ntmps79
      go_upto_region 1 with (fail)
      rw [← hW.out]
      clear hW
      go_wp2_with fail
      clear x1 x4 y0
      go_loopw [9, 58] (fun s n wr => ∃ (k : Nat) (fs : List DField), n = .int .i64 k ∧ k ≤ v.parts.length ∧ Hd (fs.length = k) ∧ Hd (flat fs = (v.parts.take k).flatMap (fun x => encL1 t.parts x)) ∧ Hd (∀ f ∈ fs, fieldB f = true ∧ f.data.size ≤ 60000) ∧ Hd (Own wr W.heap.size 125 4 s (fs.map DField.enc)) ∧ Hd (Below W.heap.size W wr)) (fun _ n _ => v.parts.length - (intOf n).toNat)
      case atStart => exact ⟨0, [], rfl, Nat.zero_le _, rfl, by rw [List.take_zero]; rfl, hd (fun f hf => by simp at hf), Own.nil, Below.refl _ _⟩
      case round =>
        obtain ⟨k, fs, rfl, hk, hfl, hff, hfs, hOw, hbl⟩ := hrel
        obtain ⟨wo, rfl⟩ : ∃ wo : World, wo = wr := ⟨_, rfl⟩
        have hbw := hd (hbW.out.next hbl.out)
        have hfl2 : fs.length ≤ 40 := by have := hfl.out; omega
        by_cases hlk : k < v.parts.length
        · have hlkI : (k : Int) < (v.parts.length : Int) := by omega
          have hkr : k < rwV.length := by omega
          obtain ⟨b4, rfl, hb4, hc4⟩ := hSV.at (j := k) hkr
          have rx := hgV.out k hlk hkr
          obtain ⟨a4, c4, rows4, hr4, _⟩ := rx.openV
          have hck := hc4 k hkr
          rw [hr4] at hck rx
          have hmem : v.parts[k] ∈ v.parts := List.getElem_mem hlk
          have hxx := hpv.out v.parts[k] hmem
          obtain ⟨j, hf, hxf⟩ := found_at hfd.out hri.out hmem
          have hj := hf.1
          have hjr : j < rwT.length := by omega
          have rp := hgT.out j hj hjr
          obtain ⟨a6, c6, rows6, hr6, _⟩ := rp.open
          rw [hr6] at rp
          have hpm : t.parts[j] ∈ t.parts := List.getElem_mem hj
          have hyno := hnos.out _ hpm
          have hrp := (hpt.out _ hpm).2
          have hxno : v.parts[k].no = (t.parts[j]).no := hf.2.1.symm
          have hst := hd (take_flat (fun x => encL1 t.parts x) hlk)
          have hbnd := hd (take_flat_len (fun x => encL1 t.parts x) v.parts (k + 1))
          have he1 := hd (encL1_first hf)
          have hsx := hd (enc_size _ hrp v.parts[k] hxf hxx.1)
          have hnum := hd (fun (hf : foldB (t.parts[j]).of = true) => fits_num hxf hf hrp)
          have cf := hd (fun (hff : foldB (t.parts[j]).of = false) w' (hb : Below w.heap.size w w') => ih.out _ hpm v.parts[k] _ _ w' lv hv lo hi (Nat.le_trans hhv hb.size) (Nat.le_trans hh hb.size) hxx.1 (hpt.out _ hpm).1 hrp hxf hff hxx.2.1 hxx.2.2 (rx.below hhv hb) (rp.below hh hb))
          have hfo := hd (fieldOf_fb hxno)
          have hfo2 := hd (show fieldOf (t.parts[j]) v.parts[k] = if foldB (t.parts[j]).of = true then ⟨v.parts[k].no, 0, v.parts[k].most, ⟨#[]⟩⟩ else ⟨v.parts[k].no, 2, 0, mkS (encB (t.parts[j]) v.parts[k])⟩ from rfl)
          have e0 := keepCell hbw.out (show w.cell? ⟨b4, k * 5, none⟩ = _ from hck 0 _ rfl)
          have e1 := keepCell hbw.out (hck 1 _ rfl)
          have e2 := keepCell hbw.out (hck 2 _ rfl)
          have e3 := keepCell hbw.out (hck 3 _ rfl)
          have e4 := keepCell hbw.out (hck 4 _ rfl)
          have hf := hd hf
          have hdl : (encB (t.parts[j]) v.parts[k]).length ≤ 60000 := by have := hsx.out; have := hxx.1; omega
          clear hxx hr4 hck rx hc4 hxf hmem rp hpm hrp
          replace hxno := hd hxno
          generalize encB (t.parts[j]) v.parts[k] = d at *
          generalize fieldOf (t.parts[j]) v.parts[k] = fd at *
          generalize hyy : t.parts[j] = y at *
          replace hyy := hd hyy
          generalize v.parts[k] = x at *
          have hX4 := hd (show BoxN (wo.alloc (.cells #[.int .i64 x.most, .string x.name, .int .i64 x.no, .bool x.must, .slice a4 x.parts.length c4] 93)) wo.heap.size [.int .i64 x.most, .string x.name, .int .i64 x.no, .bool x.must, .slice a4 x.parts.length c4] from BoxN.new wo [.int .i64 x.most, .string x.name, .int .i64 x.no, .bool x.must, .slice a4 x.parts.length c4] _)
          have hbl4 := hd (hbl.out.next (below_a1 wo (a := .cells #[.int .i64 x.most, .string x.name, .int .i64 x.no, .bool x.must, .slice a4 x.parts.length c4] 93)))
          have hbw4 := hd (hbw.out.next (below_a1 wo (a := .cells #[.int .i64 x.most, .string x.name, .int .i64 x.no, .bool x.must, .slice a4 x.parts.length c4] 93)))
          have hOw4 := hd (hOw.out.below (below_a1 wo (a := .cells #[.int .i64 x.most, .string x.name, .int .i64 x.no, .bool x.must, .slice a4 x.parts.length c4] 93)))
          go_upto_region 19 with (fail)
          generalize wo.alloc (.cells #[.int .i64 x.most, .string x.name, .int .i64 x.no, .bool x.must, .slice a4 x.parts.length c4] 93) = W4 at *
          clear e0 e1 e2 e3 e4
          have hY4 := hd (hY.out.below hbl4.out)
          have y0 := hY4.out.1 0 _ rfl; have y1 := hY4.out.1 1 _ rfl; have y2 := hY4.out.1 2 _ rfl; have y3 := hY4.out.1 3 _ rfl; have y4 := hY4.out.1 4 _ rfl; have y5 := hY4.out.1 5 _ rfl
          have u2 := hX4.out.1 2 _ rfl
          have cp := hd (cb.out x.no W4 hbw4.out)
          go_wp2_with fail
          refine cp.out.mono ?_
          rintro e w6 ⟨hp1, _, hb6⟩
          obtain ⟨_, rfl⟩ := hp1 j hf.out
          have hbl6 := hd (hbl4.out.next hb6)
          have hbw6 := hd (hbw4.out.next hb6)
          rw [hr6]
          have hX7 := hd ((hX4.out.below hb6).below (below_a1 w6 (a := .cells #[.int .i64 y.of, .string y.name, .int .i64 y.no, .bool y.must, .int .i64 y.most, .slice a6 y.parts.length c6] 74)))
          have hY7 := hd (show BoxN (w6.alloc (.cells #[.int .i64 y.of, .string y.name, .int .i64 y.no, .bool y.must, .int .i64 y.most, .slice a6 y.parts.length c6] 74)) w6.heap.size [.int .i64 y.of, .string y.name, .int .i64 y.no, .bool y.must, .int .i64 y.most, .slice a6 y.parts.length c6] from BoxN.new w6 [.int .i64 y.of, .string y.name, .int .i64 y.no, .bool y.must, .int .i64 y.most, .slice a6 y.parts.length c6] _)
          have hbl7 := hd (hbl6.out.next (below_a1 w6 (a := .cells #[.int .i64 y.of, .string y.name, .int .i64 y.no, .bool y.must, .int .i64 y.most, .slice a6 y.parts.length c6] 74)))
          have hbw7 := hd (hbw6.out.next (below_a1 w6 (a := .cells #[.int .i64 y.of, .string y.name, .int .i64 y.no, .bool y.must, .int .i64 y.most, .slice a6 y.parts.length c6] 74)))
          have hOw7 := hd ((hOw4.out.below hb6).below (below_a1 w6 (a := .cells #[.int .i64 y.of, .string y.name, .int .i64 y.no, .bool y.must, .int .i64 y.most, .slice a6 y.parts.length c6] 74)))
          clear hb6 hp1 u2 y0 y1 y2 y3 y4 y5
          go_upto_region 20 with (fail)
          generalize w6.alloc (.cells #[.int .i64 y.of, .string y.name, .int .i64 y.no, .bool y.must, .int .i64 y.most, .slice a6 y.parts.length c6] 74) = W7 at *
          have cfo := hd (folded_b y.of (.string y.name) (.int .i64 y.no) (.bool y.must) (.int .i64 y.most) (.slice a6 y.parts.length c6) W7)
          have t0 := hY7.out.1 0 _ rfl; have t1 := hY7.out.1 1 _ rfl; have t2 := hY7.out.1 2 _ rfl; have t3 := hY7.out.1 3 _ rfl; have t4 := hY7.out.1 4 _ rfl; have t5 := hY7.out.1 5 _ rfl
          obtain ⟨aS, cS, rfl, _⟩ := hOw.out.sl
          simp only [List.length_map] at *
          have hzW7 := hbl7.out.size
          generalize hpf : foldB y.of = pf at *
          cases pf with
          | true =>
            have hfdE := hd (show fd = ⟨x.no, 0, x.most, ⟨#[]⟩⟩ from by rw [hfo2.out, if_pos rfl])
            have hnb := hnum.out rfl
            have hnew := hd (show ∀ f ∈ fs ++ [(⟨x.no, 0, x.most, ⟨#[]⟩⟩ : DField)], fieldB f = true ∧ f.data.size ≤ 60000 from by
              intro f hf2
              rcases List.mem_append.1 hf2 with h | h
              · exact hfs.out f h
              · rw [List.mem_singleton] at h; subst h
                refine ⟨?_, Nat.zero_le _⟩
                rw [fieldB]
                have h1 : 1 ≤ x.no ∧ x.no ≤ 30 := by have := hxno.out; omega
                simp [h1, hnb, emptyS])
            have hflat := hd (show flat (fs ++ [(⟨x.no, 0, x.most, ⟨#[]⟩⟩ : DField)]) = (v.parts.take (k + 1)).flatMap (fun x => encL1 t.parts x) from by
              rw [flat_snoc, hff.out, hst.out, he1.out, ← hfo.out, hfdE.out])
            have hle := hd (show (fs ++ [(⟨x.no, 0, x.most, ⟨#[]⟩⟩ : DField)]).length = k + 1 from by simp [hfl.out])
            have hfl2 : fs.length ≤ 40 := by have := hfl.out; omega
            clear hnb hnum hsx
            replace hpf := hd hpf
            go_wp2_with fail
            refine cfo.out.mono ?_
            rintro e w8 ⟨rfl, hb8⟩
            have hX8 := hd (hX7.out.below hb8)
            have hbl8 := hd (hbl7.out.next hb8)
            have hOw8 := hd (hOw7.out.below hb8)
            have hzW8 := hbl8.out.size
            have u0 := hX8.out.1 0 _ rfl; have u1 := hX8.out.1 1 _ rfl; have u2 := hX8.out.1 2 _ rfl; have u3 := hX8.out.1 3 _ rfl; have u4 := hX8.out.1 4 _ rfl
            clear hb8 t0 t1 t2 t3 t4 t5
            go_wp2_with (at_builtin; refine wpList_appOwn rfl (.tmp 71) (.tmp 77) 121 rfl W.heap.size 125 i0 _ 4 40 Try.underlying121 Hi.out Hz0.out Hz1.out Hz2.out rfl (by decide) _ ((fs).map DField.enc) [DField.enc (⟨x.no, 0, x.most, ⟨#[]⟩⟩ : DField)] rfl (hOw8.out.below (below_a1 _)) _ 1 1 rfl rfl (one_row rfl) (cells_new _ _ _) (DField.enc_one [(⟨x.no, 0, x.most, ⟨#[]⟩⟩ : DField)]) (by simp only [List.length_map]; omega) (by decide) (by first | omega | exact Nat.le_refl _ | (simp; done) | (simp; omega)) ?_; intro s9 w9 ho9 hga hva; have hbl9 := hd ((hbl8.out.next (below_a1 _)).grown hga (by first | omega | exact Nat.le_refl _ | (simp; done) | (simp; omega)) (fun g hg => (hOw8.out.lt g hg).1)); replace ho9 := hd (own_snoc ho9); clear hga hva)
            go_roundw
            case rel => exact ⟨k + 1, _, by go_num, by omega, hle, hflat, hnew, ho9, hbl9⟩
            case measure => simp [intOf]; omega
          | false =>
            have hfdE := hd (show fd = ⟨x.no, 2, 0, mkS d⟩ from by rw [hfo2.out, if_neg (by simp)])
            have hnew := hd (show ∀ f ∈ fs ++ [(⟨x.no, 2, 0, mkS d⟩ : DField)], fieldB f = true ∧ f.data.size ≤ 60000 from by
              intro f hf2
              rcases List.mem_append.1 hf2 with h | h
              · exact hfs.out f h
              · rw [List.mem_singleton] at h; subst h
                refine ⟨?_, by rw [mkS_size]; exact hdl⟩
                rw [fieldB]
                have h1 : 1 ≤ x.no ∧ x.no ≤ 30 := by have := hxno.out; omega
                simp [h1])
            have hflat := hd (show flat (fs ++ [(⟨x.no, 2, 0, mkS d⟩ : DField)]) = (v.parts.take (k + 1)).flatMap (fun x => encL1 t.parts x) from by
              rw [flat_snoc, hff.out, hst.out, he1.out, ← hfo.out, hfdE.out])
            have hle := hd (show (fs ++ [(⟨x.no, 2, 0, mkS d⟩ : DField)]).length = k + 1 from by simp [hfl.out])
            have hfl2 : fs.length ≤ 40 := by have := hfl.out; omega
            replace cf := hd (cf.out rfl)
            clear hnum hsx
            replace hpf := hd hpf
            go_wp2_with fail
            refine cfo.out.mono ?_
            rintro e w8 ⟨rfl, hb8⟩
            have hX8 := hd (hX7.out.below hb8)
            have hY8 := hd (hY7.out.below hb8)
            have hbl8 := hd (hbl7.out.next hb8)
            have hbw8 := hd (hbw7.out.next hb8)
            have hOw8 := hd (hOw7.out.below hb8)
            have hzW8 := hbl8.out.size
            have u0 := hX8.out.1 0 _ rfl; have u1 := hX8.out.1 1 _ rfl; have u2 := hX8.out.1 2 _ rfl; have u3 := hX8.out.1 3 _ rfl; have u4 := hX8.out.1 4 _ rfl
            clear hb8 t0 t1 t2 t3 t4 t5
            have t0 := hY8.out.1 0 _ rfl; have t1 := hY8.out.1 1 _ rfl; have t2 := hY8.out.1 2 _ rfl; have t3 := hY8.out.1 3 _ rfl; have t4 := hY8.out.1 4 _ rfl; have t5 := hY8.out.1 5 _ rfl
            go_wp2_with fail
            go_region_law (first
              | (refine step_appOwn (by rfl) _ _ _ (by rfl) W.heap.size 125 i0 _ 4 40 Try.underlying121 Hi.out Hz0.out Hz1.out Hz2.out (by rfl) (by decide) _ (fs.map DField.enc) [DField.enc ⟨x.no, 2, 0, mkS d⟩] (by rfl) (hO9.out.below (below_a1 _)) _ 1 _ (by rfl) (by rfl) (one_row rfl) (cells_new _ _ _) (DField.enc_one [⟨x.no, 2, 0, mkS d⟩]) (by simp only [List.length_map]; omega) (by decide) (by first | omega | exact Nat.le_refl _ | (simp; done) | (simp; omega)) ?_; intro s10 w10 ho10 hga hva; have hbl10 := hd ((hbl9.out.next (below_a1 _)).grown hga (by first | omega | exact Nat.le_refl _ | (simp; done) | (simp; omega)) (fun g hg => (hO9.out.lt g hg).1)); replace ho10 := hd (own_snoc ho10); clear hga hva)
              | (go_simp; go_at_call 79; refine (cf.out _ (by first | exact hbw8.out | exact hbw8.out.drew)).mono ?_; rintro e' w9 ⟨rfl, hb9⟩; have hb9 := hd (show Below w8.heap.size w8 w9 from by first | exact hb9 | exact (Below.refl _ w8).drew.next hb9); have hX9 := hd (hX8.out.below hb9.out); have hO9 := hd (hOw8.out.below hb9.out); have hbl9 := hd (hbl8.out.next hb9.out); have hv2 := hX9.out.1 2 _ rfl; have hz9 := hbl9.out.size; have hv2b := fun o => keepCell (below_a1 w9 (a := o)) hv2))
            all_goals
              go_wp2_with fail
              go_roundw
              case rel => exact ⟨k + 1, _, by go_num, by omega, hle, hflat, hnew, ho10, hbl10⟩
              case measure => simp [intOf]; omega
        · obtain rfl : k = v.parts.length := by omega
          have hltI : ¬ (v.parts.length : Int) < (v.parts.length : Int) := by omega
          have hfin := hd (show flat fs = z by rw [hff.out, hz.out, List.take_length])
          have hSl := hd (show Sl wo _ 4 (fs.map DField.enc) from hOw.out.sl)
          have cl := hd (fields_s fs _ wo (by omega) (fun f hf => (hfs.out f hf).1) (fun f hf => Nat.le_trans (hfs.out f hf).2 (by omega)) hSl.out)
          rw [hfin.out] at cl
          go_wp2_with fail
          refine cl.out.mono ?_
          rintro e w9 ⟨rfl, hb9⟩
          have hB9 := hd (hbw.out.next hb9)
          clear hb9
          go_wp2_with fail
          go_ret
          exact ⟨rfl, hB9.out⟩
end Go.Proofs.Ytobahkjbadamhaa

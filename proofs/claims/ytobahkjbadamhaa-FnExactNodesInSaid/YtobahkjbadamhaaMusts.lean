/- Whether all that must be is there: l4Musts of the reference. -/
import Derived.Test.YtobahkjbadamhaaDefS
import Derived.Test.YtobahkjbadamhaaMergeM
import Derived.Test.YtobahkjbadamhaaSubS
namespace Go.Proofs.Ytobahkjbadamhaa
open Go.RowKit
set_option linter.unusedVariables false
set_option maxRecDepth 100000
theorem all_no {α : Type} {f : α → Bool} {l : List α} {k : Nat} (hk : k < l.length) (h : f l[k] = false) : l.all f = false := by
  rw [List.all_eq_false]; exact ⟨l[k], List.getElem_mem hk, by rw [h]; simp⟩
theorem all_yes {α : Type} {f : α → Bool} {l : List α} (h : ∀ k (hk : k < l.length), f l[k] = true) : l.all f = true := by
  rw [List.all_eq_true]; intro x hx; obtain ⟨k, hk, rfl⟩ := List.getElem_of_mem hx; exact h k hk
set_option maxHeartbeats 6400000 in
theorem musts_s (v t : K) (aV : Option Addr) (cV : Nat) (rowsV : List (List Value)) (aT : Option Addr) (cT : Nat) (rowsT : List (List Value)) (vm vo : Int) (vt : ByteArray) (vb : Bool) (w : World) (lv hv lo hi : Nat) (hhv : hv ≤ w.heap.size) (hh : hi ≤ w.heap.size) (hlv : v.parts.length ≤ 1000000) (hlt : t.parts.length ≤ 1000000)
    (hSV : XSl 5 w lv hv (.slice aV v.parts.length cV) rowsV) (hlV : rowsV.length = v.parts.length) (hgV : ∀ j (h : j < v.parts.length) (h' : j < rowsV.length), RepX HV 5 w lv hv v.parts[j] rowsV[j])
    (hST : RSl w lo hi (.slice aT t.parts.length cT) rowsT) (hlT : rowsT.length = t.parts.length) (hgT : ∀ j (h : j < t.parts.length) (h' : j < rowsT.length), RepT w lo hi t.parts[j] rowsT[j]) :
    Calls Try.prog 110 #[.agg #[.int .i64 vm, .string vt, .int .i64 vo, .bool vb, .slice aV v.parts.length cV], .agg #[.int .i64 t.of, .string t.name, .int .i64 t.no, .bool t.must, .int .i64 t.most, .slice aT t.parts.length cT]] w (BoolPost (mustsB t.parts v.parts) w) := by
  replace hgV := hd hgV
  replace hgT := hd hgT
  generalize hps : t.parts = ps at *
  generalize hvs : v.parts = vs at *
  clear hps hvs
  have hz := hd (show mustsB ps vs = ps.all (fun y => !y.must || vs.any (fun x => x.no == y.no)) from rfl)
  generalize mustsB ps vs = z at *
  generalize t.of = o at *
  generalize t.name = nm at *
  generalize t.no = nn at *
  generalize t.must = mu at *
  generalize t.most = mo at *
  have hb2 := hd (below_a2 w (a := .cells #[.int .i64 vm, .string vt, .int .i64 vo, .bool vb, .slice aV vs.length cV] 93) (b := .cells #[.int .i64 o, .string nm, .int .i64 nn, .bool mu, .int .i64 mo, .slice aT ps.length cT] 74))
  have qV := hd (show ((w.alloc (.cells #[.int .i64 vm, .string vt, .int .i64 vo, .bool vb, .slice aV vs.length cV] 93)).alloc (.cells #[.int .i64 o, .string nm, .int .i64 nn, .bool mu, .int .i64 mo, .slice aT ps.length cT] 74)).cell? ⟨w.heap.size, 4, none⟩ = some (.slice aV vs.length cV) by go_simp)
  have qT := hd (show ((w.alloc (.cells #[.int .i64 vm, .string vt, .int .i64 vo, .bool vb, .slice aV vs.length cV] 93)).alloc (.cells #[.int .i64 o, .string nm, .int .i64 nn, .bool mu, .int .i64 mo, .slice aT ps.length cT] 74)).cell? ⟨w.heap.size + 1, 5, none⟩ = some (.slice aT ps.length cT) by go_simp)
  go_enter Try.func110, Try.ntmps110
  go_upto_region 1 with (fail)
  generalize (w.alloc (.cells #[.int .i64 vm, .string vt, .int .i64 vo, .bool vb, .slice aV vs.length cV] 93)).alloc (.cells #[.int .i64 o, .string nm, .int .i64 nn, .bool mu, .int .i64 mo, .slice aT ps.length cT] 74) = W at *
  have qT0 := qT.out
  go_wp2_with fail
  clear qT0
  go_loopw [13] (fun n wr => ∃ k : Nat, n = .int .i64 k ∧ k ≤ ps.length ∧ Hd (∀ i (h : i < ps.length), i < k → (!ps[i].must || vs.any (fun x => x.no == ps[i].no)) = true) ∧ Hd (Below W.heap.size W wr)) (fun n _ => ps.length - (intOf n).toNat)
  case atStart => exact ⟨0, rfl, Nat.zero_le _, fun i _ h => by omega, Below.refl _ _⟩
  case round =>
    obtain ⟨k, rfl, hk, hok, hbl⟩ := hrel
    obtain ⟨wo, rfl⟩ : ∃ wo : World, wo = wr := ⟨_, rfl⟩
    have hbw := hd (hb2.out.next hbl.out)
    by_cases hlt : k < ps.length
    · have hltI : (k : Int) < (ps.length : Int) := by omega
      have hkr : k < rowsT.length := by omega
      obtain ⟨b1, rfl, hb1, hc1⟩ := hST.at (j := k) hkr
      obtain ⟨ak, ck, rowsk, hrk, _⟩ := (hgT.out k hlt hkr).open
      have hck := hc1 k hkr
      rw [hrk] at hck
      have hstep := hd (fun (e : (!ps[k].must || vs.any (fun x => x.no == ps[k].no)) = true) => (show ∀ i (h : i < ps.length), i < k + 1 → (!ps[i].must || vs.any (fun x => x.no == ps[i].no)) = true from fun i h1 h2 => by
        by_cases e2 : i = k
        · subst e2; exact e
        · exact hok.out i h1 (by omega)))
      have hbad := hd (fun (e : (!ps[k].must || vs.any (fun x => x.no == ps[k].no)) = false) => (show z = false by rw [hz.out]; exact all_no hlt e))
      have d0 := keepCell hbw.out (show w.cell? ⟨b1, k * 6, none⟩ = _ from hck 0 _ rfl)
      have d1 := keepCell hbw.out (hck 1 _ rfl)
      have d2 := keepCell hbw.out (hck 2 _ rfl)
      have d3 := keepCell hbw.out (hck 3 _ rfl)
      have d4 := keepCell hbw.out (hck 4 _ rfl)
      have d5 := keepCell hbw.out (hck 5 _ rfl)
      clear hc1 hrk hck
      generalize ps[k] = p at *
      have hX := hd (BoxN.new wo [.int .i64 p.of, .string p.name, .int .i64 p.no, .bool p.must, .int .i64 p.most, .slice ak p.parts.length ck] 74)
      have hbl2 := hd (hbl.out.next (below_a1 wo (a := .cells #[.int .i64 p.of, .string p.name, .int .i64 p.no, .bool p.must, .int .i64 p.most, .slice ak p.parts.length ck] 74)))
      have hbw2 := hd (hbw.out.next (below_a1 wo (a := .cells #[.int .i64 p.of, .string p.name, .int .i64 p.no, .bool p.must, .int .i64 p.most, .slice ak p.parts.length ck] 74)))
      have hX : Hd (BoxN (wo.alloc (.cells #[.int .i64 p.of, .string p.name, .int .i64 p.no, .bool p.must, .int .i64 p.most, .slice ak p.parts.length ck] 74)) wo.heap.size [.int .i64 p.of, .string p.name, .int .i64 p.no, .bool p.must, .int .i64 p.most, .slice ak p.parts.length ck]) := hX
      go_upto_region 4 with (fail)
      generalize wo.alloc (.cells #[.int .i64 p.of, .string p.name, .int .i64 p.no, .bool p.must, .int .i64 p.most, .slice ak p.parts.length ck] 74) = W4 at *
      clear d0 d1 d2 d3 d4 d5
      have p3 := hX.out.1 3 _ rfl
      have qv := keepCell hbl2.out qV.out
      go_wp2_with fail
      clear p3 qv
      generalize hpm : p.must = pm at *
      generalize hpn : p.no = pn at *
      replace hpm := hd hpm
      replace hpn := hd hpn
      go_loopw [7, 23] (fun f m wq => ∃ (j : Nat) (fb : Bool), f = .bool fb ∧ m = .int .i64 j ∧ j ≤ vs.length ∧ Hd ((!pm || vs.any (fun x => x.no == pn)) = (fb || (vs.drop j).any (fun x => x.no == pn))) ∧ Hd (Below W4.heap.size W4 wq)) (fun _ m _ => vs.length - (intOf m).toNat)
      case atStart => exact ⟨0, !pm, rfl, rfl, Nat.zero_le _, by rw [Hd, List.drop_zero], Below.refl _ _⟩
      case round =>
        obtain ⟨j, fb, rfl, rfl, hj, hrel2, hbl3⟩ := hrel
        obtain ⟨wp, rfl⟩ : ∃ wp : World, wp = wr := ⟨_, rfl⟩
        have hbw3 := hd (hbw2.out.next hbl3.out)
        have hX3 := hd (hX.out.below hbl3.out)
        by_cases hlj : j < vs.length
        · have hljI : (j : Int) < (vs.length : Int) := by omega
          have hjr : j < rowsV.length := by omega
          obtain ⟨b4, rfl, hb4, hc4⟩ := hSV.at (j := j) hjr
          obtain ⟨a4, c4, rows4, hr4, _⟩ := (hgV.out j hlj hjr).openV
          have hck := hc4 j hjr
          rw [hr4] at hck
          have e0 := keepCell hbw3.out (show w.cell? ⟨b4, j * 5, none⟩ = _ from hck 0 _ rfl)
          have e1 := keepCell hbw3.out (hck 1 _ rfl)
          have e2 := keepCell hbw3.out (hck 2 _ rfl)
          have e3 := keepCell hbw3.out (hck 3 _ rfl)
          have e4 := keepCell hbw3.out (hck 4 _ rfl)
          have hdr := hd (show (vs.drop j).any (fun x => x.no == pn) = ((vs[j].no == pn) || (vs.drop (j + 1)).any (fun x => x.no == pn)) by rw [List.drop_eq_getElem_cons hlj, List.any_cons])
          clear hc4 hr4 hck
          generalize vs[j] = x at *
          have hY := hd (BoxN.new wp [.int .i64 x.most, .string x.name, .int .i64 x.no, .bool x.must, .slice a4 x.parts.length c4] 93)
          have hbl4 := hd (hbl3.out.next (below_a1 wp (a := .cells #[.int .i64 x.most, .string x.name, .int .i64 x.no, .bool x.must, .slice a4 x.parts.length c4] 93)))
          have hX4 := hd (hX3.out.below (below_a1 wp (a := .cells #[.int .i64 x.most, .string x.name, .int .i64 x.no, .bool x.must, .slice a4 x.parts.length c4] 93)))
          have hY : Hd (BoxN (wp.alloc (.cells #[.int .i64 x.most, .string x.name, .int .i64 x.no, .bool x.must, .slice a4 x.parts.length c4] 93)) wp.heap.size [.int .i64 x.most, .string x.name, .int .i64 x.no, .bool x.must, .slice a4 x.parts.length c4]) := hY
          go_upto_region 8 with (fail)
          generalize wp.alloc (.cells #[.int .i64 x.most, .string x.name, .int .i64 x.no, .bool x.must, .slice a4 x.parts.length c4] 93) = W5 at *
          clear e0 e1 e2 e3 e4
          have y2 := hY.out.1 2 _ rfl
          have z2 := hX4.out.1 2 _ rfl
          cases fb with
          | true =>
            have hn := hd (show (!pm || vs.any (fun x => x.no == pn)) = (true || (vs.drop (j + 1)).any (fun x => x.no == pn)) by rw [hrel2.out]; rfl)
            go_wp2_with fail
            go_roundw
            case rel => exact ⟨j + 1, true, rfl, by go_num, by omega, hn, hbl4⟩
            case measure => simp [intOf]; omega
          | false =>
            cases heb : (x.no == pn) with
            | true =>
              have hn := hd (show (!pm || vs.any (fun x => x.no == pn)) = (true || (vs.drop (j + 1)).any (fun x => x.no == pn)) by rw [hrel2.out, hdr.out, heb]; rfl)
              go_wp2_with fail
              go_roundw
              case rel => exact ⟨j + 1, true, rfl, by go_num, by omega, hn, hbl4⟩
              case measure => simp [intOf]; omega
            | false =>
              have hn := hd (show (!pm || vs.any (fun x => x.no == pn)) = (false || (vs.drop (j + 1)).any (fun x => x.no == pn)) by rw [hrel2.out, hdr.out, heb]; rfl)
              go_wp2_with fail
              go_roundw
              case rel => exact ⟨j + 1, false, rfl, by go_num, by omega, hn, hbl4⟩
              case measure => simp [intOf]; omega
        · obtain rfl : j = vs.length := by omega
          have hljI : ¬ (vs.length : Int) < (vs.length : Int) := by omega
          have hr2 := hd (show (!pm || vs.any (fun x => x.no == pn)) = fb by rw [hrel2.out]; simp)
          have hbl5 := hd (hbl2.out.next hbl3.out)
          have hbw5 := hd (hbw2.out.next hbl3.out)
          cases fb with
          | true =>
            have hn := hd (hstep.out hr2.out)
            go_wp2_with fail
            go_roundw
            case rel => exact ⟨k + 1, by go_num, by omega, hn, hbl5⟩
            case measure => simp [intOf]; omega
          | false =>
            have hrf := hd (hbad.out hr2.out)
            go_wp2_with fail
            go_ret
            exact ⟨by rw [hrf.out]; rfl, hbw5.out⟩
    · obtain rfl : k = ps.length := by omega
      have hltI : ¬ (ps.length : Int) < (ps.length : Int) := by omega
      have hrt := hd (show z = true by rw [hz.out]; exact all_yes (fun i hi => hok.out i hi hi))
      go_wp2_with fail
      go_ret
      exact ⟨by rw [hrt.out]; rfl, hbw.out⟩
end Go.Proofs.Ytobahkjbadamhaa

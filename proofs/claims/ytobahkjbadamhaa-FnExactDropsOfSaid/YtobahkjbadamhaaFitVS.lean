/- Whether all that must be is there: l4Musts of the reference (with FitV, FitSS). -/
import Derived.Test.YtobahkjbadamhaaFlatDef
import Derived.Test.YtobahkjbadamhaaFitMM
import Derived.Test.YtobahkjbadamhaaSubS
import Derived.Test.YtobahkjbadamhaaTreeN
import Derived.BigQuiet
import Derived.Deep.RegionHeld3
/- Whether all that must be is there: l4Musts of the reference. -/
namespace Go.Proofs.Ytobahkjbadamhaa
open Go.RowKit
set_option linter.unusedVariables false
set_option maxRecDepth 100000
theorem all_no {α : Type} {f : α → Bool} {l : List α} {k : Nat} (hk : k < l.length) (h : f l[k] = false) : l.all f = false := by
  rw [List.all_eq_false]; exact ⟨l[k], List.getElem_mem hk, by rw [h]; simp⟩
theorem all_yes {α : Type} {f : α → Bool} {l : List α} (h : ∀ k (hk : k < l.length), f l[k] = true) : l.all f = true := by
  rw [List.all_eq_true]; intro x hx; obtain ⟨k, hk, rfl⟩ := List.getElem_of_mem hx; exact h k hk
set_option maxHeartbeats 6400000 in
theorem musts_s (v t : K) (aV : Option Addr) (cV : Nat) (rowsV : List (List Value)) (aT : Option Addr) (cT : Nat) (rowsT : List (List Value)) (vm vo : Int) (vt : ByteArray) (vb : Bool) (w : World) (lv hv lo hi : Nat) (hhv : hv ≤ w.heap.size) (hh : hi ≤ w.heap.size) (hlv : v.parts.length ≤ 1000000) (hlt : t.parts.length ≤ 1000000)
    (hSV : XSl 5 w lv hv (.slice aV v.parts.length cV) rowsV) (hlV : rowsV.length = v.parts.length) (hgV : ∀ j (h : j < v.parts.length) (h' : j < rowsV.length), RepX HV 5 w lv hv v.parts[j] rowsV[j])
    (hST : RSl w lo hi (.slice aT t.parts.length cT) rowsT) (hlT : rowsT.length = t.parts.length) (hgT : ∀ j (h : j < t.parts.length) (h' : j < rowsT.length), RepT w lo hi t.parts[j] rowsT[j]) :
    Calls Try.prog 110 #[.agg #[.int .i64 vm, .string vt, .int .i64 vo, .bool vb, .slice aV v.parts.length cV], .agg #[.int .i64 t.of, .string t.name, .int .i64 t.no, .bool t.must, .int .i64 t.most, .slice aT t.parts.length cT]] w (BoolPost (mustsB t.parts v.parts) w) := by
  replace hgV := hd hgV
  replace hgT := hd hgT
  generalize hps : t.parts = ps at *
  generalize hvs : v.parts = vs at *
  clear hps hvs
  have hz := hd (show mustsB ps vs = ps.all (fun y => !y.must || vs.any (fun x => x.no == y.no)) from rfl)
  generalize mustsB ps vs = z at *
  generalize t.of = o at *
  generalize t.name = nm at *
  generalize t.no = nn at *
  generalize t.must = mu at *
  generalize t.most = mo at *
  have hb2 := hd (below_a2 w (a := .cells #[.int .i64 vm, .string vt, .int .i64 vo, .bool vb, .slice aV vs.length cV] 93) (b := .cells #[.int .i64 o, .string nm, .int .i64 nn, .bool mu, .int .i64 mo, .slice aT ps.length cT] 74))
  have qV := hd (show ((w.alloc (.cells #[.int .i64 vm, .string vt, .int .i64 vo, .bool vb, .slice aV vs.length cV] 93)).alloc (.cells #[.int .i64 o, .string nm, .int .i64 nn, .bool mu, .int .i64 mo, .slice aT ps.length cT] 74)).cell? ⟨w.heap.size, 4, none⟩ = some (.slice aV vs.length cV) by go_simp)
  have qT := hd (show ((w.alloc (.cells #[.int .i64 vm, .string vt, .int .i64 vo, .bool vb, .slice aV vs.length cV] 93)).alloc (.cells #[.int .i64 o, .string nm, .int .i64 nn, .bool mu, .int .i64 mo, .slice aT ps.length cT] 74)).cell? ⟨w.heap.size + 1, 5, none⟩ = some (.slice aT ps.length cT) by go_simp)
  go_enter Try.func110, Try.ntmps110
  go_upto_region 1 with (fail)
  generalize (w.alloc (.cells #[.int .i64 vm, .string vt, .int .i64 vo, .bool vb, .slice aV vs.length cV] 93)).alloc (.cells #[.int .i64 o, .string nm, .int .i64 nn, .bool mu, .int .i64 mo, .slice aT ps.length cT] 74) = W at *
  have qT0 := qT.out
  go_wp2_with fail
  clear qT0
  go_loopw [13] (fun n wr => ∃ k : Nat, n = .int .i64 k ∧ k ≤ ps.length ∧ Hd (∀ i (h : i < ps.length), i < k → (!ps[i].must || vs.any (fun x => x.no == ps[i].no)) = true) ∧ Hd (Below W.heap.size W wr)) (fun n _ => ps.length - (intOf n).toNat)
  case atStart => exact ⟨0, rfl, Nat.zero_le _, fun i _ h => by omega, Below.refl _ _⟩
  case round =>
    obtain ⟨k, rfl, hk, hok, hbl⟩ := hrel
    obtain ⟨wo, rfl⟩ : ∃ wo : World, wo = wr := ⟨_, rfl⟩
    have hbw := hd (hb2.out.next hbl.out)
    by_cases hlt : k < ps.length
    · have hltI : (k : Int) < (ps.length : Int) := by omega
      have hkr : k < rowsT.length := by omega
      obtain ⟨b1, rfl, hb1, hc1⟩ := hST.at (j := k) hkr
      obtain ⟨ak, ck, rowsk, hrk, _⟩ := (hgT.out k hlt hkr).open
      have hck := hc1 k hkr
      rw [hrk] at hck
      have hstep := hd (fun (e : (!ps[k].must || vs.any (fun x => x.no == ps[k].no)) = true) => (show ∀ i (h : i < ps.length), i < k + 1 → (!ps[i].must || vs.any (fun x => x.no == ps[i].no)) = true from fun i h1 h2 => by
        by_cases e2 : i = k
        · subst e2; exact e
        · exact hok.out i h1 (by omega)))
      have hbad := hd (fun (e : (!ps[k].must || vs.any (fun x => x.no == ps[k].no)) = false) => (show z = false by rw [hz.out]; exact all_no hlt e))
      have d0 := keepCell hbw.out (show w.cell? ⟨b1, k * 6, none⟩ = _ from hck 0 _ rfl)
      have d1 := keepCell hbw.out (hck 1 _ rfl)
      have d2 := keepCell hbw.out (hck 2 _ rfl)
      have d3 := keepCell hbw.out (hck 3 _ rfl)
      have d4 := keepCell hbw.out (hck 4 _ rfl)
      have d5 := keepCell hbw.out (hck 5 _ rfl)
      clear hc1 hrk hck
      generalize ps[k] = p at *
      have hX := hd (BoxN.new wo [.int .i64 p.of, .string p.name, .int .i64 p.no, .bool p.must, .int .i64 p.most, .slice ak p.parts.length ck] 74)
      have hbl2 := hd (hbl.out.next (below_a1 wo (a := .cells #[.int .i64 p.of, .string p.name, .int .i64 p.no, .bool p.must, .int .i64 p.most, .slice ak p.parts.length ck] 74)))
      have hbw2 := hd (hbw.out.next (below_a1 wo (a := .cells #[.int .i64 p.of, .string p.name, .int .i64 p.no, .bool p.must, .int .i64 p.most, .slice ak p.parts.length ck] 74)))
      have hX : Hd (BoxN (wo.alloc (.cells #[.int .i64 p.of, .string p.name, .int .i64 p.no, .bool p.must, .int .i64 p.most, .slice ak p.parts.length ck] 74)) wo.heap.size [.int .i64 p.of, .string p.name, .int .i64 p.no, .bool p.must, .int .i64 p.most, .slice ak p.parts.length ck]) := hX
      go_upto_region 4 with (fail)
      generalize wo.alloc (.cells #[.int .i64 p.of, .string p.name, .int .i64 p.no, .bool p.must, .int .i64 p.most, .slice ak p.parts.length ck] 74) = W4 at *
      clear d0 d1 d2 d3 d4 d5
      have p3 := hX.out.1 3 _ rfl
      have qv := keepCell hbl2.out qV.out
      go_wp2_with fail
      clear p3 qv
      generalize hpm : p.must = pm at *
      generalize hpn : p.no = pn at *
      replace hpm := hd hpm
      replace hpn := hd hpn
      go_loopw [7, 23] (fun f m wq => ∃ (j : Nat) (fb : Bool), f = .bool fb ∧ m = .int .i64 j ∧ j ≤ vs.length ∧ Hd ((!pm || vs.any (fun x => x.no == pn)) = (fb || (vs.drop j).any (fun x => x.no == pn))) ∧ Hd (Below W4.heap.size W4 wq)) (fun _ m _ => vs.length - (intOf m).toNat)
      case atStart => exact ⟨0, !pm, rfl, rfl, Nat.zero_le _, by rw [Hd, List.drop_zero], Below.refl _ _⟩
      case round =>
        obtain ⟨j, fb, rfl, rfl, hj, hrel2, hbl3⟩ := hrel
        obtain ⟨wp, rfl⟩ : ∃ wp : World, wp = wr := ⟨_, rfl⟩
        have hbw3 := hd (hbw2.out.next hbl3.out)
        have hX3 := hd (hX.out.below hbl3.out)
        by_cases hlj : j < vs.length
        · have hljI : (j : Int) < (vs.length : Int) := by omega
          have hjr : j < rowsV.length := by omega
          obtain ⟨b4, rfl, hb4, hc4⟩ := hSV.at (j := j) hjr
          obtain ⟨a4, c4, rows4, hr4, _⟩ := (hgV.out j hlj hjr).openV
          have hck := hc4 j hjr
          rw [hr4] at hck
          have e0 := keepCell hbw3.out (show w.cell? ⟨b4, j * 5, none⟩ = _ from hck 0 _ rfl)
          have e1 := keepCell hbw3.out (hck 1 _ rfl)
          have e2 := keepCell hbw3.out (hck 2 _ rfl)
          have e3 := keepCell hbw3.out (hck 3 _ rfl)
          have e4 := keepCell hbw3.out (hck 4 _ rfl)
          have hdr := hd (show (vs.drop j).any (fun x => x.no == pn) = ((vs[j].no == pn) || (vs.drop (j + 1)).any (fun x => x.no == pn)) by rw [List.drop_eq_getElem_cons hlj, List.any_cons])
          clear hc4 hr4 hck
          generalize vs[j] = x at *
          have hY := hd (BoxN.new wp [.int .i64 x.most, .string x.name, .int .i64 x.no, .bool x.must, .slice a4 x.parts.length c4] 93)
          have hbl4 := hd (hbl3.out.next (below_a1 wp (a := .cells #[.int .i64 x.most, .string x.name, .int .i64 x.no, .bool x.must, .slice a4 x.parts.length c4] 93)))
          have hX4 := hd (hX3.out.below (below_a1 wp (a := .cells #[.int .i64 x.most, .string x.name, .int .i64 x.no, .bool x.must, .slice a4 x.parts.length c4] 93)))
          have hY : Hd (BoxN (wp.alloc (.cells #[.int .i64 x.most, .string x.name, .int .i64 x.no, .bool x.must, .slice a4 x.parts.length c4] 93)) wp.heap.size [.int .i64 x.most, .string x.name, .int .i64 x.no, .bool x.must, .slice a4 x.parts.length c4]) := hY
          go_upto_region 8 with (fail)
          generalize wp.alloc (.cells #[.int .i64 x.most, .string x.name, .int .i64 x.no, .bool x.must, .slice a4 x.parts.length c4] 93) = W5 at *
          clear e0 e1 e2 e3 e4
          have y2 := hY.out.1 2 _ rfl
          have z2 := hX4.out.1 2 _ rfl
          cases fb with
          | true =>
            have hn := hd (show (!pm || vs.any (fun x => x.no == pn)) = (true || (vs.drop (j + 1)).any (fun x => x.no == pn)) by rw [hrel2.out]; rfl)
            go_wp2_with fail
            go_roundw
            case rel => exact ⟨j + 1, true, rfl, by go_num, by omega, hn, hbl4⟩
            case measure => simp [intOf]; omega
          | false =>
            cases heb : (x.no == pn) with
            | true =>
              have hn := hd (show (!pm || vs.any (fun x => x.no == pn)) = (true || (vs.drop (j + 1)).any (fun x => x.no == pn)) by rw [hrel2.out, hdr.out, heb]; rfl)
              go_wp2_with fail
              go_roundw
              case rel => exact ⟨j + 1, true, rfl, by go_num, by omega, hn, hbl4⟩
              case measure => simp [intOf]; omega
            | false =>
              have hn := hd (show (!pm || vs.any (fun x => x.no == pn)) = (false || (vs.drop (j + 1)).any (fun x => x.no == pn)) by rw [hrel2.out, hdr.out, heb]; rfl)
              go_wp2_with fail
              go_roundw
              case rel => exact ⟨j + 1, false, rfl, by go_num, by omega, hn, hbl4⟩
              case measure => simp [intOf]; omega
        · obtain rfl : j = vs.length := by omega
          have hljI : ¬ (vs.length : Int) < (vs.length : Int) := by omega
          have hr2 := hd (show (!pm || vs.any (fun x => x.no == pn)) = fb by rw [hrel2.out]; simp)
          have hbl5 := hd (hbl2.out.next hbl3.out)
          have hbw5 := hd (hbw2.out.next hbl3.out)
          cases fb with
          | true =>
            have hn := hd (hstep.out hr2.out)
            go_wp2_with fail
            go_roundw
            case rel => exact ⟨k + 1, by go_num, by omega, hn, hbl5⟩
            case measure => simp [intOf]; omega
          | false =>
            have hrf := hd (hbad.out hr2.out)
            go_wp2_with fail
            go_ret
            exact ⟨by rw [hrf.out]; rfl, hbw5.out⟩
    · obtain rfl : k = ps.length := by omega
      have hltI : ¬ (ps.length : Int) < (ps.length : Int) := by omega
      have hrt := hd (show z = true by rw [hz.out]; exact all_yes (fun i hi => hok.out i hi hi))
      go_wp2_with fail
      go_ret
      exact ⟨by rw [hrt.out]; rfl, hbw.out⟩
end Go.Proofs.Ytobahkjbadamhaa
/- Whether a value's tree fits a type: l4Fits of the reference. -/
namespace Go.Proofs.Ytobahkjbadamhaa
open Go.RowKit
set_option linter.unusedVariables false
set_option maxRecDepth 100000
theorem merge_bool {ps vs : List K} (hp : risesK ps) (h1 : risesK vs) (h2 : foundP ps vs) : mergeB ps vs = mustsB ps vs := by
  rw [Bool.eq_iff_iff, merge_iff ps vs hp, musts_iff]
  exact ⟨fun h => h.2.2, fun h => ⟨h1, h2, h⟩⟩
def okV (ps vs : List K) (i : Nat) : Prop := ∀ h : i < vs.length, (∃ j, ∃ hf : firstP ps vs[i].no j, fitsB (ps[j]'hf.1) vs[i] = true) ∧ (0 < i → vs[i - 1].no < vs[i].no)
theorem okV_all {ps vs : List K} (h : ∀ i, i < vs.length → okV ps vs i) : risesK vs ∧ foundP ps vs := by
  refine ⟨rises_of (fun i hi => ((h (i + 1) hi) hi).2 (by omega)), fun v hv => ?_⟩
  obtain ⟨i, hi, rfl⟩ := List.getElem_of_mem hv
  obtain ⟨j, hf, hfit⟩ := ((h i hi) hi).1
  exact ⟨_, List.getElem_mem hf.1, hf.2.1, hfit⟩
theorem okV_bad {ps vs : List K} {i : Nat} (hp : risesK ps) (h : ¬ okV ps vs i) : mergeB ps vs = false := by
  rw [← Bool.not_eq_true, merge_iff ps vs hp]
  rintro ⟨h1, h2, _⟩
  refine h (fun hi => ⟨found_at h2 hp (List.getElem_mem hi), fun h0 => ?_⟩)
  have := h1.at (i := i - 1) (by omega)
  simpa [show i - 1 + 1 = i by omega] using this
set_option maxHeartbeats 12800000 in
theorem fitV_s (t : K) : ∀ (v : K) (rV rT : List Value) (w : World) (lv hv lo hi : Nat), hv ≤ w.heap.size → hi ≤ w.heap.size → countK v ≤ 1000000 → countK t ≤ 1000000 → nmOK v → rightK t → RepX HV 5 w lv hv v rV → RepT w lo hi t rT →
    Calls Try.prog 73 #[.agg rV.toArray, .agg rT.toArray] w (BoolPost (fitsB t v) w) := by
  refine K.ind2 (P := fun t => ∀ (v : K) (rV rT : List Value) (w : World) (lv hv lo hi : Nat), hv ≤ w.heap.size → hi ≤ w.heap.size → countK v ≤ 1000000 → countK t ≤ 1000000 → nmOK v → rightK t → RepX HV 5 w lv hv v rV → RepT w lo hi t rT →
    Calls Try.prog 73 #[.agg rV.toArray, .agg rT.toArray] w (BoolPost (fitsB t v) w)) ?_ t
  intro t ih v rV rT w lv hv lo hi hhv hh hcv hct hnm hrt hV hT
  replace ih := hd ih
  obtain ⟨aV, cV, rwV, rfl, hSV, hlV, hgV⟩ := hV.openV
  obtain ⟨aT, cT, rwT, rfl, hST, hlT, hgT⟩ := hT.open
  have hz0 := fitsB_eq t v
  rw [leafB] at hz0
  have hz := hd hz0
  clear hz0
  have hpv := hd (fun p (hp : p ∈ v.parts) => (show countK p ≤ 1000000 ∧ nmOK p from ⟨by have h1 := count_part hp; have h2 := countK_eq v; omega, hnm.part hp⟩))
  have hpt := hd (fun p (hp : p ∈ t.parts) => (show countK p ≤ 1000000 ∧ rightK p from ⟨by have h1 := count_part hp; have h2 := countK_eq t; omega, right_part hrt hp⟩))
  have hlv : v.parts.length ≤ 1000000 := by have h1 := len_count v.parts; have h2 := countK_eq v; omega
  have hlt : t.parts.length ≤ 1000000 := by have h1 := len_count t.parts; have h2 := countK_eq t; omega
  have hone := hd (fun h => right_one hrt h)
  have hris := hd (fun h => right_rises hrt h)
  have hkinds := right_holds hrt
  have hnm0 := hnm.self
  have cm := hd (fun w' (hb : Below w.heap.size w w') => musts_s v t aV cV rwV aT cT rwT v.most v.no v.name v.must w' lv hv lo hi (Nat.le_trans hhv hb.size) (Nat.le_trans hh hb.size) hlv hlt
    (hSV.same (Same.below hb hhv) (Nat.le_refl _) (Nat.le_refl _)) hlV (fun j h1 h2 => (hgV j h1 h2).below hhv hb) (hST.same (Same.below hb hh) (Nat.le_refl _) (Nat.le_refl _)) hlT (fun j h1 h2 => (hgT j h1 h2).below hh hb))
  have cb := hd (fun no w' (hb : Below w.heap.size w w') => by_s t no aT cT rwT w' lo hi (Nat.le_trans hh hb.size) hlt (hST.same (Same.below hb hh) (Nat.le_refl _) (Nat.le_refl _)) hlT (fun j h1 h2 => (hgT j h1 h2).below hh hb))
  replace hgV := hd hgV
  replace hgT := hd hgT
  clear hV hT hrt hcv hct hnm
  have ch := hd (holds_s t.of)
  have hX := hd (show BoxN ((w.alloc (.cells #[.int .i64 v.most, .string v.name, .int .i64 v.no, .bool v.must, .slice aV v.parts.length cV] 93)).alloc (.cells #[.int .i64 t.of, .string t.name, .int .i64 t.no, .bool t.must, .int .i64 t.most, .slice aT t.parts.length cT] 74)) w.heap.size [.int .i64 v.most, .string v.name, .int .i64 v.no, .bool v.must, .slice aV v.parts.length cV] from (BoxN.new w _ _).below (below_a1 _))
  have hY := hd (show BoxN ((w.alloc (.cells #[.int .i64 v.most, .string v.name, .int .i64 v.no, .bool v.must, .slice aV v.parts.length cV] 93)).alloc (.cells #[.int .i64 t.of, .string t.name, .int .i64 t.no, .bool t.must, .int .i64 t.most, .slice aT t.parts.length cT] 74)) (w.heap.size + 1) [.int .i64 t.of, .string t.name, .int .i64 t.no, .bool t.must, .int .i64 t.most, .slice aT t.parts.length cT] from by have := BoxN.new (w.alloc (.cells #[.int .i64 v.most, .string v.name, .int .i64 v.no, .bool v.must, .slice aV v.parts.length cV] 93)) [.int .i64 t.of, .string t.name, .int .i64 t.no, .bool t.must, .int .i64 t.most, .slice aT t.parts.length cT] 74; rwa [World.size_alloc] at this)
  have hbW := hd (below_a2 w (a := (.cells #[.int .i64 v.most, .string v.name, .int .i64 v.no, .bool v.must, .slice aV v.parts.length cV] 93)) (b := (.cells #[.int .i64 t.of, .string t.name, .int .i64 t.no, .bool t.must, .int .i64 t.most, .slice aT t.parts.length cT] 74)))
  obtain ⟨W, hW⟩ : ∃ W, W = (w.alloc (.cells #[.int .i64 v.most, .string v.name, .int .i64 v.no, .bool v.must, .slice aV v.parts.length cV] 93)).alloc (.cells #[.int .i64 t.of, .string t.name, .int .i64 t.no, .bool t.must, .int .i64 t.most, .slice aT t.parts.length cT] 74) := ⟨_, rfl⟩
  rw [← hW] at hX hY hbW
  replace hW := hd hW
  have x0 := hX.out.1 0 _ rfl
  have x1 := hX.out.1 1 _ rfl
  have x3 := hX.out.1 3 _ rfl
  have y0 := hY.out.1 0 _ rfl
  generalize hvm : v.must = vm at *
  generalize v.most = vn at *
  generalize v.name = vs0 at *
  generalize hto : t.of = o at *
  generalize t.most = tm at *
  generalize fitsB t v = z at *
  generalize hhb : holdsB o = hb at *
  by_cases hmm : vm = hb
  · subst hmm
    by_cases h2 : o = 2
    · have hv0 : vm = false := by rw [← hhb, h2]; rfl
      subst hv0
      cases hn0 : (vn != 0) with
      | true =>
        have hres := hd (show z = false by rw [hz.out, if_neg (by simp), if_pos h2]; simp_all)
        subst h2
        clear hz
        go_enter Try.func73, Try.ntmps73
        go_upto_region 1 with (fail)
        rw [← hW.out]
        clear hW
        go_wp2_with fail
        go_quiet ((go_at_call 106; exact Calls.quiet_of_same ((ch.out _).mono fun e w' h => ⟨h.1, h.2.symm⟩)))
        go_wp2_with fail
        go_ret
        exact ⟨by rw [hres.out]; rfl, below_drewN hbW.out _⟩
      | false =>
        have hres := hd (show z = decide (vs0.size ≤ 30) by rw [hz.out, if_neg (by simp), if_pos h2]; simp_all)
        subst h2
        clear hz
        have x1q := fun n => (show (W.drewN n).cell? ⟨w.heap.size, 1, none⟩ = some (.string vs0) from x1)
        have y0q := fun n => (show (W.drewN n).cell? ⟨w.heap.size + 1, 0, none⟩ = some (.int .i64 2) from y0)
        go_enter Try.func73, Try.ntmps73
        go_upto_region 1 with (fail)
        rw [← hW.out]
        clear hW
        go_wp2_with fail
        go_quiet ((go_at_call 106; exact Calls.quiet_of_same ((ch.out _).mono fun e w' h => ⟨h.1, h.2.symm⟩)))
        go_wp2_with fail
        go_ret
        exact ⟨by rw [hres.out]; simp; omega, below_drewN hbW.out _⟩
    · have h2b : (o != 2) = true := by simpa using h2
      have h2c : (o == 2) = false := by simpa using h2
      cases hte : vs0.toList.isEmpty with
      | false =>
        have hres := hd (show z = false by
          rw [hz.out]
          cases vm <;> simp_all)
        clear hz
        go_enter Try.func73, Try.ntmps73
        go_upto_region 1 with (fail)
        rw [← hW.out]
        clear hW
        go_wp2_with fail
        go_quiet ((go_at_call 106; exact Calls.quiet_of_same ((ch.out _).mono fun e w' h => ⟨h.1, h.2.symm⟩)))
        go_wp2_with fail
        go_ret
        exact ⟨by rw [hres.out]; rfl, below_drewN hbW.out _⟩
      | true =>
        cases vm with
        | false =>
          have y0q := fun n => (show (W.drewN n).cell? ⟨w.heap.size + 1, 0, none⟩ = some (.int .i64 o) from y0)
          have x0q := fun n => (show (W.drewN n).cell? ⟨w.heap.size, 0, none⟩ = some (.int .i64 vn) from x0)
          by_cases h3 : o = 3
          · subst h3
            have y4q := fun n => (show (W.drewN n).cell? ⟨w.heap.size + 1, 4, none⟩ = some (.int .i64 tm) from hY.out.1 4 _ rfl)
            have hres := hd (show z = decide (0 ≤ vn ∧ vn ≤ tm) by rw [hz.out]; simp [hte])
            have cw := hd (fun w => within_s vn 0 tm w z hres.out.symm)
            clear hz
            go_enter Try.func73, Try.ntmps73
            go_upto_region 1 with (fail)
            rw [← hW.out]
            clear hW
            go_wp2_with fail
            go_quiet ((go_at_call 106; exact Calls.quiet_of_same ((ch.out _).mono fun e w' h => ⟨h.1, h.2.symm⟩)))
            go_wp2_with fail
            refine (cw.out _).mono ?_
            rintro e w' ⟨rfl, rfl⟩
            go_wp2_with fail
            go_ret
            exact ⟨rfl, below_drewN hbW.out _⟩
          · have h1 : o = 1 := by
              rcases hkinds with e | e | e | e | e
              · exact e
              · exact absurd e h2
              · exact absurd e h3
              · rw [e] at hhb; cases hhb
              · rw [e] at hhb; cases hhb
            subst h1
            have hres := hd (show z = numB vn by rw [hz.out]; simp [hte])
            have cn := hd (fun w => number_s vn w)
            clear hz h2 h3
            go_enter Try.func73, Try.ntmps73
            go_upto_region 1 with (fail)
            rw [← hW.out]
            clear hW
            go_wp2_with fail
            go_quiet ((go_at_call 106; exact Calls.quiet_of_same ((ch.out _).mono fun e w' h => ⟨h.1, h.2.symm⟩)))
            go_wp2_with fail
            refine (cn.out _).mono ?_
            rintro e w' ⟨rfl, rfl⟩
            go_wp2_with fail
            go_ret
            exact ⟨by rw [hres.out]; rfl, below_drewN hbW.out _⟩
        | true =>
          cases hn0 : (vn != 0) with
          | true =>
            have hres := hd (show z = false by rw [hz.out]; simp at hn0; simp [hn0])
            clear hz
            go_enter Try.func73, Try.ntmps73
            go_upto_region 1 with (fail)
            rw [← hW.out]
            clear hW
            go_wp2_with fail
            go_quiet ((go_at_call 106; exact Calls.quiet_of_same ((ch.out _).mono fun e w' h => ⟨h.1, h.2.symm⟩)))
            go_wp2_with fail
            go_ret
            exact ⟨by rw [hres.out]; rfl, below_drewN hbW.out _⟩
          | false =>
            have hzz := hd (show z = if o = 4 then fitsH t.parts v.parts else mergeB t.parts v.parts by rw [hz.out]; simp at hn0; simp [hn0, hte])
            clear hz
            by_cases h4 : o = 4
            · subst h4
              obtain ⟨p, hp⟩ := hone.out rfl
              rw [if_pos rfl, hp, fitsH_one] at hzz
              replace hp := hd hp
              go_enter Try.func73, Try.ntmps73
              go_upto_region 1 with (fail)
              rw [← hW.out]
              clear hW
              go_wp2_with fail
              go_quiet ((go_at_call 106; exact Calls.quiet_of_same ((ch.out _).mono fun e w' h => ⟨h.1, h.2.symm⟩)))
              obtain ⟨wq, hwq⟩ : ∃ wq, wq = W.drewN nq := ⟨_, rfl⟩
              have hbq := hd (show Below w.heap.size w wq by rw [hwq]; exact below_drewN hbW.out nq)
              have hXq := hd (show BoxN wq w.heap.size _ by rw [hwq]; exact hX.out.below (below_drewN (Below.refl _ W) nq))
              have hYq := hd (show BoxN wq (w.heap.size + 1) _ by rw [hwq]; exact hY.out.below (below_drewN (Below.refl _ W) nq))
              rw [← hwq]
              clear hwq x0 x1 x3 y0 hX hY hbW
              have x4 := hXq.out.1 4 _ rfl
              have y0 := hYq.out.1 0 _ rfl
              go_wp2_with fail
              clear x4 y0
              go_loopw [66] (fun n wr => ∃ k : Nat, n = .int .i64 k ∧ k ≤ v.parts.length ∧ Hd (∀ i (h : i < v.parts.length), i < k → (v.parts[i].no == 0 && fitsB p v.parts[i]) = true) ∧ Hd (Below wq.heap.size wq wr)) (fun n _ => v.parts.length - (intOf n).toNat)
              case atStart => exact ⟨0, rfl, Nat.zero_le _, fun i _ h => by omega, Below.refl _ _⟩
              case round =>
                obtain ⟨k, rfl, hk, hok, hbl⟩ := hrel
                obtain ⟨wo, rfl⟩ : ∃ wo : World, wo = wr := ⟨_, rfl⟩
                have hbw := hd (hbq.out.next hbl.out)
                by_cases hlt : k < v.parts.length
                · have hltI : (k : Int) < (v.parts.length : Int) := by omega
                  have hkr : k < rwV.length := by omega
                  obtain ⟨b4, rfl, hb4, hc4⟩ := hSV.at (j := k) hkr
                  have rx := hgV.out k hlt hkr
                  obtain ⟨a4, c4, rows4, hr4, _⟩ := rx.openV
                  have hck := hc4 k hkr
                  rw [hr4] at hck rx
                  have hpl0 : 0 < t.parts.length := by rw [hp.out]; simp
                  have hpr0 : 0 < rwT.length := by omega
                  obtain ⟨bT, rfl, hbT, hcT⟩ := hST.at (j := 0) hpr0
                  have rp := hgT.out 0 hpl0 hpr0
                  have hp0 : t.parts[0] = p := by simp [hp.out]
                  rw [hp0] at rp
                  obtain ⟨a6, c6, rows6, hr6, _⟩ := rp.open
                  have hcp := hcT 0 hpr0
                  rw [hr6] at hcp rp
                  have hpm : p ∈ t.parts := by rw [hp.out]; simp
                  have hpp := hpt.out p hpm
                  have hxx := hpv.out v.parts[k] (List.getElem_mem hlt)
                  have hplI : (0 : Int) < (t.parts.length : Int) := by omega
                  have hstep := hd (fun (g : (v.parts[k].no == 0 && fitsB p v.parts[k]) = true) => (show ∀ i (h : i < v.parts.length), i < k + 1 → (v.parts[i].no == 0 && fitsB p v.parts[i]) = true from fun i h1 h2 => by
                    by_cases e : i = k
                    · subst e; exact g
                    · exact hok.out i h1 (by omega)))
                  have hbad := hd (fun (g : (v.parts[k].no == 0 && fitsB p v.parts[k]) = false) => (show z = false by rw [hzz.out]; exact all_no (f := fun v => (v.no == 0) && fitsB p v) hlt g))
                  have cf := hd (fun w' (hb : Below w.heap.size w w') => ih.out p hpm v.parts[k] _ _ w' lv hv lo hi (Nat.le_trans hhv hb.size) (Nat.le_trans hh hb.size) hxx.1 hpp.1 hxx.2 hpp.2 (rx.below hhv hb) (rp.below hh hb))
                  generalize fitsB p v.parts[k] = z1 at *
                  have e0 := keepCell hbw.out (show w.cell? ⟨b4, k * 5, none⟩ = _ from hck 0 _ rfl)
                  have e1 := keepCell hbw.out (hck 1 _ rfl)
                  have e2 := keepCell hbw.out (hck 2 _ rfl)
                  have e3 := keepCell hbw.out (hck 3 _ rfl)
                  have e4 := keepCell hbw.out (hck 4 _ rfl)
                  clear hxx hr4 hck rx hc4
                  generalize v.parts[k] = x at *
                  have hX4 := hd (show BoxN (wo.alloc (.cells #[.int .i64 x.most, .string x.name, .int .i64 x.no, .bool x.must, .slice a4 x.parts.length c4] 93)) wo.heap.size [.int .i64 x.most, .string x.name, .int .i64 x.no, .bool x.must, .slice a4 x.parts.length c4] from BoxN.new wo [.int .i64 x.most, .string x.name, .int .i64 x.no, .bool x.must, .slice a4 x.parts.length c4] _)
                  have hbl4 := hd (hbl.out.next (below_a1 wo (a := .cells #[.int .i64 x.most, .string x.name, .int .i64 x.no, .bool x.must, .slice a4 x.parts.length c4] 93)))
                  have hbw4 := hd (hbw.out.next (below_a1 wo (a := .cells #[.int .i64 x.most, .string x.name, .int .i64 x.no, .bool x.must, .slice a4 x.parts.length c4] 93)))
                  go_upto_region 14 with (fail)
                  generalize wo.alloc (.cells #[.int .i64 x.most, .string x.name, .int .i64 x.no, .bool x.must, .slice a4 x.parts.length c4] 93) = W4 at *
                  clear e0 e1 e2 e3 e4
                  have hY4 := hd (hYq.out.below hbl4.out)
                  have y5 := hY4.out.1 5 _ rfl
                  have p0 := keepCell hbw4.out (show w.cell? ⟨bT, 0, none⟩ = _ from hcp 0 _ rfl)
                  have p1 := keepCell hbw4.out (show w.cell? ⟨bT, 1, none⟩ = _ from hcp 1 _ rfl)
                  have p2 := keepCell hbw4.out (show w.cell? ⟨bT, 2, none⟩ = _ from hcp 2 _ rfl)
                  have p3 := keepCell hbw4.out (show w.cell? ⟨bT, 3, none⟩ = _ from hcp 3 _ rfl)
                  have p4 := keepCell hbw4.out (show w.cell? ⟨bT, 4, none⟩ = _ from hcp 4 _ rfl)
                  have p5 := keepCell hbw4.out (show w.cell? ⟨bT, 5, none⟩ = _ from hcp 5 _ rfl)
                  have u0 := hX4.out.1 0 _ rfl; have u1 := hX4.out.1 1 _ rfl; have u2 := hX4.out.1 2 _ rfl; have u3 := hX4.out.1 3 _ rfl; have u4 := hX4.out.1 4 _ rfl
                  clear hcT hcp hr6 rp
                  cases hxn : (x.no != 0) with
                  | true =>
                    have hres := hd (hbad.out (by simp at hxn; simp [hxn]))
                    go_wp2_with fail
                    go_quiet (fail)
                    go_wp2_with fail
                    go_ret
                    exact ⟨by rw [hres.out]; rfl, below_drewN hbw4.out _⟩
                  | false =>
                    cases z1 with
                    | true =>
                      have hnx := hd (hstep.out (by simp at hxn; simp [hxn]))
                      go_region_law ((go_simp; go_at_call 73; refine (cf.out _ (by first | exact hbw4.out | exact hbw4.out.drew)).mono ?_; rintro e' w5 ⟨rfl, hb5⟩; have hb5 := hd (show Below W4.heap.size W4 w5 from by first | exact hb5 | exact (Below.refl _ W4).drew.next hb5)))
                      all_goals
                        have hbl5 := hd (hbl4.out.next hb5.out)
                        go_wp2_with fail
                        go_roundw
                        case rel => exact ⟨k + 1, by go_num, by omega, hnx, hbl5⟩
                        case measure => simp [intOf]; omega
                    | false =>
                      have hres := hd (hbad.out (by simp))
                      go_region_law ((go_simp; go_at_call 73; refine (cf.out _ (by first | exact hbw4.out | exact hbw4.out.drew)).mono ?_; rintro e' w5 ⟨rfl, hb5⟩; have hb5 := hd (show Below W4.heap.size W4 w5 from by first | exact hb5 | exact (Below.refl _ W4).drew.next hb5)))
                      all_goals
                        have hbw5 := hd (hbw4.out.next hb5.out)
                        go_wp2_with fail
                        go_ret
                        exact ⟨by rw [hres.out]; rfl, hbw5.out⟩
                · obtain rfl : k = v.parts.length := by omega
                  have hltI : ¬ (v.parts.length : Int) < (v.parts.length : Int) := by omega
                  have hres := hd (show z = true by rw [hzz.out]; exact all_yes (f := fun v => (v.no == 0) && fitsB p v) (fun i hi => hok.out i hi hi))
                  go_wp2_with fail
                  go_ret
                  exact ⟨by rw [hres.out]; rfl, hbw.out⟩
            · have h5 : o = 5 := by
                rcases hkinds with e | e | e | e | e
                · rw [e] at hhb; cases hhb
                · exact absurd e h2
                · rw [e] at hhb; cases hhb
                · exact absurd e h4
                · exact e
              subst h5
              rw [if_neg h4] at hzz
              have hps5 := hd (hris.out rfl)
              have hbad := hd (fun i (h : ¬ okV t.parts v.parts i) => (show z = false by rw [hzz.out]; exact okV_bad hps5.out h))
              have hend := hd (fun (h : ∀ i, i < v.parts.length → okV t.parts v.parts i) => (show z = mustsB t.parts v.parts by rw [hzz.out]; obtain ⟨g1, g2⟩ := okV_all h; exact merge_bool hps5.out g1 g2))
              go_enter Try.func73, Try.ntmps73
              go_upto_region 1 with (fail)
              rw [← hW.out]
              clear hW
              go_wp2_with fail
              go_quiet ((go_at_call 106; exact Calls.quiet_of_same ((ch.out _).mono fun e w' h => ⟨h.1, h.2.symm⟩)))
              obtain ⟨wq, hwq⟩ : ∃ wq, wq = W.drewN nq := ⟨_, rfl⟩
              have hbq := hd (show Below w.heap.size w wq by rw [hwq]; exact below_drewN hbW.out nq)
              have hXq := hd (show BoxN wq w.heap.size _ by rw [hwq]; exact hX.out.below (below_drewN (Below.refl _ W) nq))
              have hYq := hd (show BoxN wq (w.heap.size + 1) _ by rw [hwq]; exact hY.out.below (below_drewN (Below.refl _ W) nq))
              rw [← hwq]
              clear hwq x0 x1 x3 y0 hX hY hbW
              have x4 := hXq.out.1 4 _ rfl
              have y0 := hYq.out.1 0 _ rfl
              go_wp2_with fail
              clear x4 y0
              go_loopw [86] (fun n wr => ∃ k : Nat, n = .int .i64 k ∧ k ≤ v.parts.length ∧ Hd (∀ i, i < k → okV t.parts v.parts i) ∧ Hd (Below wq.heap.size wq wr)) (fun n _ => v.parts.length - (intOf n).toNat)
              case atStart => exact ⟨0, rfl, Nat.zero_le _, fun i h => by omega, Below.refl _ _⟩
              case round =>
                obtain ⟨k, rfl, hk, hok, hbl⟩ := hrel
                obtain ⟨wo, rfl⟩ : ∃ wo : World, wo = wr := ⟨_, rfl⟩
                have hbw := hd (hbq.out.next hbl.out)
                by_cases hlt : k < v.parts.length
                · have hltI : (k : Int) < (v.parts.length : Int) := by omega
                  have hkr : k < rwV.length := by omega
                  obtain ⟨b4, rfl, hb4, hc4⟩ := hSV.at (j := k) hkr
                  have rx := hgV.out k hlt hkr
                  obtain ⟨a4, c4, rows4, hr4, _⟩ := rx.openV
                  have hck := hc4 k hkr
                  rw [hr4] at hck rx
                  have hxx := hpv.out v.parts[k] (List.getElem_mem hlt)
                  have hstep := hd (fun (g : okV t.parts v.parts k) => (show ∀ i, i < k + 1 → okV t.parts v.parts i from fun i h2 => by
                    by_cases e : i = k
                    · subst e; exact g
                    · exact hok.out i (by omega)))
                  have hbk := hd (hbad.out k)
                  have hokk := hd (show okV t.parts v.parts k ↔ (∃ j, ∃ hf : firstP t.parts v.parts[k].no j, fitsB (t.parts[j]'hf.1) v.parts[k] = true) ∧ (0 < k → v.parts[k - 1].no < v.parts[k].no) from ⟨fun h => h hlt, fun h _ => h⟩)
                  have hpv2 := hd (fun m (e : k = m + 1) => (show ∃ pn : Int, w.cell? ⟨b4, m * 5 + 2, none⟩ = some (.int .i64 pn) ∧ (0 < k → v.parts[k - 1].no < v.parts[k].no ↔ pn < v.parts[k].no) from by
                    have hm : m < v.parts.length := by omega
                    have hmr : m < rwV.length := by omega
                    obtain ⟨_, _, _, hrm, _⟩ := (hgV.out m hm hmr).openV
                    have hcm := hc4 m hmr
                    rw [hrm] at hcm
                    refine ⟨_, hcm 2 _ rfl, ?_⟩
                    have e2 : k - 1 = m := by omega
                    simp only [e2, show 0 < k by omega, forall_const]))
                  have ihp := hd (fun p (hp : p ∈ t.parts) r7 w' (hb : Below w.heap.size w w') (hr7 : RepT w lo hi p r7) => ih.out p hp v.parts[k] _ r7 w' lv hv lo hi (Nat.le_trans hhv hb.size) (Nat.le_trans hh hb.size) hxx.1 (hpt.out p hp).1 hxx.2 (hpt.out p hp).2 (rx.below hhv hb) (hr7.below hh hb))
                  have e0 := keepCell hbw.out (show w.cell? ⟨b4, k * 5, none⟩ = _ from hck 0 _ rfl)
                  have e1 := keepCell hbw.out (hck 1 _ rfl)
                  have e2 := keepCell hbw.out (hck 2 _ rfl)
                  have e3 := keepCell hbw.out (hck 3 _ rfl)
                  have e4 := keepCell hbw.out (hck 4 _ rfl)
                  clear hxx hr4 hck rx hc4
                  generalize v.parts[k] = x at *
                  have hX4 := hd (show BoxN (wo.alloc (.cells #[.int .i64 x.most, .string x.name, .int .i64 x.no, .bool x.must, .slice a4 x.parts.length c4] 93)) wo.heap.size [.int .i64 x.most, .string x.name, .int .i64 x.no, .bool x.must, .slice a4 x.parts.length c4] from BoxN.new wo [.int .i64 x.most, .string x.name, .int .i64 x.no, .bool x.must, .slice a4 x.parts.length c4] _)
                  have hbl4 := hd (hbl.out.next (below_a1 wo (a := .cells #[.int .i64 x.most, .string x.name, .int .i64 x.no, .bool x.must, .slice a4 x.parts.length c4] 93)))
                  have hbw4 := hd (hbw.out.next (below_a1 wo (a := .cells #[.int .i64 x.most, .string x.name, .int .i64 x.no, .bool x.must, .slice a4 x.parts.length c4] 93)))
                  go_upto_region 21 with (fail)
                  generalize wo.alloc (.cells #[.int .i64 x.most, .string x.name, .int .i64 x.no, .bool x.must, .slice a4 x.parts.length c4] 93) = W4 at *
                  clear e0 e1 e2 e3 e4
                  have hY4 := hd (hYq.out.below hbl4.out)
                  have y0 := hY4.out.1 0 _ rfl; have y1 := hY4.out.1 1 _ rfl; have y2 := hY4.out.1 2 _ rfl; have y3 := hY4.out.1 3 _ rfl; have y4 := hY4.out.1 4 _ rfl; have y5 := hY4.out.1 5 _ rfl
                  have u2 := hX4.out.1 2 _ rfl
                  have cp := hd (cb.out x.no W4 hbw4.out)
                  rcases first_or t.parts x.no with ⟨j, hf⟩ | hn
                  · have hj := hf.1
                    have hjr : j < rwT.length := by omega
                    have rp := hgT.out j hj hjr
                    obtain ⟨a6, c6, rows6, hr6, _⟩ := rp.open
                    have hpm : t.parts[j] ∈ t.parts := List.getElem_mem hj
                    have hres0 := hd (show (∃ j, ∃ hf : firstP t.parts x.no j, fitsB (t.parts[j]'hf.1) x = true) ↔ fitsB t.parts[j] x = true from ⟨fun ⟨j', hf', h⟩ => by
                      have e : j' = j := by
                        by_cases e1 : j' < j
                        · exact absurd hf'.2.1 (hf.2.2 j' e1)
                        · by_cases e2 : j < j'
                          · exact absurd hf.2.1 (hf'.2.2 j e2)
                          · omega
                      subst e; exact h, fun h => ⟨j, hf, h⟩⟩)
                    have cf := hd (fun w' (hb : Below w.heap.size w w') => ihp.out t.parts[j] hpm _ w' hb rp)
                    rw [hr6] at cf
                    have hr6 := hd hr6
                    have hf := hd hf
                    clear rp hpm
                    generalize fitsB t.parts[j] x = z1 at *
                    generalize hyy : t.parts[j] = y at *
                    replace hyy := hd hyy
                    go_wp2_with fail
                    refine cp.out.mono ?_
                    rintro e w6 ⟨hp1, _, hb6⟩
                    obtain ⟨_, rfl⟩ := hp1 j hf.out
                    have hbl6 := hd (hbl4.out.next hb6)
                    have hbw6 := hd (hbw4.out.next hb6)
                    rw [hr6.out]
                    have hX7 := hd ((hX4.out.below hb6).below (below_a1 w6 (a := .cells #[.int .i64 y.of, .string y.name, .int .i64 y.no, .bool y.must, .int .i64 y.most, .slice a6 y.parts.length c6] 74)))
                    have hY7 := hd (show BoxN (w6.alloc (.cells #[.int .i64 y.of, .string y.name, .int .i64 y.no, .bool y.must, .int .i64 y.most, .slice a6 y.parts.length c6] 74)) w6.heap.size [.int .i64 y.of, .string y.name, .int .i64 y.no, .bool y.must, .int .i64 y.most, .slice a6 y.parts.length c6] from BoxN.new w6 [.int .i64 y.of, .string y.name, .int .i64 y.no, .bool y.must, .int .i64 y.most, .slice a6 y.parts.length c6] _)
                    have hbl7 := hd (hbl6.out.next (below_a1 w6 (a := .cells #[.int .i64 y.of, .string y.name, .int .i64 y.no, .bool y.must, .int .i64 y.most, .slice a6 y.parts.length c6] 74)))
                    have hbw7 := hd (hbw6.out.next (below_a1 w6 (a := .cells #[.int .i64 y.of, .string y.name, .int .i64 y.no, .bool y.must, .int .i64 y.most, .slice a6 y.parts.length c6] 74)))
                    clear hb6 hp1 u2 y0 y1 y2 y3 y4 y5
                    go_upto_region 22 with (fail)
                    generalize w6.alloc (.cells #[.int .i64 y.of, .string y.name, .int .i64 y.no, .bool y.must, .int .i64 y.most, .slice a6 y.parts.length c6] 74) = W7 at *
                    have u0 := hX7.out.1 0 _ rfl; have u1 := hX7.out.1 1 _ rfl; have u2 := hX7.out.1 2 _ rfl; have u3 := hX7.out.1 3 _ rfl; have u4 := hX7.out.1 4 _ rfl
                    have t0 := hY7.out.1 0 _ rfl; have t1 := hY7.out.1 1 _ rfl; have t2 := hY7.out.1 2 _ rfl; have t3 := hY7.out.1 3 _ rfl; have t4 := hY7.out.1 4 _ rfl; have t5 := hY7.out.1 5 _ rfl
                    cases z1 with
                    | false =>
                      have hres := hd (hbk.out (by rw [hokk.out, hres0.out]; simp))
                      refine wp_region_held_drew (S := (fun w' => w'.cell? ⟨wo.heap.size, 0, none⟩ = some (.int .i64 x.most) ∧ w'.cell? ⟨wo.heap.size, 1, none⟩ = some (.string x.name) ∧ w'.cell? ⟨wo.heap.size, 2, none⟩ = some (.int .i64 x.no) ∧ w'.cell? ⟨wo.heap.size, 3, none⟩ = some (.bool x.must) ∧ w'.cell? ⟨wo.heap.size, 4, none⟩ = some (.slice a4 x.parts.length c4) ∧ w'.cell? ⟨w6.heap.size, 0, none⟩ = some (.int .i64 y.of) ∧ w'.cell? ⟨w6.heap.size, 1, none⟩ = some (.string y.name) ∧ w'.cell? ⟨w6.heap.size, 2, none⟩ = some (.int .i64 y.no) ∧ w'.cell? ⟨w6.heap.size, 3, none⟩ = some (.bool y.must) ∧ w'.cell? ⟨w6.heap.size, 4, none⟩ = some (.int .i64 y.most) ∧ w'.cell? ⟨w6.heap.size, 5, none⟩ = some (.slice a6 y.parts.length c6))) (by kernel_rfl) ?_ (fun hHeld => ?_)
                      · first | (refine ⟨?_, ?_, ?_, ?_, ?_, ?_, ?_, ?_, ?_, ?_, ?_⟩ <;> assumption) | go_keep
                      refine wpAnyH_take (i := 0) (v := ?v0b) rfl (by kernel_rfl) (by kernel_rfl) (by kernel_rfl) (fun _ _ _ h => h) (Or.inl ⟨by rfl, ?hy0b⟩) (by assumption) ?rest0b
                      case hy0b => (intro w hSw; (try dsimp only at hSw); first | (go_simp; done) | (go_simp; with_reducible rfl))
                      try simp only [Act.put, List.getElem_toArray, List.getElem_cons_zero, List.setIfInBounds_toArray, List.set_cons_zero, List.set_cons_succ]
                      refine wpAnyH_take (i := 1) (v := ?v1b) rfl (by kernel_rfl) (by kernel_rfl) (by kernel_rfl) (fun _ _ _ h => h) (Or.inl ⟨by rfl, ?hy1b⟩) (by assumption) ?rest1b
                      case hy1b => (intro w hSw; (try dsimp only at hSw); first | (go_simp; done) | (go_simp; with_reducible rfl))
                      try simp only [Act.put, List.getElem_toArray, List.getElem_cons_succ, List.getElem_cons_zero, List.setIfInBounds_toArray, List.set_cons_zero, List.set_cons_succ]
                      refine wpAnyH_take (i := 2) (v := ?v2b) rfl (by kernel_rfl) (by kernel_rfl) (by kernel_rfl) (fun _ _ _ h => h) (Or.inl ⟨by rfl, ?hy2b⟩) (by assumption) ?rest2b
                      case hy2b => (intro w hSw; (try dsimp only at hSw); first | (go_simp; done) | (go_simp; with_reducible rfl))
                      try simp only [Act.put, List.getElem_toArray, List.getElem_cons_succ, List.getElem_cons_zero, List.setIfInBounds_toArray, List.set_cons_zero, List.set_cons_succ]
                      refine wpAnyH_take (i := 3) (v := ?v3b) rfl (by kernel_rfl) (by kernel_rfl) (by kernel_rfl) (fun _ _ _ h => h) (Or.inl ⟨by rfl, ?hy3b⟩) (by assumption) ?rest3b
                      case hy3b => (intro w hSw; (try dsimp only at hSw); first | (go_simp; done) | (go_simp; with_reducible rfl))
                      try simp only [Act.put, List.getElem_toArray, List.getElem_cons_succ, List.getElem_cons_zero, List.setIfInBounds_toArray, List.set_cons_zero, List.set_cons_succ]
                      refine wpAnyH_take (i := 4) (v := ?v4b) rfl (by kernel_rfl) (by kernel_rfl) (by kernel_rfl) (fun _ _ _ h => h) (Or.inl ⟨by rfl, ?hy4b⟩) (by assumption) ?rest4b
                      case hy4b => (intro w hSw; (try dsimp only at hSw); first | (go_simp; done) | (go_simp; with_reducible rfl))
                      try simp only [Act.put, List.getElem_toArray, List.getElem_cons_succ, List.getElem_cons_zero, List.setIfInBounds_toArray, List.set_cons_zero, List.set_cons_succ]
                      refine wpAnyH_ready (rs := [5]) (by kernel_rfl) (by simp) ?_
                      refine AllReadyH.cons (o := _) rfl (fun K hK => ?_) AllReadyH.nil
                      go_simp
                      go_at_call 73; refine (cf.out _ (by first | exact hbw7.out.drew | exact hbw7.out)).mono ?_; rintro e' w5 ⟨rfl, hb5⟩
                      try go_simp
                      refine hK.out _ _ ?_ (fun hHeld => ?_)
                      · obtain ⟨kk0, kk1, kk2, kk3, kk4, kk5, kk6, kk7, kk8, kk9, kk10⟩ := hHeld; exact ⟨keepCell hb5 kk0, keepCell hb5 kk1, keepCell hb5 kk2, keepCell hb5 kk3, keepCell hb5 kk4, keepCell hb5 kk5, keepCell hb5 kk6, keepCell hb5 kk7, keepCell hb5 kk8, keepCell hb5 kk9, keepCell hb5 kk10⟩
                      clear hK K
                      try simp only [Act.put, List.getElem_toArray, List.getElem_cons_succ, List.getElem_cons_zero, List.setIfInBounds_toArray, List.set_cons_zero, List.set_cons_succ]
                      refine wpAnyH_take (i := 6) (v := ?v6b) rfl (by kernel_rfl) (by kernel_rfl) (by kernel_rfl) (fun _ _ _ h => h) (Or.inl ⟨by rfl, ?hy6b⟩) (by assumption) ?rest6b
                      case hy6b => (intro w hSw; (try dsimp only at hSw); first | (go_simp; done) | (go_simp; with_reducible rfl))
                      try simp only [Act.put, List.getElem_toArray, List.getElem_cons_succ, List.getElem_cons_zero, List.setIfInBounds_toArray, List.set_cons_zero, List.set_cons_succ]
                      refine wpAnyH_take (i := 7) (v := ?v7b) rfl (by kernel_rfl) (by kernel_rfl) (by kernel_rfl) (fun _ _ _ h => h) (Or.inl ⟨by rfl, ?hy7b⟩) (by assumption) ?rest7b
                      case hy7b => (intro w hSw; (try dsimp only at hSw); first | (go_simp; done) | (go_simp; with_reducible rfl))
                      try simp only [Act.put, List.getElem_toArray, List.getElem_cons_succ, List.getElem_cons_zero, List.setIfInBounds_toArray, List.set_cons_zero, List.set_cons_succ]
                      refine wpAnyH_take (i := 8) (v := ?v8b) rfl (by kernel_rfl) (by kernel_rfl) (by kernel_rfl) (fun _ _ _ h => h) (Or.inl ⟨by rfl, ?hy8b⟩) (by assumption) ?rest8b
                      case hy8b => (intro w hSw; (try dsimp only at hSw); first | (go_simp; done) | (go_simp; with_reducible rfl))
                      try simp only [Act.put, List.getElem_toArray, List.getElem_cons_succ, List.getElem_cons_zero, List.setIfInBounds_toArray, List.set_cons_zero, List.set_cons_succ]
                      refine wpAnyH_take (i := 9) (v := undef) rfl (by kernel_rfl) (by kernel_rfl) (by kernel_rfl) (fun _ _ _ h => h) (Or.inr ⟨by rfl, rfl⟩) (by assumption) ?_
                      try simp only [Act.put, List.getElem_toArray, List.getElem_cons_succ, List.getElem_cons_zero, List.setIfInBounds_toArray, List.set_cons_zero, List.set_cons_succ]
                      refine wpAnyH_take (i := 10) (v := undef) rfl (by kernel_rfl) (by kernel_rfl) (by kernel_rfl) (fun _ _ _ h => h) (Or.inr ⟨by rfl, rfl⟩) (by assumption) ?_
                      try simp only [Act.put, List.getElem_toArray, List.getElem_cons_succ, List.getElem_cons_zero, List.setIfInBounds_toArray, List.set_cons_zero, List.set_cons_succ]
                      refine wpAnyH_take (i := 11) (v := undef) rfl (by kernel_rfl) (by kernel_rfl) (by kernel_rfl) (fun _ _ _ h => h) (Or.inr ⟨by rfl, rfl⟩) (by assumption) ?_
                      try simp only [Act.put, List.getElem_toArray, List.getElem_cons_succ, List.getElem_cons_zero, List.setIfInBounds_toArray, List.set_cons_zero, List.set_cons_succ]
                      refine wpAnyH_take (i := 12) (v := undef) rfl (by kernel_rfl) (by kernel_rfl) (by kernel_rfl) (fun _ _ _ h => h) (Or.inr ⟨by rfl, rfl⟩) (by assumption) ?_
                      try simp only [Act.put, List.getElem_toArray, List.getElem_cons_succ, List.getElem_cons_zero, List.setIfInBounds_toArray, List.set_cons_zero, List.set_cons_succ]
                      refine wpAnyH_take (i := 13) (v := undef) rfl (by kernel_rfl) (by kernel_rfl) (by kernel_rfl) (fun _ _ _ h => h) (Or.inr ⟨by rfl, rfl⟩) (by assumption) ?_
                      try simp only [Act.put, List.getElem_toArray, List.getElem_cons_succ, List.getElem_cons_zero, List.setIfInBounds_toArray, List.set_cons_zero, List.set_cons_succ]
                      refine wpAnyH_take (i := 14) (v := undef) rfl (by kernel_rfl) (by kernel_rfl) (by kernel_rfl) (fun _ _ _ h => h) (Or.inr ⟨by rfl, rfl⟩) (by assumption) ?_
                      try simp only [Act.put, List.getElem_toArray, List.getElem_cons_succ, List.getElem_cons_zero, List.setIfInBounds_toArray, List.set_cons_zero, List.set_cons_succ]
                      refine wpAnyH_take (i := 15) (v := undef) rfl (by kernel_rfl) (by kernel_rfl) (by kernel_rfl) (fun _ _ _ h => h) (Or.inr ⟨by rfl, rfl⟩) (by assumption) ?_
                      try simp only [Act.put, List.getElem_toArray, List.getElem_cons_succ, List.getElem_cons_zero, List.setIfInBounds_toArray, List.set_cons_zero, List.set_cons_succ]
                      refine wpAnyH_take (i := 16) (v := undef) rfl (by kernel_rfl) (by kernel_rfl) (by kernel_rfl) (fun _ _ _ h => h) (Or.inr ⟨by rfl, rfl⟩) (by assumption) ?_
                      try simp only [Act.put, List.getElem_toArray, List.getElem_cons_succ, List.getElem_cons_zero, List.setIfInBounds_toArray, List.set_cons_zero, List.set_cons_succ]
                      refine wpAnyH_take (i := 17) (v := undef) rfl (by kernel_rfl) (by kernel_rfl) (by kernel_rfl) (fun _ _ _ h => h) (Or.inr ⟨by rfl, rfl⟩) (by assumption) ?_
                      try simp only [Act.put, List.getElem_toArray, List.getElem_cons_succ, List.getElem_cons_zero, List.setIfInBounds_toArray, List.set_cons_zero, List.set_cons_succ]
                      refine wpAnyH_take (i := 18) (v := undef) rfl (by kernel_rfl) (by kernel_rfl) (by kernel_rfl) (fun _ _ _ h => h) (Or.inr ⟨by rfl, rfl⟩) (by assumption) ?_
                      try simp only [Act.put, List.getElem_toArray, List.getElem_cons_succ, List.getElem_cons_zero, List.setIfInBounds_toArray, List.set_cons_zero, List.set_cons_succ]
                      refine wpAnyH_take (i := 19) (v := undef) rfl (by kernel_rfl) (by kernel_rfl) (by kernel_rfl) (fun _ _ _ h => h) (Or.inr ⟨by rfl, rfl⟩) (by assumption) ?_
                      try simp only [Act.put, List.getElem_toArray, List.getElem_cons_succ, List.getElem_cons_zero, List.setIfInBounds_toArray, List.set_cons_zero, List.set_cons_succ]
                      refine wpAnyH_take (i := 20) (v := undef) rfl (by kernel_rfl) (by kernel_rfl) (by kernel_rfl) (fun _ _ _ h => h) (Or.inr ⟨by rfl, rfl⟩) (by assumption) ?_
                      try simp only [Act.put, List.getElem_toArray, List.getElem_cons_succ, List.getElem_cons_zero, List.setIfInBounds_toArray, List.set_cons_zero, List.set_cons_succ]
                      refine wpAnyH_take (i := 21) (v := undef) rfl (by kernel_rfl) (by kernel_rfl) (by kernel_rfl) (fun _ _ _ h => h) (Or.inr ⟨by rfl, rfl⟩) (by assumption) ?_
                      try simp only [Act.put, List.getElem_toArray, List.getElem_cons_succ, List.getElem_cons_zero, List.setIfInBounds_toArray, List.set_cons_zero, List.set_cons_succ]
                      refine wpAnyH_take (i := 22) (v := undef) rfl (by kernel_rfl) (by kernel_rfl) (by kernel_rfl) (fun _ _ _ h => h) (Or.inr ⟨by rfl, rfl⟩) (by assumption) ?_
                      try simp only [Act.put, List.getElem_toArray, List.getElem_cons_succ, List.getElem_cons_zero, List.setIfInBounds_toArray, List.set_cons_zero, List.set_cons_succ]
                      refine wpAnyH_take (i := 23) (v := ?v23b) rfl (by kernel_rfl) (by kernel_rfl) (by kernel_rfl) (fun _ _ _ h => h) (Or.inl ⟨by rfl, ?hy23b⟩) (by assumption) ?rest23b
                      case hy23b => (intro w hSw; (try dsimp only at hSw); first | (go_simp; done) | (go_simp; with_reducible rfl))
                      try simp only [Act.put, List.getElem_toArray, List.getElem_cons_succ, List.getElem_cons_zero, List.setIfInBounds_toArray, List.set_cons_zero, List.set_cons_succ]
                      refine wpAnyH_done (by kernel_rfl) ?_ _
                      all_goals
                        have hbw8 := hd (show Below w.heap.size w w5 from by first | exact hbw7.out.next hb5 | exact (hbw7.out.drew).next hb5)
                        go_wp2_with fail
                        go_ret
                        exact ⟨by rw [hres.out]; rfl, hbw8.out⟩
                    | true =>
                      rcases Nat.eq_zero_or_pos k with h0 | h0
                      · have hnx := hd (hstep.out (by rw [hokk.out, hres0.out]; exact ⟨rfl, fun h => by omega⟩))
                        have hk0 : decide ((0 : Int) < (k : Int)) = false := by simp; omega
                        have hk1 : decide (0 < k) = false := by simp; omega
                        replace h0 := hd h0
                        refine wp_region_held_drew (S := (fun w' => w'.cell? ⟨wo.heap.size, 0, none⟩ = some (.int .i64 x.most) ∧ w'.cell? ⟨wo.heap.size, 1, none⟩ = some (.string x.name) ∧ w'.cell? ⟨wo.heap.size, 2, none⟩ = some (.int .i64 x.no) ∧ w'.cell? ⟨wo.heap.size, 3, none⟩ = some (.bool x.must) ∧ w'.cell? ⟨wo.heap.size, 4, none⟩ = some (.slice a4 x.parts.length c4) ∧ w'.cell? ⟨w6.heap.size, 0, none⟩ = some (.int .i64 y.of) ∧ w'.cell? ⟨w6.heap.size, 1, none⟩ = some (.string y.name) ∧ w'.cell? ⟨w6.heap.size, 2, none⟩ = some (.int .i64 y.no) ∧ w'.cell? ⟨w6.heap.size, 3, none⟩ = some (.bool y.must) ∧ w'.cell? ⟨w6.heap.size, 4, none⟩ = some (.int .i64 y.most) ∧ w'.cell? ⟨w6.heap.size, 5, none⟩ = some (.slice a6 y.parts.length c6))) (by kernel_rfl) ?_ (fun hHeld => ?_)
                        · first | (refine ⟨?_, ?_, ?_, ?_, ?_, ?_, ?_, ?_, ?_, ?_, ?_⟩ <;> assumption) | go_keep
                        refine wpAnyH_take (i := 0) (v := ?v0c) rfl (by kernel_rfl) (by kernel_rfl) (by kernel_rfl) (fun _ _ _ h => h) (Or.inl ⟨by rfl, ?hy0c⟩) (by assumption) ?rest0c
                        case hy0c => (intro w hSw; (try dsimp only at hSw); first | (go_simp; done) | (go_simp; with_reducible rfl))
                        try simp only [Act.put, List.getElem_toArray, List.getElem_cons_zero, List.setIfInBounds_toArray, List.set_cons_zero, List.set_cons_succ]
                        refine wpAnyH_take (i := 1) (v := ?v1c) rfl (by kernel_rfl) (by kernel_rfl) (by kernel_rfl) (fun _ _ _ h => h) (Or.inl ⟨by rfl, ?hy1c⟩) (by assumption) ?rest1c
                        case hy1c => (intro w hSw; (try dsimp only at hSw); first | (go_simp; done) | (go_simp; with_reducible rfl))
                        try simp only [Act.put, List.getElem_toArray, List.getElem_cons_succ, List.getElem_cons_zero, List.setIfInBounds_toArray, List.set_cons_zero, List.set_cons_succ]
                        refine wpAnyH_take (i := 2) (v := ?v2c) rfl (by kernel_rfl) (by kernel_rfl) (by kernel_rfl) (fun _ _ _ h => h) (Or.inl ⟨by rfl, ?hy2c⟩) (by assumption) ?rest2c
                        case hy2c => (intro w hSw; (try dsimp only at hSw); first | (go_simp; done) | (go_simp; with_reducible rfl))
                        try simp only [Act.put, List.getElem_toArray, List.getElem_cons_succ, List.getElem_cons_zero, List.setIfInBounds_toArray, List.set_cons_zero, List.set_cons_succ]
                        refine wpAnyH_take (i := 3) (v := ?v3c) rfl (by kernel_rfl) (by kernel_rfl) (by kernel_rfl) (fun _ _ _ h => h) (Or.inl ⟨by rfl, ?hy3c⟩) (by assumption) ?rest3c
                        case hy3c => (intro w hSw; (try dsimp only at hSw); first | (go_simp; done) | (go_simp; with_reducible rfl))
                        try simp only [Act.put, List.getElem_toArray, List.getElem_cons_succ, List.getElem_cons_zero, List.setIfInBounds_toArray, List.set_cons_zero, List.set_cons_succ]
                        refine wpAnyH_take (i := 4) (v := ?v4c) rfl (by kernel_rfl) (by kernel_rfl) (by kernel_rfl) (fun _ _ _ h => h) (Or.inl ⟨by rfl, ?hy4c⟩) (by assumption) ?rest4c
                        case hy4c => (intro w hSw; (try dsimp only at hSw); first | (go_simp; done) | (go_simp; with_reducible rfl))
                        try simp only [Act.put, List.getElem_toArray, List.getElem_cons_succ, List.getElem_cons_zero, List.setIfInBounds_toArray, List.set_cons_zero, List.set_cons_succ]
                        refine wpAnyH_ready (rs := [5]) (by kernel_rfl) (by simp) ?_
                        refine AllReadyH.cons (o := _) rfl (fun K hK => ?_) AllReadyH.nil
                        go_simp
                        go_at_call 73; refine (cf.out _ (by first | exact hbw7.out.drew | exact hbw7.out)).mono ?_; rintro e' w5 ⟨rfl, hb5⟩
                        try go_simp
                        refine hK.out _ _ ?_ (fun hHeld => ?_)
                        · obtain ⟨kk0, kk1, kk2, kk3, kk4, kk5, kk6, kk7, kk8, kk9, kk10⟩ := hHeld; exact ⟨keepCell hb5 kk0, keepCell hb5 kk1, keepCell hb5 kk2, keepCell hb5 kk3, keepCell hb5 kk4, keepCell hb5 kk5, keepCell hb5 kk6, keepCell hb5 kk7, keepCell hb5 kk8, keepCell hb5 kk9, keepCell hb5 kk10⟩
                        clear hK K
                        try simp only [Act.put, List.getElem_toArray, List.getElem_cons_succ, List.getElem_cons_zero, List.setIfInBounds_toArray, List.set_cons_zero, List.set_cons_succ]
                        refine wpAnyH_take (i := 6) (v := ?v6c) rfl (by kernel_rfl) (by kernel_rfl) (by kernel_rfl) (fun _ _ _ h => h) (Or.inl ⟨by rfl, ?hy6c⟩) (by assumption) ?rest6c
                        case hy6c => (intro w hSw; (try dsimp only at hSw); first | (go_simp; done) | (go_simp; with_reducible rfl))
                        try simp only [Act.put, List.getElem_toArray, List.getElem_cons_succ, List.getElem_cons_zero, List.setIfInBounds_toArray, List.set_cons_zero, List.set_cons_succ]
                        refine wpAnyH_take (i := 7) (v := ?v7c) rfl (by kernel_rfl) (by kernel_rfl) (by kernel_rfl) (fun _ _ _ h => h) (Or.inl ⟨by rfl, ?hy7c⟩) (by assumption) ?rest7c
                        case hy7c => (intro w hSw; (try dsimp only at hSw); first | (go_simp; done) | (go_simp; with_reducible rfl))
                        try simp only [Act.put, List.getElem_toArray, List.getElem_cons_succ, List.getElem_cons_zero, List.setIfInBounds_toArray, List.set_cons_zero, List.set_cons_succ]
                        refine wpAnyH_take (i := 8) (v := ?v8c) rfl (by kernel_rfl) (by kernel_rfl) (by kernel_rfl) (fun _ _ _ h => h) (Or.inl ⟨by rfl, ?hy8c⟩) (by assumption) ?rest8c
                        case hy8c => (intro w hSw; (try dsimp only at hSw); first | (go_simp; done) | (go_simp; with_reducible rfl))
                        try simp only [Act.put, List.getElem_toArray, List.getElem_cons_succ, List.getElem_cons_zero, List.setIfInBounds_toArray, List.set_cons_zero, List.set_cons_succ]
                        refine wpAnyH_take (i := 9) (v := ?v9c) rfl (by kernel_rfl) (by kernel_rfl) (by kernel_rfl) (fun _ _ _ h => h) (Or.inl ⟨by rfl, ?hy9c⟩) (by assumption) ?rest9c
                        case hy9c => (intro w hSw; (try dsimp only at hSw); first | (go_simp; done) | (go_simp; with_reducible rfl))
                        try simp only [Act.put, List.getElem_toArray, List.getElem_cons_succ, List.getElem_cons_zero, List.setIfInBounds_toArray, List.set_cons_zero, List.set_cons_succ]
                        refine wpAnyH_take (i := 10) (v := ?v10c) rfl (by kernel_rfl) (by kernel_rfl) (by kernel_rfl) (fun _ _ _ h => h) (Or.inl ⟨by rfl, ?hy10c⟩) (by assumption) ?rest10c
                        case hy10c => (intro w hSw; (try dsimp only at hSw); first | (go_simp; done) | (go_simp; with_reducible rfl))
                        try simp only [Act.put, List.getElem_toArray, List.getElem_cons_succ, List.getElem_cons_zero, List.setIfInBounds_toArray, List.set_cons_zero, List.set_cons_succ]
                        refine wpAnyH_take (i := 11) (v := ?v11c) rfl (by kernel_rfl) (by kernel_rfl) (by kernel_rfl) (fun _ _ _ h => h) (Or.inl ⟨by rfl, ?hy11c⟩) (by assumption) ?rest11c
                        case hy11c => (intro w hSw; (try dsimp only at hSw); first | (go_simp; done) | (go_simp; with_reducible rfl))
                        try simp only [Act.put, List.getElem_toArray, List.getElem_cons_succ, List.getElem_cons_zero, List.setIfInBounds_toArray, List.set_cons_zero, List.set_cons_succ]
                        refine wpAnyH_take (i := 12) (v := undef) rfl (by kernel_rfl) (by kernel_rfl) (by kernel_rfl) (fun _ _ _ h => h) (Or.inr ⟨by rfl, rfl⟩) (by assumption) ?_
                        try simp only [Act.put, List.getElem_toArray, List.getElem_cons_succ, List.getElem_cons_zero, List.setIfInBounds_toArray, List.set_cons_zero, List.set_cons_succ]
                        refine wpAnyH_take (i := 13) (v := undef) rfl (by kernel_rfl) (by kernel_rfl) (by kernel_rfl) (fun _ _ _ h => h) (Or.inr ⟨by rfl, rfl⟩) (by assumption) ?_
                        try simp only [Act.put, List.getElem_toArray, List.getElem_cons_succ, List.getElem_cons_zero, List.setIfInBounds_toArray, List.set_cons_zero, List.set_cons_succ]
                        refine wpAnyH_take (i := 14) (v := undef) rfl (by kernel_rfl) (by kernel_rfl) (by kernel_rfl) (fun _ _ _ h => h) (Or.inr ⟨by rfl, rfl⟩) (by assumption) ?_
                        try simp only [Act.put, List.getElem_toArray, List.getElem_cons_succ, List.getElem_cons_zero, List.setIfInBounds_toArray, List.set_cons_zero, List.set_cons_succ]
                        refine wpAnyH_take (i := 15) (v := undef) rfl (by kernel_rfl) (by kernel_rfl) (by kernel_rfl) (fun _ _ _ h => h) (Or.inr ⟨by rfl, rfl⟩) (by assumption) ?_
                        try simp only [Act.put, List.getElem_toArray, List.getElem_cons_succ, List.getElem_cons_zero, List.setIfInBounds_toArray, List.set_cons_zero, List.set_cons_succ]
                        refine wpAnyH_take (i := 16) (v := undef) rfl (by kernel_rfl) (by kernel_rfl) (by kernel_rfl) (fun _ _ _ h => h) (Or.inr ⟨by rfl, rfl⟩) (by assumption) ?_
                        try simp only [Act.put, List.getElem_toArray, List.getElem_cons_succ, List.getElem_cons_zero, List.setIfInBounds_toArray, List.set_cons_zero, List.set_cons_succ]
                        refine wpAnyH_take (i := 17) (v := undef) rfl (by kernel_rfl) (by kernel_rfl) (by kernel_rfl) (fun _ _ _ h => h) (Or.inr ⟨by rfl, rfl⟩) (by assumption) ?_
                        try simp only [Act.put, List.getElem_toArray, List.getElem_cons_succ, List.getElem_cons_zero, List.setIfInBounds_toArray, List.set_cons_zero, List.set_cons_succ]
                        refine wpAnyH_take (i := 18) (v := undef) rfl (by kernel_rfl) (by kernel_rfl) (by kernel_rfl) (fun _ _ _ h => h) (Or.inr ⟨by rfl, rfl⟩) (by assumption) ?_
                        try simp only [Act.put, List.getElem_toArray, List.getElem_cons_succ, List.getElem_cons_zero, List.setIfInBounds_toArray, List.set_cons_zero, List.set_cons_succ]
                        refine wpAnyH_take (i := 19) (v := undef) rfl (by kernel_rfl) (by kernel_rfl) (by kernel_rfl) (fun _ _ _ h => h) (Or.inr ⟨by rfl, rfl⟩) (by assumption) ?_
                        try simp only [Act.put, List.getElem_toArray, List.getElem_cons_succ, List.getElem_cons_zero, List.setIfInBounds_toArray, List.set_cons_zero, List.set_cons_succ]
                        refine wpAnyH_take (i := 20) (v := undef) rfl (by kernel_rfl) (by kernel_rfl) (by kernel_rfl) (fun _ _ _ h => h) (Or.inr ⟨by rfl, rfl⟩) (by assumption) ?_
                        try simp only [Act.put, List.getElem_toArray, List.getElem_cons_succ, List.getElem_cons_zero, List.setIfInBounds_toArray, List.set_cons_zero, List.set_cons_succ]
                        refine wpAnyH_take (i := 21) (v := undef) rfl (by kernel_rfl) (by kernel_rfl) (by kernel_rfl) (fun _ _ _ h => h) (Or.inr ⟨by rfl, rfl⟩) (by assumption) ?_
                        try simp only [Act.put, List.getElem_toArray, List.getElem_cons_succ, List.getElem_cons_zero, List.setIfInBounds_toArray, List.set_cons_zero, List.set_cons_succ]
                        refine wpAnyH_take (i := 22) (v := ?v22c) rfl (by kernel_rfl) (by kernel_rfl) (by kernel_rfl) (fun _ _ _ h => h) (Or.inl ⟨by rfl, ?hy22c⟩) (by assumption) ?rest22c
                        case hy22c => (intro w hSw; (try dsimp only at hSw); first | (go_simp; done) | (go_simp; with_reducible rfl))
                        try simp only [Act.put, List.getElem_toArray, List.getElem_cons_succ, List.getElem_cons_zero, List.setIfInBounds_toArray, List.set_cons_zero, List.set_cons_succ]
                        refine wpAnyH_take (i := 23) (v := ?v23c) rfl (by kernel_rfl) (by kernel_rfl) (by kernel_rfl) (fun _ _ _ h => h) (Or.inl ⟨by rfl, ?hy23c⟩) (by assumption) ?rest23c
                        case hy23c => (intro w hSw; (try dsimp only at hSw); first | (go_simp; done) | (go_simp; with_reducible rfl))
                        try simp only [Act.put, List.getElem_toArray, List.getElem_cons_succ, List.getElem_cons_zero, List.setIfInBounds_toArray, List.set_cons_zero, List.set_cons_succ]
                        refine wpAnyH_done (by kernel_rfl) ?_ _
                        all_goals
                          have hbl8 := hd (show Below wq.heap.size wq w5 from by first | exact hbl7.out.next hb5 | exact (hbl7.out.drew).next hb5)
                          go_wp2_with fail
                          go_roundw
                          case rel => exact ⟨k + 1, by go_num, by omega, hnx, hbl8⟩
                          case measure => simp [intOf]; omega
                      · obtain ⟨m, rfl⟩ : ∃ m, k = m + 1 := ⟨k - 1, by omega⟩
                        obtain ⟨pn, hprev, hpi⟩ := hpv2.out m rfl
                        have hprev := hd hprev
                        have hj0 : (0 : Int) < ((m + 1 : Nat) : Int) := by omega
                        have hjw : IntKind.i64.wrap (((m + 1 : Nat) : Int) - 1) = (m : Int) := by rw [IntWalk.i64_in _ (by omega)]; omega
                        have hjl : (m : Int) < (v.parts.length : Int) := by omega
                        have hjw2 : IntKind.i64.wrap ((m : Nat) : Int) = (m : Int) := IntWalk.i64_in _ (by omega)
                        have hj00 : (0 : Int) ≤ (m : Int) := by omega
                        by_cases hge : x.no ≤ pn
                        · have hres := hd (hbk.out (by rw [hokk.out, hres0.out, hpi]; rintro ⟨_, h⟩; omega))
                          clear hpi
                          have gV := (hXq.out.below hbl7.out).1 4 _ rfl
                          have gP := keepCell hbw7.out hprev.out
                          refine wp_region_held_drew (S := (fun w' => w'.cell? ⟨wo.heap.size, 0, none⟩ = some (.int .i64 x.most) ∧ w'.cell? ⟨wo.heap.size, 1, none⟩ = some (.string x.name) ∧ w'.cell? ⟨wo.heap.size, 2, none⟩ = some (.int .i64 x.no) ∧ w'.cell? ⟨wo.heap.size, 3, none⟩ = some (.bool x.must) ∧ w'.cell? ⟨wo.heap.size, 4, none⟩ = some (.slice a4 x.parts.length c4) ∧ w'.cell? ⟨w6.heap.size, 0, none⟩ = some (.int .i64 y.of) ∧ w'.cell? ⟨w6.heap.size, 1, none⟩ = some (.string y.name) ∧ w'.cell? ⟨w6.heap.size, 2, none⟩ = some (.int .i64 y.no) ∧ w'.cell? ⟨w6.heap.size, 3, none⟩ = some (.bool y.must) ∧ w'.cell? ⟨w6.heap.size, 4, none⟩ = some (.int .i64 y.most) ∧ w'.cell? ⟨w6.heap.size, 5, none⟩ = some (.slice a6 y.parts.length c6) ∧ w'.cell? ⟨w.heap.size, 4, none⟩ = some (.slice (some ⟨b4, 0, none⟩) v.parts.length cV) ∧ w'.cell? ⟨b4, m * 5 + 2, none⟩ = some (.int .i64 pn))) (by kernel_rfl) ?_ (fun hHeld => ?_)
                          · first | (refine ⟨?_, ?_, ?_, ?_, ?_, ?_, ?_, ?_, ?_, ?_, ?_, ?_, ?_⟩ <;> assumption) | go_keep
                          refine wpAnyH_take (i := 0) (v := ?v0d) rfl (by kernel_rfl) (by kernel_rfl) (by kernel_rfl) (fun _ _ _ h => h) (Or.inl ⟨by rfl, ?hy0d⟩) (by assumption) ?rest0d
                          case hy0d => (intro w hSw; (try dsimp only at hSw); first | (go_simp; done) | (go_simp; with_reducible rfl))
                          try simp only [Act.put, List.getElem_toArray, List.getElem_cons_zero, List.setIfInBounds_toArray, List.set_cons_zero, List.set_cons_succ]
                          refine wpAnyH_take (i := 1) (v := ?v1d) rfl (by kernel_rfl) (by kernel_rfl) (by kernel_rfl) (fun _ _ _ h => h) (Or.inl ⟨by rfl, ?hy1d⟩) (by assumption) ?rest1d
                          case hy1d => (intro w hSw; (try dsimp only at hSw); first | (go_simp; done) | (go_simp; with_reducible rfl))
                          try simp only [Act.put, List.getElem_toArray, List.getElem_cons_succ, List.getElem_cons_zero, List.setIfInBounds_toArray, List.set_cons_zero, List.set_cons_succ]
                          refine wpAnyH_take (i := 2) (v := ?v2d) rfl (by kernel_rfl) (by kernel_rfl) (by kernel_rfl) (fun _ _ _ h => h) (Or.inl ⟨by rfl, ?hy2d⟩) (by assumption) ?rest2d
                          case hy2d => (intro w hSw; (try dsimp only at hSw); first | (go_simp; done) | (go_simp; with_reducible rfl))
                          try simp only [Act.put, List.getElem_toArray, List.getElem_cons_succ, List.getElem_cons_zero, List.setIfInBounds_toArray, List.set_cons_zero, List.set_cons_succ]
                          refine wpAnyH_take (i := 3) (v := ?v3d) rfl (by kernel_rfl) (by kernel_rfl) (by kernel_rfl) (fun _ _ _ h => h) (Or.inl ⟨by rfl, ?hy3d⟩) (by assumption) ?rest3d
                          case hy3d => (intro w hSw; (try dsimp only at hSw); first | (go_simp; done) | (go_simp; with_reducible rfl))
                          try simp only [Act.put, List.getElem_toArray, List.getElem_cons_succ, List.getElem_cons_zero, List.setIfInBounds_toArray, List.set_cons_zero, List.set_cons_succ]
                          refine wpAnyH_take (i := 4) (v := ?v4d) rfl (by kernel_rfl) (by kernel_rfl) (by kernel_rfl) (fun _ _ _ h => h) (Or.inl ⟨by rfl, ?hy4d⟩) (by assumption) ?rest4d
                          case hy4d => (intro w hSw; (try dsimp only at hSw); first | (go_simp; done) | (go_simp; with_reducible rfl))
                          try simp only [Act.put, List.getElem_toArray, List.getElem_cons_succ, List.getElem_cons_zero, List.setIfInBounds_toArray, List.set_cons_zero, List.set_cons_succ]
                          refine wpAnyH_ready (rs := [5]) (by kernel_rfl) (by simp) ?_
                          refine AllReadyH.cons (o := _) rfl (fun K hK => ?_) AllReadyH.nil
                          go_simp
                          go_at_call 73; refine (cf.out _ (by first | exact hbw7.out.drew | exact hbw7.out)).mono ?_; rintro e' w5 ⟨rfl, hb5⟩
                          try go_simp
                          refine hK.out _ _ ?_ (fun hHeld => ?_)
                          · obtain ⟨kk0, kk1, kk2, kk3, kk4, kk5, kk6, kk7, kk8, kk9, kk10, kk11, kk12⟩ := hHeld; exact ⟨keepCell hb5 kk0, keepCell hb5 kk1, keepCell hb5 kk2, keepCell hb5 kk3, keepCell hb5 kk4, keepCell hb5 kk5, keepCell hb5 kk6, keepCell hb5 kk7, keepCell hb5 kk8, keepCell hb5 kk9, keepCell hb5 kk10, keepCell hb5 kk11, keepCell hb5 kk12⟩
                          clear hK K
                          try simp only [Act.put, List.getElem_toArray, List.getElem_cons_succ, List.getElem_cons_zero, List.setIfInBounds_toArray, List.set_cons_zero, List.set_cons_succ]
                          refine wpAnyH_take (i := 6) (v := ?v6d) rfl (by kernel_rfl) (by kernel_rfl) (by kernel_rfl) (fun _ _ _ h => h) (Or.inl ⟨by rfl, ?hy6d⟩) (by assumption) ?rest6d
                          case hy6d => (intro w hSw; (try dsimp only at hSw); first | (go_simp; done) | (go_simp; with_reducible rfl))
                          try simp only [Act.put, List.getElem_toArray, List.getElem_cons_succ, List.getElem_cons_zero, List.setIfInBounds_toArray, List.set_cons_zero, List.set_cons_succ]
                          refine wpAnyH_take (i := 7) (v := ?v7d) rfl (by kernel_rfl) (by kernel_rfl) (by kernel_rfl) (fun _ _ _ h => h) (Or.inl ⟨by rfl, ?hy7d⟩) (by assumption) ?rest7d
                          case hy7d => (intro w hSw; (try dsimp only at hSw); first | (go_simp; done) | (go_simp; with_reducible rfl))
                          try simp only [Act.put, List.getElem_toArray, List.getElem_cons_succ, List.getElem_cons_zero, List.setIfInBounds_toArray, List.set_cons_zero, List.set_cons_succ]
                          refine wpAnyH_take (i := 8) (v := ?v8d) rfl (by kernel_rfl) (by kernel_rfl) (by kernel_rfl) (fun _ _ _ h => h) (Or.inl ⟨by rfl, ?hy8d⟩) (by assumption) ?rest8d
                          case hy8d => (intro w hSw; (try dsimp only at hSw); first | (go_simp; done) | (go_simp; with_reducible rfl))
                          try simp only [Act.put, List.getElem_toArray, List.getElem_cons_succ, List.getElem_cons_zero, List.setIfInBounds_toArray, List.set_cons_zero, List.set_cons_succ]
                          refine wpAnyH_take (i := 9) (v := ?v9d) rfl (by kernel_rfl) (by kernel_rfl) (by kernel_rfl) (fun _ _ _ h => h) (Or.inl ⟨by rfl, ?hy9d⟩) (by assumption) ?rest9d
                          case hy9d => (intro w hSw; (try dsimp only at hSw); first | (go_simp; done) | (go_simp; with_reducible rfl))
                          try simp only [Act.put, List.getElem_toArray, List.getElem_cons_succ, List.getElem_cons_zero, List.setIfInBounds_toArray, List.set_cons_zero, List.set_cons_succ]
                          refine wpAnyH_take (i := 10) (v := ?v10d) rfl (by kernel_rfl) (by kernel_rfl) (by kernel_rfl) (fun _ _ _ h => h) (Or.inl ⟨by rfl, ?hy10d⟩) (by assumption) ?rest10d
                          case hy10d => (intro w hSw; (try dsimp only at hSw); first | (go_simp; done) | (go_simp; with_reducible rfl))
                          try simp only [Act.put, List.getElem_toArray, List.getElem_cons_succ, List.getElem_cons_zero, List.setIfInBounds_toArray, List.set_cons_zero, List.set_cons_succ]
                          refine wpAnyH_take (i := 11) (v := ?v11d) rfl (by kernel_rfl) (by kernel_rfl) (by kernel_rfl) (fun _ _ _ h => h) (Or.inl ⟨by rfl, ?hy11d⟩) (by assumption) ?rest11d
                          case hy11d => (intro w hSw; (try dsimp only at hSw); first | (go_simp; done) | (go_simp; with_reducible rfl))
                          try simp only [Act.put, List.getElem_toArray, List.getElem_cons_succ, List.getElem_cons_zero, List.setIfInBounds_toArray, List.set_cons_zero, List.set_cons_succ]
                          refine wpAnyH_take (i := 12) (v := ?v12d) rfl (by kernel_rfl) (by kernel_rfl) (by kernel_rfl) (fun _ _ _ h => h) (Or.inl ⟨by rfl, ?hy12d⟩) (by assumption) ?rest12d
                          case hy12d => (intro w hSw; (try dsimp only at hSw); first | (go_simp; done) | (go_simp; with_reducible rfl))
                          try simp only [Act.put, List.getElem_toArray, List.getElem_cons_succ, List.getElem_cons_zero, List.setIfInBounds_toArray, List.set_cons_zero, List.set_cons_succ]
                          refine wpAnyH_take (i := 13) (v := ?v13d) rfl (by kernel_rfl) (by kernel_rfl) (by kernel_rfl) (fun _ _ _ h => h) (Or.inl ⟨by rfl, ?hy13d⟩) (by assumption) ?rest13d
                          case hy13d => (intro w hSw; (try dsimp only at hSw); first | (go_simp; done) | (go_simp; with_reducible rfl))
                          try simp only [Act.put, List.getElem_toArray, List.getElem_cons_succ, List.getElem_cons_zero, List.setIfInBounds_toArray, List.set_cons_zero, List.set_cons_succ]
                          refine wpAnyH_take (i := 14) (v := ?v14d) rfl (by kernel_rfl) (by kernel_rfl) (by kernel_rfl) (fun _ _ _ h => h) (Or.inl ⟨by rfl, ?hy14d⟩) (by assumption) ?rest14d
                          case hy14d => (intro w hSw; (try dsimp only at hSw); first | (go_simp; done) | (go_simp; with_reducible rfl))
                          try simp only [Act.put, List.getElem_toArray, List.getElem_cons_succ, List.getElem_cons_zero, List.setIfInBounds_toArray, List.set_cons_zero, List.set_cons_succ]
                          refine wpAnyH_take (i := 15) (v := ?v15d) rfl (by kernel_rfl) (by kernel_rfl) (by kernel_rfl) (fun _ _ _ h => h) (Or.inl ⟨by rfl, ?hy15d⟩) (by assumption) ?rest15d
                          case hy15d => (intro w hSw; (try dsimp only at hSw); first | (go_simp; done) | (go_simp; with_reducible rfl))
                          try simp only [Act.put, List.getElem_toArray, List.getElem_cons_succ, List.getElem_cons_zero, List.setIfInBounds_toArray, List.set_cons_zero, List.set_cons_succ]
                          refine wpAnyH_take (i := 16) (v := ?v16d) rfl (by kernel_rfl) (by kernel_rfl) (by kernel_rfl) (fun _ _ _ h => h) (Or.inl ⟨by rfl, ?hy16d⟩) (by assumption) ?rest16d
                          case hy16d => (intro w hSw; (try dsimp only at hSw); first | (go_simp; done) | (go_simp; with_reducible rfl))
                          try simp only [Act.put, List.getElem_toArray, List.getElem_cons_succ, List.getElem_cons_zero, List.setIfInBounds_toArray, List.set_cons_zero, List.set_cons_succ]
                          refine wpAnyH_take (i := 17) (v := ?v17d) rfl (by kernel_rfl) (by kernel_rfl) (by kernel_rfl) (fun _ _ _ h => h) (Or.inl ⟨by rfl, ?hy17d⟩) (by assumption) ?rest17d
                          case hy17d => (intro w hSw; (try dsimp only at hSw); first | (go_simp; done) | (go_simp; with_reducible rfl))
                          try simp only [Act.put, List.getElem_toArray, List.getElem_cons_succ, List.getElem_cons_zero, List.setIfInBounds_toArray, List.set_cons_zero, List.set_cons_succ]
                          refine wpAnyH_take (i := 18) (v := ?v18d) rfl (by kernel_rfl) (by kernel_rfl) (by kernel_rfl) (fun _ _ _ h => h) (Or.inl ⟨by rfl, ?hy18d⟩) (by assumption) ?rest18d
                          case hy18d => (intro w hSw; (try dsimp only at hSw); first | (go_simp; done) | (go_simp; with_reducible rfl))
                          try simp only [Act.put, List.getElem_toArray, List.getElem_cons_succ, List.getElem_cons_zero, List.setIfInBounds_toArray, List.set_cons_zero, List.set_cons_succ]
                          refine wpAnyH_take (i := 19) (v := ?v19d) rfl (by kernel_rfl) (by kernel_rfl) (by kernel_rfl) (fun _ _ _ h => h) (Or.inl ⟨by rfl, ?hy19d⟩) (by assumption) ?rest19d
                          case hy19d => (intro w hSw; (try dsimp only at hSw); first | (go_simp; done) | (go_simp; with_reducible rfl))
                          try simp only [Act.put, List.getElem_toArray, List.getElem_cons_succ, List.getElem_cons_zero, List.setIfInBounds_toArray, List.set_cons_zero, List.set_cons_succ]
                          refine wpAnyH_take (i := 20) (v := ?v20d) rfl (by kernel_rfl) (by kernel_rfl) (by kernel_rfl) (fun _ _ _ h => h) (Or.inl ⟨by rfl, ?hy20d⟩) (by assumption) ?rest20d
                          case hy20d => (intro w hSw; (try dsimp only at hSw); first | (go_simp; done) | (go_simp; with_reducible rfl))
                          try simp only [Act.put, List.getElem_toArray, List.getElem_cons_succ, List.getElem_cons_zero, List.setIfInBounds_toArray, List.set_cons_zero, List.set_cons_succ]
                          refine wpAnyH_take (i := 21) (v := ?v21d) rfl (by kernel_rfl) (by kernel_rfl) (by kernel_rfl) (fun _ _ _ h => h) (Or.inl ⟨by rfl, ?hy21d⟩) (by assumption) ?rest21d
                          case hy21d => (intro w hSw; (try dsimp only at hSw); first | (go_simp; done) | (go_simp; with_reducible rfl))
                          try simp only [Act.put, List.getElem_toArray, List.getElem_cons_succ, List.getElem_cons_zero, List.setIfInBounds_toArray, List.set_cons_zero, List.set_cons_succ]
                          refine wpAnyH_take (i := 22) (v := ?v22d) rfl (by kernel_rfl) (by kernel_rfl) (by kernel_rfl) (fun _ _ _ h => h) (Or.inl ⟨by rfl, ?hy22d⟩) (by assumption) ?rest22d
                          case hy22d => (intro w hSw; (try dsimp only at hSw); first | (go_simp; done) | (go_simp; with_reducible rfl))
                          try simp only [Act.put, List.getElem_toArray, List.getElem_cons_succ, List.getElem_cons_zero, List.setIfInBounds_toArray, List.set_cons_zero, List.set_cons_succ]
                          refine wpAnyH_take (i := 23) (v := ?v23d) rfl (by kernel_rfl) (by kernel_rfl) (by kernel_rfl) (fun _ _ _ h => h) (Or.inl ⟨by rfl, ?hy23d⟩) (by assumption) ?rest23d
                          case hy23d => (intro w hSw; (try dsimp only at hSw); first | (go_simp; done) | (go_simp; with_reducible rfl))
                          try simp only [Act.put, List.getElem_toArray, List.getElem_cons_succ, List.getElem_cons_zero, List.setIfInBounds_toArray, List.set_cons_zero, List.set_cons_succ]
                          refine wpAnyH_done (by kernel_rfl) ?_ _
                          all_goals
                            have hbw8 := hd (show Below w.heap.size w w5 from by first | exact hbw7.out.next hb5 | exact (hbw7.out.drew).next hb5)
                            go_wp2_with fail
                            go_ret
                            exact ⟨by rw [hres.out]; rfl, hbw8.out⟩
                        · have hnx := hd (hstep.out (by rw [hokk.out, hres0.out, hpi]; exact ⟨rfl, by omega⟩))
                          clear hpi
                          have gV := (hXq.out.below hbl7.out).1 4 _ rfl
                          have gP := keepCell hbw7.out hprev.out
                          refine wp_region_held_drew (S := (fun w' => w'.cell? ⟨wo.heap.size, 0, none⟩ = some (.int .i64 x.most) ∧ w'.cell? ⟨wo.heap.size, 1, none⟩ = some (.string x.name) ∧ w'.cell? ⟨wo.heap.size, 2, none⟩ = some (.int .i64 x.no) ∧ w'.cell? ⟨wo.heap.size, 3, none⟩ = some (.bool x.must) ∧ w'.cell? ⟨wo.heap.size, 4, none⟩ = some (.slice a4 x.parts.length c4) ∧ w'.cell? ⟨w6.heap.size, 0, none⟩ = some (.int .i64 y.of) ∧ w'.cell? ⟨w6.heap.size, 1, none⟩ = some (.string y.name) ∧ w'.cell? ⟨w6.heap.size, 2, none⟩ = some (.int .i64 y.no) ∧ w'.cell? ⟨w6.heap.size, 3, none⟩ = some (.bool y.must) ∧ w'.cell? ⟨w6.heap.size, 4, none⟩ = some (.int .i64 y.most) ∧ w'.cell? ⟨w6.heap.size, 5, none⟩ = some (.slice a6 y.parts.length c6) ∧ w'.cell? ⟨w.heap.size, 4, none⟩ = some (.slice (some ⟨b4, 0, none⟩) v.parts.length cV) ∧ w'.cell? ⟨b4, m * 5 + 2, none⟩ = some (.int .i64 pn))) (by kernel_rfl) ?_ (fun hHeld => ?_)
                          · first | (refine ⟨?_, ?_, ?_, ?_, ?_, ?_, ?_, ?_, ?_, ?_, ?_, ?_, ?_⟩ <;> assumption) | go_keep
                          refine wpAnyH_take (i := 0) (v := ?v0e) rfl (by kernel_rfl) (by kernel_rfl) (by kernel_rfl) (fun _ _ _ h => h) (Or.inl ⟨by rfl, ?hy0e⟩) (by assumption) ?rest0e
                          case hy0e => (intro w hSw; (try dsimp only at hSw); first | (go_simp; done) | (go_simp; with_reducible rfl))
                          try simp only [Act.put, List.getElem_toArray, List.getElem_cons_zero, List.setIfInBounds_toArray, List.set_cons_zero, List.set_cons_succ]
                          refine wpAnyH_take (i := 1) (v := ?v1e) rfl (by kernel_rfl) (by kernel_rfl) (by kernel_rfl) (fun _ _ _ h => h) (Or.inl ⟨by rfl, ?hy1e⟩) (by assumption) ?rest1e
                          case hy1e => (intro w hSw; (try dsimp only at hSw); first | (go_simp; done) | (go_simp; with_reducible rfl))
                          try simp only [Act.put, List.getElem_toArray, List.getElem_cons_succ, List.getElem_cons_zero, List.setIfInBounds_toArray, List.set_cons_zero, List.set_cons_succ]
                          refine wpAnyH_take (i := 2) (v := ?v2e) rfl (by kernel_rfl) (by kernel_rfl) (by kernel_rfl) (fun _ _ _ h => h) (Or.inl ⟨by rfl, ?hy2e⟩) (by assumption) ?rest2e
                          case hy2e => (intro w hSw; (try dsimp only at hSw); first | (go_simp; done) | (go_simp; with_reducible rfl))
                          try simp only [Act.put, List.getElem_toArray, List.getElem_cons_succ, List.getElem_cons_zero, List.setIfInBounds_toArray, List.set_cons_zero, List.set_cons_succ]
                          refine wpAnyH_take (i := 3) (v := ?v3e) rfl (by kernel_rfl) (by kernel_rfl) (by kernel_rfl) (fun _ _ _ h => h) (Or.inl ⟨by rfl, ?hy3e⟩) (by assumption) ?rest3e
                          case hy3e => (intro w hSw; (try dsimp only at hSw); first | (go_simp; done) | (go_simp; with_reducible rfl))
                          try simp only [Act.put, List.getElem_toArray, List.getElem_cons_succ, List.getElem_cons_zero, List.setIfInBounds_toArray, List.set_cons_zero, List.set_cons_succ]
                          refine wpAnyH_take (i := 4) (v := ?v4e) rfl (by kernel_rfl) (by kernel_rfl) (by kernel_rfl) (fun _ _ _ h => h) (Or.inl ⟨by rfl, ?hy4e⟩) (by assumption) ?rest4e
                          case hy4e => (intro w hSw; (try dsimp only at hSw); first | (go_simp; done) | (go_simp; with_reducible rfl))
                          try simp only [Act.put, List.getElem_toArray, List.getElem_cons_succ, List.getElem_cons_zero, List.setIfInBounds_toArray, List.set_cons_zero, List.set_cons_succ]
                          refine wpAnyH_ready (rs := [5]) (by kernel_rfl) (by simp) ?_
                          refine AllReadyH.cons (o := _) rfl (fun K hK => ?_) AllReadyH.nil
                          go_simp
                          go_at_call 73; refine (cf.out _ (by first | exact hbw7.out.drew | exact hbw7.out)).mono ?_; rintro e' w5 ⟨rfl, hb5⟩
                          try go_simp
                          refine hK.out _ _ ?_ (fun hHeld => ?_)
                          · obtain ⟨kk0, kk1, kk2, kk3, kk4, kk5, kk6, kk7, kk8, kk9, kk10, kk11, kk12⟩ := hHeld; exact ⟨keepCell hb5 kk0, keepCell hb5 kk1, keepCell hb5 kk2, keepCell hb5 kk3, keepCell hb5 kk4, keepCell hb5 kk5, keepCell hb5 kk6, keepCell hb5 kk7, keepCell hb5 kk8, keepCell hb5 kk9, keepCell hb5 kk10, keepCell hb5 kk11, keepCell hb5 kk12⟩
                          clear hK K
                          try simp only [Act.put, List.getElem_toArray, List.getElem_cons_succ, List.getElem_cons_zero, List.setIfInBounds_toArray, List.set_cons_zero, List.set_cons_succ]
                          refine wpAnyH_take (i := 6) (v := ?v6e) rfl (by kernel_rfl) (by kernel_rfl) (by kernel_rfl) (fun _ _ _ h => h) (Or.inl ⟨by rfl, ?hy6e⟩) (by assumption) ?rest6e
                          case hy6e => (intro w hSw; (try dsimp only at hSw); first | (go_simp; done) | (go_simp; with_reducible rfl))
                          try simp only [Act.put, List.getElem_toArray, List.getElem_cons_succ, List.getElem_cons_zero, List.setIfInBounds_toArray, List.set_cons_zero, List.set_cons_succ]
                          refine wpAnyH_take (i := 7) (v := ?v7e) rfl (by kernel_rfl) (by kernel_rfl) (by kernel_rfl) (fun _ _ _ h => h) (Or.inl ⟨by rfl, ?hy7e⟩) (by assumption) ?rest7e
                          case hy7e => (intro w hSw; (try dsimp only at hSw); first | (go_simp; done) | (go_simp; with_reducible rfl))
                          try simp only [Act.put, List.getElem_toArray, List.getElem_cons_succ, List.getElem_cons_zero, List.setIfInBounds_toArray, List.set_cons_zero, List.set_cons_succ]
                          refine wpAnyH_take (i := 8) (v := ?v8e) rfl (by kernel_rfl) (by kernel_rfl) (by kernel_rfl) (fun _ _ _ h => h) (Or.inl ⟨by rfl, ?hy8e⟩) (by assumption) ?rest8e
                          case hy8e => (intro w hSw; (try dsimp only at hSw); first | (go_simp; done) | (go_simp; with_reducible rfl))
                          try simp only [Act.put, List.getElem_toArray, List.getElem_cons_succ, List.getElem_cons_zero, List.setIfInBounds_toArray, List.set_cons_zero, List.set_cons_succ]
                          refine wpAnyH_take (i := 9) (v := ?v9e) rfl (by kernel_rfl) (by kernel_rfl) (by kernel_rfl) (fun _ _ _ h => h) (Or.inl ⟨by rfl, ?hy9e⟩) (by assumption) ?rest9e
                          case hy9e => (intro w hSw; (try dsimp only at hSw); first | (go_simp; done) | (go_simp; with_reducible rfl))
                          try simp only [Act.put, List.getElem_toArray, List.getElem_cons_succ, List.getElem_cons_zero, List.setIfInBounds_toArray, List.set_cons_zero, List.set_cons_succ]
                          refine wpAnyH_take (i := 10) (v := ?v10e) rfl (by kernel_rfl) (by kernel_rfl) (by kernel_rfl) (fun _ _ _ h => h) (Or.inl ⟨by rfl, ?hy10e⟩) (by assumption) ?rest10e
                          case hy10e => (intro w hSw; (try dsimp only at hSw); first | (go_simp; done) | (go_simp; with_reducible rfl))
                          try simp only [Act.put, List.getElem_toArray, List.getElem_cons_succ, List.getElem_cons_zero, List.setIfInBounds_toArray, List.set_cons_zero, List.set_cons_succ]
                          refine wpAnyH_take (i := 11) (v := ?v11e) rfl (by kernel_rfl) (by kernel_rfl) (by kernel_rfl) (fun _ _ _ h => h) (Or.inl ⟨by rfl, ?hy11e⟩) (by assumption) ?rest11e
                          case hy11e => (intro w hSw; (try dsimp only at hSw); first | (go_simp; done) | (go_simp; with_reducible rfl))
                          try simp only [Act.put, List.getElem_toArray, List.getElem_cons_succ, List.getElem_cons_zero, List.setIfInBounds_toArray, List.set_cons_zero, List.set_cons_succ]
                          refine wpAnyH_take (i := 12) (v := ?v12e) rfl (by kernel_rfl) (by kernel_rfl) (by kernel_rfl) (fun _ _ _ h => h) (Or.inl ⟨by rfl, ?hy12e⟩) (by assumption) ?rest12e
                          case hy12e => (intro w hSw; (try dsimp only at hSw); first | (go_simp; done) | (go_simp; with_reducible rfl))
                          try simp only [Act.put, List.getElem_toArray, List.getElem_cons_succ, List.getElem_cons_zero, List.setIfInBounds_toArray, List.set_cons_zero, List.set_cons_succ]
                          refine wpAnyH_take (i := 13) (v := ?v13e) rfl (by kernel_rfl) (by kernel_rfl) (by kernel_rfl) (fun _ _ _ h => h) (Or.inl ⟨by rfl, ?hy13e⟩) (by assumption) ?rest13e
                          case hy13e => (intro w hSw; (try dsimp only at hSw); first | (go_simp; done) | (go_simp; with_reducible rfl))
                          try simp only [Act.put, List.getElem_toArray, List.getElem_cons_succ, List.getElem_cons_zero, List.setIfInBounds_toArray, List.set_cons_zero, List.set_cons_succ]
                          refine wpAnyH_take (i := 14) (v := ?v14e) rfl (by kernel_rfl) (by kernel_rfl) (by kernel_rfl) (fun _ _ _ h => h) (Or.inl ⟨by rfl, ?hy14e⟩) (by assumption) ?rest14e
                          case hy14e => (intro w hSw; (try dsimp only at hSw); first | (go_simp; done) | (go_simp; with_reducible rfl))
                          try simp only [Act.put, List.getElem_toArray, List.getElem_cons_succ, List.getElem_cons_zero, List.setIfInBounds_toArray, List.set_cons_zero, List.set_cons_succ]
                          refine wpAnyH_take (i := 15) (v := ?v15e) rfl (by kernel_rfl) (by kernel_rfl) (by kernel_rfl) (fun _ _ _ h => h) (Or.inl ⟨by rfl, ?hy15e⟩) (by assumption) ?rest15e
                          case hy15e => (intro w hSw; (try dsimp only at hSw); first | (go_simp; done) | (go_simp; with_reducible rfl))
                          try simp only [Act.put, List.getElem_toArray, List.getElem_cons_succ, List.getElem_cons_zero, List.setIfInBounds_toArray, List.set_cons_zero, List.set_cons_succ]
                          refine wpAnyH_take (i := 16) (v := ?v16e) rfl (by kernel_rfl) (by kernel_rfl) (by kernel_rfl) (fun _ _ _ h => h) (Or.inl ⟨by rfl, ?hy16e⟩) (by assumption) ?rest16e
                          case hy16e => (intro w hSw; (try dsimp only at hSw); first | (go_simp; done) | (go_simp; with_reducible rfl))
                          try simp only [Act.put, List.getElem_toArray, List.getElem_cons_succ, List.getElem_cons_zero, List.setIfInBounds_toArray, List.set_cons_zero, List.set_cons_succ]
                          refine wpAnyH_take (i := 17) (v := ?v17e) rfl (by kernel_rfl) (by kernel_rfl) (by kernel_rfl) (fun _ _ _ h => h) (Or.inl ⟨by rfl, ?hy17e⟩) (by assumption) ?rest17e
                          case hy17e => (intro w hSw; (try dsimp only at hSw); first | (go_simp; done) | (go_simp; with_reducible rfl))
                          try simp only [Act.put, List.getElem_toArray, List.getElem_cons_succ, List.getElem_cons_zero, List.setIfInBounds_toArray, List.set_cons_zero, List.set_cons_succ]
                          refine wpAnyH_take (i := 18) (v := ?v18e) rfl (by kernel_rfl) (by kernel_rfl) (by kernel_rfl) (fun _ _ _ h => h) (Or.inl ⟨by rfl, ?hy18e⟩) (by assumption) ?rest18e
                          case hy18e => (intro w hSw; (try dsimp only at hSw); first | (go_simp; done) | (go_simp; with_reducible rfl))
                          try simp only [Act.put, List.getElem_toArray, List.getElem_cons_succ, List.getElem_cons_zero, List.setIfInBounds_toArray, List.set_cons_zero, List.set_cons_succ]
                          refine wpAnyH_take (i := 19) (v := ?v19e) rfl (by kernel_rfl) (by kernel_rfl) (by kernel_rfl) (fun _ _ _ h => h) (Or.inl ⟨by rfl, ?hy19e⟩) (by assumption) ?rest19e
                          case hy19e => (intro w hSw; (try dsimp only at hSw); first | (go_simp; done) | (go_simp; with_reducible rfl))
                          try simp only [Act.put, List.getElem_toArray, List.getElem_cons_succ, List.getElem_cons_zero, List.setIfInBounds_toArray, List.set_cons_zero, List.set_cons_succ]
                          refine wpAnyH_take (i := 20) (v := ?v20e) rfl (by kernel_rfl) (by kernel_rfl) (by kernel_rfl) (fun _ _ _ h => h) (Or.inl ⟨by rfl, ?hy20e⟩) (by assumption) ?rest20e
                          case hy20e => (intro w hSw; (try dsimp only at hSw); first | (go_simp; done) | (go_simp; with_reducible rfl))
                          try simp only [Act.put, List.getElem_toArray, List.getElem_cons_succ, List.getElem_cons_zero, List.setIfInBounds_toArray, List.set_cons_zero, List.set_cons_succ]
                          refine wpAnyH_take (i := 21) (v := ?v21e) rfl (by kernel_rfl) (by kernel_rfl) (by kernel_rfl) (fun _ _ _ h => h) (Or.inl ⟨by rfl, ?hy21e⟩) (by assumption) ?rest21e
                          case hy21e => (intro w hSw; (try dsimp only at hSw); first | (go_simp; done) | (go_simp; with_reducible rfl))
                          try simp only [Act.put, List.getElem_toArray, List.getElem_cons_succ, List.getElem_cons_zero, List.setIfInBounds_toArray, List.set_cons_zero, List.set_cons_succ]
                          refine wpAnyH_take (i := 22) (v := ?v22e) rfl (by kernel_rfl) (by kernel_rfl) (by kernel_rfl) (fun _ _ _ h => h) (Or.inl ⟨by rfl, ?hy22e⟩) (by assumption) ?rest22e
                          case hy22e => (intro w hSw; (try dsimp only at hSw); first | (go_simp; done) | (go_simp; with_reducible rfl))
                          try simp only [Act.put, List.getElem_toArray, List.getElem_cons_succ, List.getElem_cons_zero, List.setIfInBounds_toArray, List.set_cons_zero, List.set_cons_succ]
                          refine wpAnyH_take (i := 23) (v := ?v23e) rfl (by kernel_rfl) (by kernel_rfl) (by kernel_rfl) (fun _ _ _ h => h) (Or.inl ⟨by rfl, ?hy23e⟩) (by assumption) ?rest23e
                          case hy23e => (intro w hSw; (try dsimp only at hSw); first | (go_simp; done) | (go_simp; with_reducible rfl))
                          try simp only [Act.put, List.getElem_toArray, List.getElem_cons_succ, List.getElem_cons_zero, List.setIfInBounds_toArray, List.set_cons_zero, List.set_cons_succ]
                          refine wpAnyH_done (by kernel_rfl) ?_ _
                          all_goals
                            have hbl8 := hd (show Below wq.heap.size wq w5 from by first | exact hbl7.out.next hb5 | exact (hbl7.out.drew).next hb5)
                            go_wp2_with fail
                            go_roundw
                            case rel => exact ⟨m + 1 + 1, by go_num, by omega, hnx, hbl8⟩
                            case measure => simp [intOf]; omega
                  · have hres := hd (hbk.out (by
                      rw [hokk.out]; rintro ⟨⟨j, hf, _⟩, _⟩; exact hn j hf.1 hf.2.1))
                    have hn := hd hn
                    go_wp2_with fail
                    refine cp.out.mono ?_
                    rintro e w6 ⟨_, hp0, hb6⟩
                    obtain rfl := hp0 hn.out
                    have hbw6 := hd (hbw4.out.next hb6)
                    clear hb6 hp0
                    go_wp2_with fail
                    go_quiet (fail)
                    go_wp2_with fail
                    go_ret
                    exact ⟨by rw [hres.out]; rfl, below_drewN (hbw6.out.next (below_a1 _)) _⟩
                · obtain rfl : k = v.parts.length := by omega
                  have hltI : ¬ (v.parts.length : Int) < (v.parts.length : Int) := by omega
                  have hres := hd (hend.out (fun i hi => hok.out i hi))
                  have hXe := hd (hXq.out.below hbl.out)
                  have hYe := hd (hYq.out.below hbl.out)
                  have u0 := hXe.out.1 0 _ rfl; have u1 := hXe.out.1 1 _ rfl; have u2 := hXe.out.1 2 _ rfl; have u3 := hXe.out.1 3 _ rfl; have u4 := hXe.out.1 4 _ rfl
                  have y0 := hYe.out.1 0 _ rfl; have y1 := hYe.out.1 1 _ rfl; have y2 := hYe.out.1 2 _ rfl; have y3 := hYe.out.1 3 _ rfl; have y4 := hYe.out.1 4 _ rfl; have y5 := hYe.out.1 5 _ rfl
                  go_wp2_with fail
                  refine (cm.out _ hbw.out).mono ?_
                  rintro e w6 ⟨rfl, hb6⟩
                  have hbw6 := hd (hbw.out.next hb6)
                  clear hb6
                  go_wp2_with fail
                  go_ret
                  exact ⟨by rw [hres.out]; rfl, hbw6.out⟩
  · have hmm2 : (vm = true ∧ hb = false) ∨ (vm = false ∧ hb = true) := by revert hmm; cases vm <;> cases hb <;> simp
    clear hmm
    rcases hmm2 with ⟨rfl, rfl⟩ | ⟨rfl, rfl⟩
    · have hres := hd (show z = false by
        rw [hz.out]
        simp_all)
      clear hz
      go_enter Try.func73, Try.ntmps73
      go_upto_region 1 with (fail)
      rw [← hW.out]
      clear hW
      go_wp2_with fail
      go_quiet ((go_at_call 106; exact Calls.quiet_of_same ((ch.out _).mono fun e w' h => ⟨h.1, h.2.symm⟩)))
      go_wp2_with fail
      go_ret
      exact ⟨by rw [hres.out]; rfl, below_drewN hbW.out _⟩
    · have hres := hd (show z = false by
        rw [hz.out]
        simp_all)
      clear hz
      go_enter Try.func73, Try.ntmps73
      go_upto_region 1 with (fail)
      rw [← hW.out]
      clear hW
      go_wp2_with fail
      go_quiet ((go_at_call 106; exact Calls.quiet_of_same ((ch.out _).mono fun e w' h => ⟨h.1, h.2.symm⟩)))
      go_wp2_with fail
      go_ret
      exact ⟨by rw [hres.out]; rfl, below_drewN hbW.out _⟩
end Go.Proofs.Ytobahkjbadamhaa
/- FitsSchema of the reference; NodesIn of both sides. -/
namespace Go.Proofs.Ytobahkjbadamhaa
open Go.RowKit
set_option linter.unusedVariables false
set_option maxRecDepth 100000
theorem rootV_s (l : List DNode) (vv : Value) (w : World) (hl : l.length ≤ 1000000) (hn : nodesP l) (v : K) (hv : enc (trees l) v 0 l.length) (h : Sl w vv 5 (l.map DNode.enc)) :
    Calls Try.prog 74 #[.agg #[vv], .int .i64 0] w (XPost HV 5 v w) := by
  have h0 := hn.1.1
  rcases h.open with ⟨a1, c1, rfl, hrr⟩ | ⟨b1, o1, c, rfl, hrr, C⟩
  · exfalso; have : l = [] := by simpa using hrr
    subst this; simp at h0
  · rw [List.length_map]
    have hv' : enc (trees l) v 0 (trees l).length := by rw [trees_len]; exact hv
    have := enc_count v _ _ hv
    exact treeV_s l b1 o1 c hl v 0 w (enc_out hv') C (by omega)
theorem small_nodes {l : List DNode} {b : Int} (hb : b ≤ 1048576) (h : SmallNode b l.length l) : ∀ x ∈ l, x.text.size ≤ 1000000000000 := by
  intro x hx
  obtain ⟨i, hi, rfl⟩ := List.mem_iff_getElem.1 hx
  have := h i hi hi
  omega
theorem small_typesC {l : List DType} {b : Int} (hb : b ≤ 1048576) (h : SmallType b l.length l) : ∀ x ∈ l, x.name.size ≤ 1000000000000 := by
  intro x hx
  obtain ⟨i, hi, rfl⟩ := List.mem_iff_getElem.1 hx
  have := h i hi hi
  omega
theorem namesV {l : List DNode} (hs : ∀ x ∈ l, x.text.size ≤ 1000000000000) {v : K} {a e : Nat} (h : enc (trees l) v a e) : nmOK v :=
  names_ok (l := trees l) (fun x hx => by obtain ⟨y, hy, rfl⟩ := List.mem_map.1 hx; exact hs y hy) h
set_option maxHeartbeats 6400000 in
theorem FitsSchema_s (ln : List DNode) (l : List DType) (vv v : Value) (w : World) (hln : ln.length ≤ 1000000000) (hl : l.length ≤ 1000000000) (hnm : ∀ x ∈ ln, x.text.size ≤ 1000000000000) (hs : ∀ x ∈ l, x.name.size ≤ 1000000000000) (hV : Sl w vv 5 (ln.map DNode.enc)) (h : Sl w v 6 (l.map DType.enc)) (r : Bool) (hr : r = true ↔ fitP ln l) :
    Calls Try.prog 29 #[.agg #[vv], .agg #[v]] w (BoolPost r w) := by
  obtain ⟨g, hg⟩ := boolOf (goodP l)
  obtain ⟨n, hn⟩ := boolOf (nodesP ln)
  have ck := hd (fun w' (hbb : Below w.heap.size w w') => GoodSchema_s l v w' (by omega) hs (h.mono hbb) g hg)
  have cn := hd (fun w' (hbb : Below w.heap.size w w') => nodes_s ln vv w' hln (hV.mono hbb) n hn)
  have r0 := hd (fun w' (hbb : Below w.heap.size w w') hq t ht => root_s l v w' hq t ht (h.mono hbb))
  have r1 := hd (fun w' (hbb : Below w.heap.size w w') (hll : ln.length ≤ 1000000) hq t ht => rootV_s ln vv w' hll hq t ht (hV.mono hbb))
  obtain ⟨a1, c1, rfl, -⟩ := h
  obtain ⟨av, cv, rfl, -⟩ := hV
  simp only [List.length_map] at ck cn r0 r1 ⊢
  replace hr := hd hr
  have hB := hd (below_a2 w (a := .cells #[.slice av ln.length cv] 39) (b := .cells #[.slice a1 l.length c1] 28))
  have qv := hd (show ((w.alloc (.cells #[.slice av ln.length cv] 39)).alloc (.cells #[.slice a1 l.length c1] 28)).cell? ⟨w.heap.size, 0, none⟩ = some (.slice av ln.length cv) by go_simp)
  have qs := hd (show ((w.alloc (.cells #[.slice av ln.length cv] 39)).alloc (.cells #[.slice a1 l.length c1] 28)).cell? ⟨w.heap.size + 1, 0, none⟩ = some (.slice a1 l.length c1) by go_simp)
  cases g with
  | false =>
    have hres := hd (nb hr.out (fun q => absurd (hg.2 q.1) (by simp)))
    clear hg hn
    go_enter Try.func29, Try.ntmps29
    go_upto_region 1 with (fail)
    generalize (w.alloc (.cells #[.slice av ln.length cv] 39)).alloc (.cells #[.slice a1 l.length c1] 28) = W at *
    have qv0 := qv.out
    have qs0 := qs.out
    refine wp_region_held_drew (S := (fun w' => w'.cell? ⟨w.heap.size, 0, none⟩ = some (.slice av ln.length cv) ∧ w'.cell? ⟨w.heap.size + 1, 0, none⟩ = some (.slice a1 l.length c1))) (by kernel_rfl) ?_ (fun hHeld => ?_)
    · first | (refine ⟨?_, ?_⟩ <;> assumption) | go_keep
    refine wpAnyH_take (i := 0) (v := ?v0b) rfl (by kernel_rfl) (by kernel_rfl) (by kernel_rfl) (fun _ _ _ h => h) (Or.inl ⟨by rfl, ?hy0b⟩) (by assumption) ?rest0b
    case hy0b => (intro w hSw; (try dsimp only at hSw); first | (go_simp; done) | (go_simp; with_reducible rfl))
    try simp only [Act.put, List.getElem_toArray, List.getElem_cons_zero, List.setIfInBounds_toArray, List.set_cons_zero, List.set_cons_succ]
    refine wpAnyH_ready (rs := [1]) (by kernel_rfl) (by simp) ?_
    refine AllReadyH.cons (o := _) rfl (fun K hK => ?_) AllReadyH.nil
    go_simp
    go_at_call 50; refine (ck.out _ hB.out.drew).mono ?_; rintro e w2 ⟨rfl, hb2⟩
    try go_simp
    refine hK.out _ _ ?_ (fun hHeld => ?_)
    · obtain ⟨kk0, kk1⟩ := hHeld; exact ⟨keepCell hb2 kk0, keepCell hb2 kk1⟩
    clear hK K
    try simp only [Act.put, List.getElem_toArray, List.getElem_cons_succ, List.getElem_cons_zero, List.setIfInBounds_toArray, List.set_cons_zero, List.set_cons_succ]
    refine wpAnyH_take (i := 2) (v := ?v2b) rfl (by kernel_rfl) (by kernel_rfl) (by kernel_rfl) (fun _ _ _ h => h) (Or.inl ⟨by rfl, ?hy2b⟩) (by assumption) ?rest2b
    case hy2b => (intro w hSw; (try dsimp only at hSw); first | (go_simp; done) | (go_simp; with_reducible rfl))
    try simp only [Act.put, List.getElem_toArray, List.getElem_cons_succ, List.getElem_cons_zero, List.setIfInBounds_toArray, List.set_cons_zero, List.set_cons_succ]
    refine wpAnyH_take (i := 3) (v := undef) rfl (by kernel_rfl) (by kernel_rfl) (by kernel_rfl) (fun _ _ _ h => h) (Or.inr ⟨by rfl, rfl⟩) (by assumption) ?_
    try simp only [Act.put, List.getElem_toArray, List.getElem_cons_succ, List.getElem_cons_zero, List.setIfInBounds_toArray, List.set_cons_zero, List.set_cons_succ]
    refine wpAnyH_take (i := 4) (v := undef) rfl (by kernel_rfl) (by kernel_rfl) (by kernel_rfl) (fun _ _ _ h => h) (Or.inr ⟨by rfl, rfl⟩) (by assumption) ?_
    try simp only [Act.put, List.getElem_toArray, List.getElem_cons_succ, List.getElem_cons_zero, List.setIfInBounds_toArray, List.set_cons_zero, List.set_cons_succ]
    refine wpAnyH_take (i := 5) (v := ?v5b) rfl (by kernel_rfl) (by kernel_rfl) (by kernel_rfl) (fun _ _ _ h => h) (Or.inl ⟨by rfl, ?hy5b⟩) (by assumption) ?rest5b
    case hy5b => (intro w hSw; (try dsimp only at hSw); first | (go_simp; done) | (go_simp; with_reducible rfl))
    try simp only [Act.put, List.getElem_toArray, List.getElem_cons_succ, List.getElem_cons_zero, List.setIfInBounds_toArray, List.set_cons_zero, List.set_cons_succ]
    refine wpAnyH_take (i := 6) (v := ?v6b) rfl (by kernel_rfl) (by kernel_rfl) (by kernel_rfl) (fun _ _ _ h => h) (Or.inl ⟨by rfl, ?hy6b⟩) (by assumption) ?rest6b
    case hy6b => (intro w hSw; (try dsimp only at hSw); first | (go_simp; done) | (go_simp; with_reducible rfl))
    try simp only [Act.put, List.getElem_toArray, List.getElem_cons_succ, List.getElem_cons_zero, List.setIfInBounds_toArray, List.set_cons_zero, List.set_cons_succ]
    refine wpAnyH_take (i := 7) (v := undef) rfl (by kernel_rfl) (by kernel_rfl) (by kernel_rfl) (fun _ _ _ h => h) (Or.inr ⟨by rfl, rfl⟩) (by assumption) ?_
    try simp only [Act.put, List.getElem_toArray, List.getElem_cons_succ, List.getElem_cons_zero, List.setIfInBounds_toArray, List.set_cons_zero, List.set_cons_succ]
    refine wpAnyH_take (i := 8) (v := undef) rfl (by kernel_rfl) (by kernel_rfl) (by kernel_rfl) (fun _ _ _ h => h) (Or.inr ⟨by rfl, rfl⟩) (by assumption) ?_
    try simp only [Act.put, List.getElem_toArray, List.getElem_cons_succ, List.getElem_cons_zero, List.setIfInBounds_toArray, List.set_cons_zero, List.set_cons_succ]
    refine wpAnyH_take (i := 9) (v := undef) rfl (by kernel_rfl) (by kernel_rfl) (by kernel_rfl) (fun _ _ _ h => h) (Or.inr ⟨by rfl, rfl⟩) (by assumption) ?_
    try simp only [Act.put, List.getElem_toArray, List.getElem_cons_succ, List.getElem_cons_zero, List.setIfInBounds_toArray, List.set_cons_zero, List.set_cons_succ]
    refine wpAnyH_take (i := 10) (v := undef) rfl (by kernel_rfl) (by kernel_rfl) (by kernel_rfl) (fun _ _ _ h => h) (Or.inr ⟨by rfl, rfl⟩) (by assumption) ?_
    try simp only [Act.put, List.getElem_toArray, List.getElem_cons_succ, List.getElem_cons_zero, List.setIfInBounds_toArray, List.set_cons_zero, List.set_cons_succ]
    refine wpAnyH_take (i := 11) (v := undef) rfl (by kernel_rfl) (by kernel_rfl) (by kernel_rfl) (fun _ _ _ h => h) (Or.inr ⟨by rfl, rfl⟩) (by assumption) ?_
    try simp only [Act.put, List.getElem_toArray, List.getElem_cons_succ, List.getElem_cons_zero, List.setIfInBounds_toArray, List.set_cons_zero, List.set_cons_succ]
    refine wpAnyH_take (i := 12) (v := ?v12b) rfl (by kernel_rfl) (by kernel_rfl) (by kernel_rfl) (fun _ _ _ h => h) (Or.inl ⟨by rfl, ?hy12b⟩) (by assumption) ?rest12b
    case hy12b => (intro w hSw; (try dsimp only at hSw); first | (go_simp; done) | (go_simp; with_reducible rfl))
    try simp only [Act.put, List.getElem_toArray, List.getElem_cons_succ, List.getElem_cons_zero, List.setIfInBounds_toArray, List.set_cons_zero, List.set_cons_succ]
    refine wpAnyH_take (i := 13) (v := ?v13b) rfl (by kernel_rfl) (by kernel_rfl) (by kernel_rfl) (fun _ _ _ h => h) (Or.inl ⟨by rfl, ?hy13b⟩) (by assumption) ?rest13b
    case hy13b => (intro w hSw; (try dsimp only at hSw); first | (go_simp; done) | (go_simp; with_reducible rfl))
    try simp only [Act.put, List.getElem_toArray, List.getElem_cons_succ, List.getElem_cons_zero, List.setIfInBounds_toArray, List.set_cons_zero, List.set_cons_succ]
    refine wpAnyH_done (by kernel_rfl) ?_ _
    have hb10 := hd (hB.out.drew.next hb2)
    go_wp2_with fail
    go_ret
    exact ⟨by rw [hres.out]; rfl, hb10.out⟩
  | true =>
    have hgp := hg.1 rfl
    cases n with
    | false =>
      have hres := hd (nb hr.out (fun q => by
        obtain ⟨_, t, ht, hf⟩ := q
        exact absurd (hn.2 ((nodes_tree ln).2 ⟨hf.1, hf.2.choose, hf.2.choose_spec.1⟩)) (by simp)))
      clear hg hn
      go_enter Try.func29, Try.ntmps29
      go_upto_region 1 with (fail)
      generalize (w.alloc (.cells #[.slice av ln.length cv] 39)).alloc (.cells #[.slice a1 l.length c1] 28) = W at *
      have qv0 := qv.out
      have qs0 := qs.out
      refine wp_region_held_drew (S := (fun w' => w'.cell? ⟨w.heap.size, 0, none⟩ = some (.slice av ln.length cv) ∧ w'.cell? ⟨w.heap.size + 1, 0, none⟩ = some (.slice a1 l.length c1))) (by kernel_rfl) ?_ (fun hHeld => ?_)
      · first | (refine ⟨?_, ?_⟩ <;> assumption) | go_keep
      refine wpAnyH_take (i := 0) (v := ?v0c) rfl (by kernel_rfl) (by kernel_rfl) (by kernel_rfl) (fun _ _ _ h => h) (Or.inl ⟨by rfl, ?hy0c⟩) (by assumption) ?rest0c
      case hy0c => (intro w hSw; (try dsimp only at hSw); first | (go_simp; done) | (go_simp; with_reducible rfl))
      try simp only [Act.put, List.getElem_toArray, List.getElem_cons_zero, List.setIfInBounds_toArray, List.set_cons_zero, List.set_cons_succ]
      refine wpAnyH_ready (rs := [1]) (by kernel_rfl) (by simp) ?_
      refine AllReadyH.cons (o := _) rfl (fun K hK => ?_) AllReadyH.nil
      go_simp
      go_at_call 50; refine (ck.out _ hB.out.drew).mono ?_; rintro e w2 ⟨rfl, hb2⟩
      try go_simp
      refine hK.out _ _ ?_ (fun hHeld => ?_)
      · obtain ⟨kk0, kk1⟩ := hHeld; exact ⟨keepCell hb2 kk0, keepCell hb2 kk1⟩
      clear hK K
      try simp only [Act.put, List.getElem_toArray, List.getElem_cons_succ, List.getElem_cons_zero, List.setIfInBounds_toArray, List.set_cons_zero, List.set_cons_succ]
      refine wpAnyH_take (i := 2) (v := ?v2c) rfl (by kernel_rfl) (by kernel_rfl) (by kernel_rfl) (fun _ _ _ h => h) (Or.inl ⟨by rfl, ?hy2c⟩) (by assumption) ?rest2c
      case hy2c => (intro w hSw; (try dsimp only at hSw); first | (go_simp; done) | (go_simp; with_reducible rfl))
      try simp only [Act.put, List.getElem_toArray, List.getElem_cons_succ, List.getElem_cons_zero, List.setIfInBounds_toArray, List.set_cons_zero, List.set_cons_succ]
      refine wpAnyH_take (i := 3) (v := ?v3c) rfl (by kernel_rfl) (by kernel_rfl) (by kernel_rfl) (fun _ _ _ h => h) (Or.inl ⟨by rfl, ?hy3c⟩) (by assumption) ?rest3c
      case hy3c => (intro w hSw; (try dsimp only at hSw); first | (go_simp; done) | (go_simp; with_reducible rfl))
      try simp only [Act.put, List.getElem_toArray, List.getElem_cons_succ, List.getElem_cons_zero, List.setIfInBounds_toArray, List.set_cons_zero, List.set_cons_succ]
      refine wpAnyH_ready (rs := [4]) (by kernel_rfl) (by simp) ?_
      refine AllReadyH.cons (o := _) rfl (fun K hK => ?_) AllReadyH.nil
      go_simp
      go_at_call 72; refine (cn.out _ (hB.out.drew.next hb2)).mono ?_; rintro e w3 ⟨rfl, hb3⟩
      try go_simp
      refine hK.out _ _ ?_ (fun hHeld => ?_)
      · obtain ⟨kk0, kk1⟩ := hHeld; exact ⟨keepCell hb3 kk0, keepCell hb3 kk1⟩
      clear hK K
      try simp only [Act.put, List.getElem_toArray, List.getElem_cons_succ, List.getElem_cons_zero, List.setIfInBounds_toArray, List.set_cons_zero, List.set_cons_succ]
      refine wpAnyH_take (i := 5) (v := ?v5c) rfl (by kernel_rfl) (by kernel_rfl) (by kernel_rfl) (fun _ _ _ h => h) (Or.inl ⟨by rfl, ?hy5c⟩) (by assumption) ?rest5c
      case hy5c => (intro w hSw; (try dsimp only at hSw); first | (go_simp; done) | (go_simp; with_reducible rfl))
      try simp only [Act.put, List.getElem_toArray, List.getElem_cons_succ, List.getElem_cons_zero, List.setIfInBounds_toArray, List.set_cons_zero, List.set_cons_succ]
      refine wpAnyH_take (i := 6) (v := ?v6c) rfl (by kernel_rfl) (by kernel_rfl) (by kernel_rfl) (fun _ _ _ h => h) (Or.inl ⟨by rfl, ?hy6c⟩) (by assumption) ?rest6c
      case hy6c => (intro w hSw; (try dsimp only at hSw); first | (go_simp; done) | (go_simp; with_reducible rfl))
      try simp only [Act.put, List.getElem_toArray, List.getElem_cons_succ, List.getElem_cons_zero, List.setIfInBounds_toArray, List.set_cons_zero, List.set_cons_succ]
      refine wpAnyH_take (i := 7) (v := undef) rfl (by kernel_rfl) (by kernel_rfl) (by kernel_rfl) (fun _ _ _ h => h) (Or.inr ⟨by rfl, rfl⟩) (by assumption) ?_
      try simp only [Act.put, List.getElem_toArray, List.getElem_cons_succ, List.getElem_cons_zero, List.setIfInBounds_toArray, List.set_cons_zero, List.set_cons_succ]
      refine wpAnyH_take (i := 8) (v := undef) rfl (by kernel_rfl) (by kernel_rfl) (by kernel_rfl) (fun _ _ _ h => h) (Or.inr ⟨by rfl, rfl⟩) (by assumption) ?_
      try simp only [Act.put, List.getElem_toArray, List.getElem_cons_succ, List.getElem_cons_zero, List.setIfInBounds_toArray, List.set_cons_zero, List.set_cons_succ]
      refine wpAnyH_take (i := 9) (v := undef) rfl (by kernel_rfl) (by kernel_rfl) (by kernel_rfl) (fun _ _ _ h => h) (Or.inr ⟨by rfl, rfl⟩) (by assumption) ?_
      try simp only [Act.put, List.getElem_toArray, List.getElem_cons_succ, List.getElem_cons_zero, List.setIfInBounds_toArray, List.set_cons_zero, List.set_cons_succ]
      refine wpAnyH_take (i := 10) (v := undef) rfl (by kernel_rfl) (by kernel_rfl) (by kernel_rfl) (fun _ _ _ h => h) (Or.inr ⟨by rfl, rfl⟩) (by assumption) ?_
      try simp only [Act.put, List.getElem_toArray, List.getElem_cons_succ, List.getElem_cons_zero, List.setIfInBounds_toArray, List.set_cons_zero, List.set_cons_succ]
      refine wpAnyH_take (i := 11) (v := undef) rfl (by kernel_rfl) (by kernel_rfl) (by kernel_rfl) (fun _ _ _ h => h) (Or.inr ⟨by rfl, rfl⟩) (by assumption) ?_
      try simp only [Act.put, List.getElem_toArray, List.getElem_cons_succ, List.getElem_cons_zero, List.setIfInBounds_toArray, List.set_cons_zero, List.set_cons_succ]
      refine wpAnyH_take (i := 12) (v := ?v12c) rfl (by kernel_rfl) (by kernel_rfl) (by kernel_rfl) (fun _ _ _ h => h) (Or.inl ⟨by rfl, ?hy12c⟩) (by assumption) ?rest12c
      case hy12c => (intro w hSw; (try dsimp only at hSw); first | (go_simp; done) | (go_simp; with_reducible rfl))
      try simp only [Act.put, List.getElem_toArray, List.getElem_cons_succ, List.getElem_cons_zero, List.setIfInBounds_toArray, List.set_cons_zero, List.set_cons_succ]
      refine wpAnyH_take (i := 13) (v := ?v13c) rfl (by kernel_rfl) (by kernel_rfl) (by kernel_rfl) (fun _ _ _ h => h) (Or.inl ⟨by rfl, ?hy13c⟩) (by assumption) ?rest13c
      case hy13c => (intro w hSw; (try dsimp only at hSw); first | (go_simp; done) | (go_simp; with_reducible rfl))
      try simp only [Act.put, List.getElem_toArray, List.getElem_cons_succ, List.getElem_cons_zero, List.setIfInBounds_toArray, List.set_cons_zero, List.set_cons_succ]
      refine wpAnyH_done (by kernel_rfl) ?_ _
      have hb10 := hd (hB.out.drew.next (hb2.next hb3))
      go_wp2_with fail
      go_ret
      exact ⟨by rw [hres.out]; rfl, hb10.out⟩
    | true =>
      have hnp := hn.1 rfl
      obtain ⟨t, ht⟩ := good_tree hgp
      obtain ⟨hhd, u, hu⟩ := (nodes_tree ln).1 hnp
      have hsm := good_small ht.2
      have hln40 : ln.length ≤ 40 := hnp.1.2
      have hcu := enc_count u _ _ hu
      have hz := hd (show r = fitsB t u by
        rw [Bool.eq_iff_iff, hr.out, fitP_of hgp ht]
        constructor
        · rintro ⟨_, v', h1, h2⟩
          have e : v' = u := by
            have e1 : enc (trees ln) v' 0 (trees ln).length := by rw [trees_len]; exact h1
            have e2 : enc (trees ln) u 0 (trees ln).length := by rw [trees_len]; exact hu
            exact Sb.uniq v' 0 u (enc_out e1) (enc_out e2)
          rw [← e]; exact h2
        · intro h; exact ⟨hhd, u, hu, h⟩)
      have cu := hd (fun (rV rT : List Value) (w' : World) (lv hv lo hi : Nat) h1 h2 hV hT => fitV_s t u rV rT w' lv hv lo hi h1 h2 (by omega) (by omega) (namesV hnm hu) ht.2.2.2.1 hV hT)
      have rA0 := hd (fun w' (hbb : Below w.heap.size w w') => r1.out w' hbb (by omega) hnp u hu)
      have rB0 := hd (fun w' (hbb : Below w.heap.size w w') => r0.out w' hbb hgp t ht)
      clear hg hn hcu hsm ht hgp hhd hu hnp r0 r1 hs hnm hl hln
      generalize fitsB t u = z at *
      go_enter Try.func29, Try.ntmps29
      go_upto_region 1 with (fail)
      generalize (w.alloc (.cells #[.slice av ln.length cv] 39)).alloc (.cells #[.slice a1 l.length c1] 28) = W at *
      have qv0 := qv.out
      have qs0 := qs.out
      go_region_held3 (fun w' => w'.cell? ⟨w.heap.size, 0, none⟩ = some (.slice av ln.length cv) ∧ w'.cell? ⟨w.heap.size + 1, 0, none⟩ = some (.slice a1 l.length c1))
        (first | go_keep | (go_split_ands; (repeat' apply And.intro) <;> first | exact keepCell hbA (by assumption) | exact keepCell hbB (by assumption) | exact keepCell hb9 (by assumption) | exact keepCell hb3 (by assumption) | exact keepCell hb2 (by assumption)))
        (first
          | (go_at_call 50; refine (ck.out _ hB.out.drew).mono ?_; rintro e w2 ⟨rfl, hb2⟩; have hBk := hd (hB.out.drew.next hb2))
          | (go_at_call 72; refine (cn.out _ hBk.out).mono ?_; rintro e w3 ⟨rfl, hb3⟩; have hBn := hd (hBk.out.next hb3))
          | (go_at_call 73; refine (cu.out rA rB _ _ _ _ _ hsA hsB hrA.out hrB.out).mono ?_; rintro e w9 ⟨rfl, hb9⟩)
          | (go_at_call 74; refine (rA0.out _ (by first | exact hBn.out | exact hBn.out.next hbB)).mono ?_; rintro e wA ⟨rA, rfl, hrA, hbA⟩; replace hrA := hd hrA; have hsA := Nat.le_refl wA.heap.size; (try replace hrB := hd (hrB.out.below (Nat.le_refl _) hbA)); (try replace hsB := Nat.le_trans hsB hbA.size))
          | (go_at_call 51; refine (rB0.out _ (by first | exact hBn.out | exact hBn.out.next hbA)).mono ?_; rintro e wB ⟨rB, rfl, hrB, hbB⟩; replace hrB := hd hrB; have hsB := Nat.le_refl wB.heap.size; (try replace hrA := hd (hrA.out.below (Nat.le_refl _) hbB)); (try replace hsA := Nat.le_trans hsA hbB.size)))
      all_goals
        have hb10 := hd (show Below w.heap.size w w9 from by first | exact hBn.out.next (hbA.next (hbB.next hb9)) | exact hBn.out.next (hbB.next (hbA.next hb9)))
        go_wp2_with fail
        go_ret
        exact ⟨by rw [hz.out]; rfl, hb10.out⟩
set_option maxHeartbeats 1600000 in
theorem NodesIn_s (ln : List DNode) (l : List DType) (vv v : Value) (w : World) (hln : ln.length ≤ 1000000000) (hl : l.length ≤ 1000000000) (hnm : ∀ x ∈ ln, x.text.size ≤ 1000000000000) (hs : ∀ x ∈ l, x.name.size ≤ 1000000000000) (hV : Sl w vv 5 (ln.map DNode.enc)) (h : Sl w v 6 (l.map DType.enc)) (b : Bool) (hb : b = true ↔ fitP ln l) (r : Int) (hr : (if b = true then (ln.length : Int) else 0) = r) :
    Calls Try.prog 32 #[.agg #[vv], .agg #[v]] w (IBPost r b w) := by
  have ck := hd (fun w' (hbb : Below w.heap.size w w') => FitsSchema_s ln l vv v w' hln hl hnm hs (hV.mono hbb) (h.mono hbb) b hb)
  obtain ⟨a1, c1, rfl, -⟩ := h
  obtain ⟨av, cv, rfl, -⟩ := hV
  simp only [List.length_map] at ck ⊢
  replace hr := hd hr
  clear hb
  cases b with
  | false =>
    have hres := hd (show r = 0 from hr.out.symm)
    go_enter Try.func32, Try.ntmps32
    go_wp2_with fail
    refine (ck.out _ (below_a2 _)).mono ?_
    rintro e w2 ⟨rfl, hb2⟩
    have hB := hd ((below_a2 w).next hb2)
    clear hb2
    go_wp2_with fail
    go_ret2
    exact ⟨by rw [hres.out]; rfl, hB.out⟩
  | true =>
    have hres := hd (show r = (ln.length : Int) from hr.out.symm)
    go_enter Try.func32, Try.ntmps32
    go_wp2_with fail
    refine (ck.out _ (below_a2 _)).mono ?_
    rintro e w2 ⟨rfl, hb2⟩
    have q0 := keepCell hb2 (show World.cell? _ ⟨w.heap.size, 0, none⟩ = some (.slice av ln.length cv) by go_simp)
    have hB := hd ((below_a2 w).next hb2)
    clear hb2
    go_wp2_with fail
    go_ret2
    exact ⟨by rw [hres.out]; rfl, hB.out⟩
set_option maxHeartbeats 1600000 in
theorem NodesIn_i (ln : List DNode) (l : List DType) (vv v : Value) (w : World) (hln : ln.length ≤ 1000000000) (hl : l.length ≤ 1000000000) (hnm : ∀ x ∈ ln, x.text.size ≤ 1000000000000) (hs : ∀ x ∈ l, x.name.size ≤ 1000000000000) (hV : Sl w vv 5 (ln.map DNode.enc)) (h : Sl w v 6 (l.map DType.enc)) (b : Bool) (hb : b = true ↔ fitP ln l) (r : Int) (hr : (if b = true then (ln.length : Int) else 0) = r) :
    Calls Try.prog 33 #[.agg #[vv], .agg #[v]] w (IBPost r b w) := by
  have ck := hd (fun w' (hbb : Below w.heap.size w w') => FitsSchema_i ln l vv v w' hln hl hnm hs (hV.mono hbb) (h.mono hbb) b hb)
  obtain ⟨a1, c1, rfl, -⟩ := h
  obtain ⟨av, cv, rfl, -⟩ := hV
  simp only [List.length_map] at ck ⊢
  replace hr := hd hr
  clear hb
  cases b with
  | false =>
    have hres := hd (show r = 0 from hr.out.symm)
    go_enter Try.func33, Try.ntmps33
    go_wp2_with fail
    refine (ck.out _ (below_a2 _)).mono ?_
    rintro e w2 ⟨rfl, hb2⟩
    have hB := hd ((below_a2 w).next hb2)
    clear hb2
    go_wp2_with fail
    go_ret2
    exact ⟨by rw [hres.out]; rfl, hB.out⟩
  | true =>
    have hres := hd (show r = (ln.length : Int) from hr.out.symm)
    go_enter Try.func33, Try.ntmps33
    go_wp2_with fail
    refine (ck.out _ (below_a2 _)).mono ?_
    rintro e w2 ⟨rfl, hb2⟩
    have q0 := keepCell hb2 (show World.cell? _ ⟨w.heap.size, 0, none⟩ = some (.slice av ln.length cv) by go_simp)
    have hB := hd ((below_a2 w).next hb2)
    clear hb2
    go_wp2_with fail
    go_ret2
    exact ⟨by rw [hres.out]; rfl, hB.out⟩
end Go.Proofs.Ytobahkjbadamhaa

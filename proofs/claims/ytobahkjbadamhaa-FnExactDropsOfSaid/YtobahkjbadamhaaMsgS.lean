/- A message's bytes, read by the reference: l4Leaf, l4Read. -/
import Derived.Test.YtobahkjbadamhaaDecP
import Derived.Test.YtobahkjbadamhaaFlatDef
import Derived.Test.YtobahkjbadamhaaSubS
import Derived.Test.YtobahkjbadamhaaFitVS
import Derived.Test.YtobahkjbadamhaaViewM
import Derived.Deep.RegionLaw
import Derived.Deep.CutRange
import Derived.Deep.Cut
namespace Go.Proofs.Ytobahkjbadamhaa
open Go.RowKit
set_option linter.unusedVariables false
set_option maxRecDepth 100000
def leafN (o mo n : Int) : Bool := decide (o ≠ 3 ∨ (0 ≤ n ∧ n ≤ mo))
set_option maxHeartbeats 800000 in
theorem leaf_s (o mo n : Int) (v1 v2 v3 v4 u1 u2 u3 u5 : Value) (w : World) :
    Calls Try.prog 116 #[.agg #[.int .i64 n, v1, v2, v3, v4], .agg #[.int .i64 o, u1, u2, u3, .int .i64 mo, u5]] w (BoolPost (leafN o mo n) w) := by
  have hB := hd (below_a2 w (a := .cells #[.int .i64 n, v1, v2, v3, v4] 93) (b := .cells #[.int .i64 o, u1, u2, u3, .int .i64 mo, u5] 74))
  have cw := hd (fun w => within_s n 0 mo w (decide (0 ≤ n ∧ n ≤ mo)) rfl)
  by_cases h3 : o = 3
  · have hz := hd (show leafN o mo n = decide (0 ≤ n ∧ n ≤ mo) by simp [leafN, h3])
    subst h3
    generalize decide (0 ≤ n ∧ n ≤ mo) = d at *
    go_enter Try.func116, Try.ntmps116
    go_wp2_with (go_at_call 92; refine (cw.out _).mono ?_; rintro e w' ⟨rfl, rfl⟩)
    go_ret
    exact ⟨by rw [hz.out]; rfl, hB.out⟩
  · have h3b : (o != 3) = true := by simpa using h3
    have hz := hd (show leafN o mo n = true by simp [leafN, h3])
    go_enter Try.func116, Try.ntmps116
    go_wp2_with fail
    go_ret
    exact ⟨by rw [hz.out]; rfl, hB.out⟩
theorem decF_bd {ps : List K} (hr : ∀ p ∈ ps, rightK p) : ∀ {l : List DField} {vs : List K}, decF ps l = some vs → countL vs ≤ wtA l := by
  intro l
  induction l with
  | nil => intro vs h; rw [decF] at h; cases h; simp [countL]
  | cons f l ih =>
    intro vs h
    rw [decF_cons] at h
    rw [wtA_cons]
    obtain ⟨a, ha, h⟩ := Option.bind_eq_some_iff.1 h
    obtain ⟨c, hc, rfl⟩ := Option.map_eq_some_iff.1 h
    have h2 := ih hc
    rw [stepF] at ha
    split at ha
    · cases ha
      rw [List.nil_append]; omega
    · rename_i p hp
      obtain ⟨v, hv, rfl⟩ := Option.map_eq_some_iff.1 ha
      have h1 := part_bd (fun x hx => dec_bd p (hr p (List.mem_of_find?_eq_some hp)) f.no f.data x hx) hv
      rw [List.singleton_append, countL]
      omega
theorem field_kinds2 {f : DField} (h : fieldB f = true) : (f.kind = 0 ∧ numB f.num = true) ∨ f.kind = 2 := by
  by_cases h0 : f.kind = 0
  · left
    refine ⟨h0, ?_⟩
    rw [fieldB, if_pos h0, Bool.and_eq_true, Bool.and_eq_true] at h
    exact h.2.1
  · right
    by_cases h2 : f.kind = 2
    · exact h2
    · rw [fieldB_kind h0 h2] at h; cases h
theorem BoxN.set5 {w : World} {b : Nat} {a0 a1 a2 a3 a4 : Value} (h : BoxN w b [a0, a1, a2, a3, a4]) (u0 u1 u2 u3 u4 : Value) : BoxN (setCells w b 0 [u0, u1, u2, u3, u4]) b [u0, u1, u2, u3, u4] :=
  ((((h.set (i := 0) (by simp) u0).set (i := 1) (by simp) u1).set (i := 2) (by simp) u2).set (i := 3) (by simp) u3).set (i := 4) (by simp) u4
theorem stepF_none {ps : List K} {f : DField} (h : noneP ps f.no) : stepF ps f = some [] := by
  rw [stepF, show ps.find? (byNo f.no) = none from by
    rw [List.find?_eq_none]
    intro x hx
    obtain ⟨i, hi, rfl⟩ := List.getElem_of_mem hx
    have := h i hi
    simpa [byNo] using this]
theorem stepF_first {ps : List K} {f : DField} {j : Nat} (h : firstP ps f.no j) : stepF ps f = (fieldV (ps[j]'h.1) f).map (fun v => [v]) := by
  rw [stepF, show ps.find? (byNo f.no) = some (ps[j]'h.1) from by
    rw [List.find?_eq_some_iff_getElem]
    refine ⟨by simpa [byNo] using h.2.1, j, h.1, rfl, fun i hi => ?_⟩
    have := h.2.2 i hi
    simpa [byNo] using this]
/-- What a call leaves that reads bytes: a tree, which is the bytes' own where they are valid. -/
def DsPost (D : Option K) (n : Nat) (w : World) (e : Ending) (w' : World) : Prop :=
  ∃ (r : List Value) (T : K), e = .returned (.tuple #[.agg r.toArray, .bool D.isSome]) ∧ RepX HV 5 w' w.heap.size w'.heap.size T r ∧ (∀ v, D = some v → T = v) ∧ countK T ≤ n ∧ Below w.heap.size w w'
def PartC (p : K) : Prop := ∀ (b : ByteArray) (rT : List Value) (w : World) (lo hi : Nat), hi ≤ w.heap.size → b.size ≤ 400 → countK p ≤ 1000 → RepT w lo hi p rT →
    Calls Try.prog 115 #[.string b, .agg rT.toArray] w (DsPost (decK p 0 b) (b.size + 1) w)
theorem XSl.nil {sz : Nat} {w : World} {lo hi : Nat} : XSl sz w lo hi (.slice none 0 0) [] := ⟨none, 0, rfl, .inl rfl⟩
theorem repLeaf (n : Int) (s : ByteArray) (no : Int) (w : World) (lo hi : Nat) : RepX HV 5 w lo hi (leafV n s no) [.int .i64 n, .string s, .int .i64 no, .bool false, .slice none 0 0] :=
  RepX.mk (t := leafV n s no) XSl.nil (by rw [show (leafV n s no).parts = [] from rfl, RepXs])
theorem ds_zero {D : Option K} {n : Nat} {w w' : World} (hD : D = none) (hn : 1 ≤ n) (hb : Below w.heap.size w w') : DsPost D n w (.returned (.tuple #[.agg #[.int .i64 0, .string ⟨#[]⟩, .int .i64 0, .bool false, .slice none 0 0], .bool false])) w' :=
  ⟨[.int .i64 0, .string ⟨#[]⟩, .int .i64 0, .bool false, .slice none 0 0], leafV 0 ⟨#[]⟩ 0, by rw [hD]; rfl, repLeaf _ _ _ _ _ _, (fun v h => by rw [hD] at h; cases h), by rw [countK_eq]; simp [leafV, K.parts, countL]; omega, hb⟩
set_option maxHeartbeats 12800000 in
theorem msg_s (t : K) (hr : rightK t) (h5 : t.of = 5) (ih : ∀ p ∈ t.parts, foldB p.of = false → PartC p) (b : ByteArray) (rT : List Value) (w : World) (lo hi : Nat) (hh : hi ≤ w.heap.size) (hb : b.size ≤ 400) (hc : countK t ≤ 1000) (hR : RepT w lo hi t rT) :
    Calls Try.prog 77 #[.string b, .agg rT.toArray] w (DsPost (decK t 0 b) (b.size + 1) w) := by
  obtain ⟨aT, cT, rwT, rfl, hST, hlT, hgT⟩ := hR.open
  have hltT : t.parts.length ≤ 1000000 := by have h1 := len_count t.parts; have h2 := countK_eq t; omega
  have cr := hd (fun w' => read_s b w' hb)
  have hflen := readFs_len b.data.toList
  have hdm := dec_msg hr h5 b
  have hwt := readFs_wt b.data.toList
  have hdl := data_len b
  have hFok := readFs_ok b.data.toList
  have hrps := hd (fun p (hp : p ∈ t.parts) => right_part hr hp)
  have hcps := hd (fun p (hp : p ∈ t.parts) => (show countK p ≤ 1000 from by have h1 := count_part hp; have h2 := countK_eq t; omega))
  have cb := hd (fun no w' (hb : Below w.heap.size w w') => by_s t no aT cT rwT w' lo hi (Nat.le_trans hh hb.size) hltT (hST.same (Same.below hb hh) (Nat.le_refl _) (Nat.le_refl _)) hlT (fun j h1 h2 => (hgT j h1 h2).below hh hb))
  have ih := hd ih
  obtain ⟨F, hF⟩ : ∃ F, readFs b.data.toList = F := ⟨_, rfl⟩
  obtain ⟨D, hD⟩ : ∃ D, decK t 0 b = D := ⟨_, rfl⟩
  obtain ⟨rb, hrb⟩ : ∃ rb, readB b.data.toList = rb := ⟨_, rfl⟩
  have hrf : rfB b.data.toList = (rb && risNB (nosF F)) := by rw [rfB, hrb, hF]
  rw [hF] at cr hflen hdm hwt hFok
  replace hFok := hd hFok
  rw [hrb] at cr
  rw [hD] at hdm ⊢
  rw [hrf] at hdm
  replace hdm := hd hdm
  clear hD hF hrb hrf hR
  replace h5 := hd h5
  have hbW := hd (below_a2 w (a := .cells #[.int .i64 t.of, .string t.name, .int .i64 t.no, .bool t.must, .int .i64 t.most, .slice aT t.parts.length cT] 74) (b := .cells #[.int .i64 0, .string ⟨#[]⟩, .int .i64 0, .bool false, .slice none 0 0] 93))
  have hXt := hd (show BoxN ((w.alloc (.cells #[.int .i64 t.of, .string t.name, .int .i64 t.no, .bool t.must, .int .i64 t.most, .slice aT t.parts.length cT] 74)).alloc (.cells #[.int .i64 0, .string ⟨#[]⟩, .int .i64 0, .bool false, .slice none 0 0] 93)) w.heap.size [.int .i64 t.of, .string t.name, .int .i64 t.no, .bool t.must, .int .i64 t.most, .slice aT t.parts.length cT] from (BoxN.new w _ _).below (below_a1 _))
  have hXr := hd (show BoxN ((w.alloc (.cells #[.int .i64 t.of, .string t.name, .int .i64 t.no, .bool t.must, .int .i64 t.most, .slice aT t.parts.length cT] 74)).alloc (.cells #[.int .i64 0, .string ⟨#[]⟩, .int .i64 0, .bool false, .slice none 0 0] 93)) (w.heap.size + 1) [.int .i64 0, .string ⟨#[]⟩, .int .i64 0, .bool false, .slice none 0 0] from by
    have := BoxN.new (w.alloc (.cells #[.int .i64 t.of, .string t.name, .int .i64 t.no, .bool t.must, .int .i64 t.most, .slice aT t.parts.length cT] 74)) [.int .i64 0, .string ⟨#[]⟩, .int .i64 0, .bool false, .slice none 0 0] 93
    rw [World.size_alloc] at this
    exact this)
  have hszW : ((w.alloc (.cells #[.int .i64 t.of, .string t.name, .int .i64 t.no, .bool t.must, .int .i64 t.most, .slice aT t.parts.length cT] 74)).alloc (.cells #[.int .i64 0, .string ⟨#[]⟩, .int .i64 0, .bool false, .slice none 0 0] 93)).heap.size = w.heap.size + 2 := by simp
  have hret := hd (fun (wr : World) (hw : Below w.heap.size w wr) (h0 : D = none) => (show DsPost D (b.size + 1) w (.returned (.tuple #[.agg #[.int .i64 0, .string ⟨#[]⟩, .int .i64 0, .bool false, .slice none 0 0], .bool false])) (setCells wr (w.heap.size + 1) 0 [.int .i64 0, .string ⟨#[]⟩, .int .i64 0, .bool false, .slice none 0 0]) from
    ds_zero h0 (by omega) (hw.grown (grownBy_setCells (w.heap.size + 1) [.int .i64 0, .string ⟨#[]⟩, .int .i64 0, .bool false, .slice none 0 0] wr 0) hw.size (fun g hg => by cases hg; omega))))
  go_enter Try.func77, Try.ntmps77
  go_upto_region 1 with (fail)
  generalize (w.alloc (.cells #[.int .i64 t.of, .string t.name, .int .i64 t.no, .bool t.must, .int .i64 t.most, .slice aT t.parts.length cT] 74)).alloc (.cells #[.int .i64 0, .string ⟨#[]⟩, .int .i64 0, .bool false, .slice none 0 0] 93) = W at *
  go_wp2_with fail
  refine (cr.out _).mono ?_
  rintro e w2 ⟨v2, rfl, ho2, hb2⟩
  have hbw2 := hd (hbW.out.next hb2)
  have hXr2 := hd (hXr.out.below hb2)
  have hXt2 := hd (hXt.out.below hb2)
  have hzw2 : w.heap.size + 2 ≤ w2.heap.size := by have := hb2.size; omega
  replace ho2 := hd ho2
  clear hb2
  cases rb with
  | false =>
    have h0 := hd (show D = none by rw [hdm.out]; rfl)
    have z0 := hXr2.out.1 0 _ rfl; have rz0 := hXr2.out.2.1 0; have z1 := hXr2.out.1 1 _ rfl; have rz1 := hXr2.out.2.1 1; have z2 := hXr2.out.1 2 _ rfl; have rz2 := hXr2.out.2.1 2; have z3 := hXr2.out.1 3 _ rfl; have rz3 := hXr2.out.2.1 3; have z4 := hXr2.out.1 4 _ rfl; have rz4 := hXr2.out.2.1 4
    go_wp2_with fail
    exact bodyPost_ret (v := .tuple #[.agg #[.int .i64 0, .string ⟨#[]⟩, .int .i64 0, .bool false, .slice none 0 0], .bool false]) (by simp [results, Try.results77, go_sem, z0, z1, z2, z3, z4]) rfl (hret.out _ hbw2.out h0.out)
  | true =>
    obtain ⟨a2, k2, rfl, hrr⟩ := ho2.out.sl
    replace hrr := hd hrr
    simp only [List.length_map] at ho2 ⊢
    have hfl : ∀ g, (Value.slice a2 F.length k2).ownBlock = some g → g < w2.heap.size := fun g hg => (ho2.out.lt g hg).2
    obtain ⟨i0, hi0, hz0, hz1, hz2⟩ := info_parts infoV
    have Hi := hd hi0; have Hz0 := hd hz0; have Hz1 := hd hz1; have Hz2 := hd hz2
    clear hi0 hz0 hz1 hz2
    have hb3 := hd (below_a1 w2 (a := .cells #[.int .i64 0, .string ⟨#[]⟩, .int .i64 0, .bool true, .slice none 0 0] 93))
    have hXo := hd (show BoxN (w2.alloc (.cells #[.int .i64 0, .string ⟨#[]⟩, .int .i64 0, .bool true, .slice none 0 0] 93)) w2.heap.size [.int .i64 0, .string ⟨#[]⟩, .int .i64 0, .bool true, .slice none 0 0] from BoxN.new w2 _ _)
    have hz3 : (w2.alloc (.cells #[.int .i64 0, .string ⟨#[]⟩, .int .i64 0, .bool true, .slice none 0 0] 93)).heap.size = w2.heap.size + 1 := by simp
    go_upto_region 5 with (fail)
    generalize w2.alloc (.cells #[.int .i64 0, .string ⟨#[]⟩, .int .i64 0, .bool true, .slice none 0 0] 93) = W3 at *
    have hbw3 := hd (hbw2.out.next hb3.out)
    have hXt3 := hd (hXt2.out.below hb3.out)
    have hXr3 := hd (hXr2.out.below hb3.out)
    go_wp2_with fail
    go_loopw [25] (fun n wr => ∃ (j : Nat) (vs : List K) (s : Value) (rws : List (List Value)), j ≤ F.length ∧ n = .int .i64 j ∧ Hd (UpTo (nBad (nosF F)) j) ∧ Hd (decF t.parts (F.take j) = some vs) ∧ Hd (vs.length ≤ j) ∧ Hd (BoxN wr w2.heap.size [.int .i64 0, .string ⟨#[]⟩, .int .i64 0, .bool true, s]) ∧ Hd (Own wr (w2.heap.size + 1) 93 5 s rws) ∧ Hd (SepX HV 5 wr (w2.heap.size + 1) s vs rws) ∧ Hd (W3.grownBy wr (some w2.heap.size))) (fun n _ => F.length - (intOf n).toNat)
    case atStart => exact ⟨0, [], .slice none 0 0, [], Nat.zero_le _, rfl, UpTo.zero _, (show decF _ _ = some [] from by rw [List.take_zero, decF]), Nat.le_refl _, hXo.out, Own.nil, SepX.nil, grownBy_refl _ _⟩
    case round =>
      obtain ⟨j, vs, s, rws, hj, rfl, hup, hdec, hvl, hX, hO, hSep, hG⟩ := hrel
      obtain ⟨wo, rfl⟩ : ∃ wo : World, wo = wr := ⟨_, rfl⟩
      have hzG := hG.out.size
      have hbwo := hd (hbw3.out.grown hG.out (by have := hbw3.out.size; exact this) (fun g hg => by cases hg; omega))
      have hXto := hd (hXt3.out.grown hG.out (fun e => by have : w.heap.size = w2.heap.size := Option.some.inj e; omega))
      have hXro := hd (hXr3.out.grown hG.out (fun e => by have : w.heap.size + 1 = w2.heap.size := Option.some.inj e; omega))
      by_cases hlt : j < F.length
      · have hltI : (j : Int) < (F.length : Int) := by omega
        have hbl := hd (hb3.out.grown hG.out hb3.out.size (fun g hg => by cases hg; exact Nat.le_refl _))
        obtain ⟨b1, o1, rfl, C1⟩ := rows_at hrr.out (k := j) (by rw [List.length_map]; exact hlt)
        replace C1 := hd (C1.mono hbl.out)
        obtain ⟨f0, f1, f2, f3⟩ := Cells.rowField F j hlt C1.out
        have hb4 := hd (below_a1 wo (a := .cells #[.int .i64 F[j].no, .int .i64 F[j].kind, .int .i64 F[j].num, .string F[j].data] 125))
        have hX4 := hd (show BoxN (wo.alloc (.cells #[.int .i64 F[j].no, .int .i64 F[j].kind, .int .i64 F[j].num, .string F[j].data] 125)) wo.heap.size [.int .i64 F[j].no, .int .i64 F[j].kind, .int .i64 F[j].num, .string F[j].data] from BoxN.new wo _ _)
        have hprev := hd (fun i (h : i + 1 = j) => (show (wo.alloc (.cells #[.int .i64 F[j].no, .int .i64 F[j].kind, .int .i64 F[j].num, .string F[j].data] 125)).cell? ⟨b1, o1 + i * 4, none⟩ = some (.int .i64 (F[i]'(by omega)).no) ∧ nBad (nosF F) j = decide (F[j].no ≤ (F[i]'(by omega)).no) from
          ⟨keepCell hb4.out (Cells.rowField F i (by omega) C1.out).1, by subst h; rw [nosF, nBad_succ (by simpa using hlt)]; simp⟩))
        have hz0' := hd (fun (h : j = 0) => (show nBad (nosF F) j = false by rw [h]; exact nBad_zero _))
        have hupS := hd (fun (h : nBad (nosF F) j = false) => hup.out.step h)
        have hupF := hd (fun (h : nBad (nosF F) j = true) => (show D = none by rw [hdm.out, risN_false (by rw [nosF, List.length_map]; exact hlt) h]; rfl))
        have hstp := hd (decF_take (ps := t.parts) hlt)
        have hsno := hd (decF_no (ps := t.parts) hlt)
        have hfm : F[j] ∈ F := List.getElem_mem hlt
        have hfk := hd (field_kinds2 (hFok.out _ hfm))
        have hfs : F[j].data.size ≤ 400 := by have := wtA_mem hfm; omega
        clear hfm
        generalize F[j] = f at *
        generalize nBad (nosF F) j = nb at *
        go_upto_region 8 with (fail)
        generalize wo.alloc (.cells #[.int .i64 f.no, .int .i64 f.kind, .int .i64 f.num, .string f.data] 125) = W4 at *
        have p0 := hX4.out.1 0 _ rfl
        clear f0 f1 f2 f3
        go_cut [42] from 30 to 42 (fun c wy => c = .bool nb ∧ Hd (Below W4.heap.size W4 wy))
        case first =>
          cases j with
          | zero =>
            have h00 : decide ((0 : Int) < ((0 : Nat) : Int)) = false := by simp
            have hnb := hd (hz0'.out rfl)
            go_region
            all_goals go_wp2_with fail
            all_goals go_meet
            all_goals exact ⟨by rw [hnb.out], (Below.refl _ W4).drew⟩
          | succ i =>
            obtain ⟨g0, hnb⟩ := hprev.out i rfl
            replace hnb := hd hnb
            have hj0 : (0 : Int) < ((i + 1 : Nat) : Int) := by omega
            have hjw : IntKind.i64.wrap (((i + 1 : Nat) : Int) - 1) = (i : Int) := by rw [IntWalk.i64_in _ (by omega)]; omega
            have hjl : (i : Int) < (F.length : Int) := by omega
            go_quiet (fail)
            go_wp2_with fail
            go_meet
            exact ⟨by rw [hnb.out], below_drewN (Below.refl _ W4) _⟩
        case rest =>
          obtain ⟨rfl, hb5⟩ := hcut
          obtain ⟨W5, hW5⟩ : ∃ W5, W5 = wc := ⟨_, rfl⟩
          subst hW5
          have hbl5 := hd (hb4.out.next hb5.out)
          have hbw5 := hd (hbwo.out.next hbl5.out)
          cases nb with
          | true =>
            have h0 := hd (hupF.out rfl)
            have hXr5 := hd (hXro.out.below hbl5.out)
            have z0 := hXr5.out.1 0 _ rfl; have rz0 := hXr5.out.2.1 0; have z1 := hXr5.out.1 1 _ rfl; have rz1 := hXr5.out.2.1 1; have z2 := hXr5.out.1 2 _ rfl; have rz2 := hXr5.out.2.1 2; have z3 := hXr5.out.1 3 _ rfl; have rz3 := hXr5.out.2.1 3; have z4 := hXr5.out.1 4 _ rfl; have rz4 := hXr5.out.2.1 4
            go_wp2_with fail
            exact bodyPost_ret (v := .tuple #[.agg #[.int .i64 0, .string ⟨#[]⟩, .int .i64 0, .bool false, .slice none 0 0], .bool false]) (by simp [results, Try.results77, go_sem, z0, z1, z2, z3, z4]) rfl (hret.out _ hbw5.out h0.out)
          | false =>
            replace hupS := hd (hupS.out rfl)
            have hX5 := hd (hX4.out.below hb5.out)
            have hXt5 := hd (hXto.out.below hbl5.out)
            have hnext := hd (fun (wr : World) (hbx : Below wo.heap.size wo wr) => (show BoxN wr w2.heap.size [.int .i64 0, .string ⟨#[]⟩, .int .i64 0, .bool true, s] ∧ Own wr (w2.heap.size + 1) 93 5 s rws ∧ SepX HV 5 wr (w2.heap.size + 1) s vs rws ∧ W3.grownBy wr (some w2.heap.size) from
              ⟨hX.out.below hbx, hO.out.below hbx, hSep.out.below hbx, grownBy_trans hG.out (below_grownBy hbx (some w2.heap.size)) (.inl rfl)⟩))
            have cp := hd (cb.out f.no W5 hbw5.out)
            have p0 := hX5.out.1 0 _ rfl
            have x0 := hXt5.out.1 0 _ rfl; have x1 := hXt5.out.1 1 _ rfl; have x2 := hXt5.out.1 2 _ rfl; have x3 := hXt5.out.1 3 _ rfl; have x4 := hXt5.out.1 4 _ rfl; have x5 := hXt5.out.1 5 _ rfl
            clear hprev hz0'
            rcases first_or t.parts f.no with ⟨i, hi⟩ | hno
            · have hil := hi.1
              have hir : i < rwT.length := by omega
              have rp := hgT i hil hir
              obtain ⟨a6, c6, rows6, hr6, hjk⟩ := rp.open
              clear hjk
              have hpm : t.parts[i] ∈ t.parts := List.getElem_mem hil
              have hst1 := hd (stepF_first hi)
              have ihy := hd (ih.out _ hpm)
              have hry := hd (hrps.out _ hpm)
              have hcy := hd (hcps.out _ hpm)
              rw [hr6] at rp
              go_wp2_with fail
              refine cp.out.mono ?_
              rintro e w6 ⟨hp1, _, hb6⟩
              obtain ⟨_, rfl⟩ := hp1 i hi
              rw [hr6]
              clear hp1 hr6
              generalize t.parts[i] = y at *
              have hbl6 := hd (hbl5.out.next hb6)
              have hX6 := hd (hX5.out.below hb6)
              clear hb6 p0 x0 x1 x2 x3 x4 x5
              have ha7 := hd (below_a1 w6 (a := .cells #[.int .i64 y.of, .string y.name, .int .i64 y.no, .bool y.must, .int .i64 y.most, .slice a6 y.parts.length c6] 74))
              have hX7 := hd (hX6.out.below ha7.out)
              have hY7 := hd (show BoxN (w6.alloc (.cells #[.int .i64 y.of, .string y.name, .int .i64 y.no, .bool y.must, .int .i64 y.most, .slice a6 y.parts.length c6] 74)) w6.heap.size [.int .i64 y.of, .string y.name, .int .i64 y.no, .bool y.must, .int .i64 y.most, .slice a6 y.parts.length c6] from BoxN.new w6 _ _)
              have hbl7 := hd (hbl6.out.next ha7.out)
              have hz7 : w6.heap.size < (w6.alloc (.cells #[.int .i64 y.of, .string y.name, .int .i64 y.no, .bool y.must, .int .i64 y.most, .slice a6 y.parts.length c6] 74)).heap.size := by simp
              go_upto_region 12 with (fail)
              generalize w6.alloc (.cells #[.int .i64 y.of, .string y.name, .int .i64 y.no, .bool y.must, .int .i64 y.most, .slice a6 y.parts.length c6] 74) = W7 at *
              have cfo := hd (fun w' => folded_b y.of (.string y.name) (.int .i64 y.no) (.bool y.must) (.int .i64 y.most) (.slice a6 y.parts.length c6) w')
              have t0 := hY7.out.1 0 _ rfl; have t1 := hY7.out.1 1 _ rfl; have t2 := hY7.out.1 2 _ rfl; have t3 := hY7.out.1 3 _ rfl; have t4 := hY7.out.1 4 _ rfl; have t5 := hY7.out.1 5 _ rfl
              have p1 := hX7.out.1 1 _ rfl
              obtain ⟨fo, hfo⟩ : ∃ fo, foldB y.of = fo := ⟨_, rfl⟩
              rw [hfo] at cfo
              replace hfo := hd hfo
              go_cut [58] from 53 to 58 (fun c wy => c = .bool (fo != (f.kind == 0)) ∧ Hd (Below W7.heap.size W7 wy))
              case first =>
                go_region_law ((go_simp; go_at_call 114; refine (cfo.out _).mono ?_; rintro e' w8 ⟨rfl, hb8⟩; have hb8 := hd (show Below W7.heap.size W7 w8 from by first | exact hb8 | exact (Below.refl _ W7).drew.next hb8); have p18 := (hX7.out.below hb8.out).1 1 _ rfl))
                all_goals
                  go_wp2_with fail
                  go_meet
                  exact ⟨by first | rfl | (cases fo <;> simp), hd hb8.out⟩
              case rest =>
                obtain ⟨rfl, hb8⟩ := hcut
                obtain ⟨W8, hW8⟩ : ∃ W8, W8 = wc := ⟨_, rfl⟩
                subst hW8
                have hbl8 := hd (hbl7.out.next hb8.out)
                have hX8 := hd (hX7.out.below hb8.out)
                have hY8 := hd (hY7.out.below hb8.out)
                have hz8 := hb8.out.size
                clear t0 t1 t2 t3 t4 t5 p1
                have hbad := hd (fun (h : fieldV y f = none) => (show D = none by
                  rw [hdm.out, hsno.out (by rw [hst1.out, h]; rfl)]; simp))
                have hfnum := hd (fun (h : fo = true) (h0 : f.kind = 0 → numB f.num = true) (hk : f.kind = 0 ∨ f.kind = 2) => fieldV_num (p := y) (f := f) (hfo.out.trans h) h0 hk)
                have hfdat := hd (fun (h : fo = false) => fieldV_dat (p := y) (f := f) (hfo.out.trans h))
                have hXr8 := hd (hXro.out.below hbl8.out)
                have hbw8 := hd (hbwo.out.next hbl8.out)
                have hmis := hd (fun (h : (fo != (f.kind == 0)) = true) => (show D = none from hbad.out (by
                  rcases hfk.out with ⟨hk0, hkn⟩ | hk2
                  · cases fo with
                    | true => rw [hk0] at h; simp at h
                    | false => rw [hfdat.out rfl, if_pos hk0]
                  · cases fo with
                    | true => rw [hfnum.out rfl (fun h => absurd h (by omega)) (.inr hk2), if_neg (fun h => absurd h.1 (by omega))]
                    | false => rw [hk2] at h; simp at h)))
                have hmok := hd (fun (h : (fo != (f.kind == 0)) = false) => (show (fo = true ∧ f.kind = 0 ∧ numB f.num = true) ∨ (fo = false ∧ f.kind = 2) from by
                  rcases hfk.out with ⟨hk0, hkn⟩ | hk2
                  · cases fo with
                    | true => exact .inl ⟨rfl, hk0, hkn⟩
                    | false => rw [hk0] at h; simp at h
                  · cases fo with
                    | true => rw [hk2] at h; simp at h
                    | false => exact .inr ⟨rfl, hk2⟩))
                generalize hkm : (fo != (f.kind == 0)) = km at *
                replace hkm := hd hkm
                cases km with
                | true =>
                  have h0 := hd (hmis.out rfl)
                  have z0 := hXr8.out.1 0 _ rfl; have rz0 := hXr8.out.2.1 0; have z1 := hXr8.out.1 1 _ rfl; have rz1 := hXr8.out.2.1 1; have z2 := hXr8.out.1 2 _ rfl; have rz2 := hXr8.out.2.1 2; have z3 := hXr8.out.1 3 _ rfl; have rz3 := hXr8.out.2.1 3; have z4 := hXr8.out.1 4 _ rfl; have rz4 := hXr8.out.2.1 4
                  go_wp2_with fail
                  exact bodyPost_ret (v := (.tuple #[.agg #[.int .i64 0, .string ⟨#[]⟩, .int .i64 0, .bool false, .slice none 0 0], .bool false])) (by simp [results, Try.results77, go_sem, z0, z1, z2, z3, z4]) rfl (hret.out _ hbw8.out h0.out)
                | false =>
                  replace hmok := hd (hmok.out rfl)
                  have p1 := hX8.out.1 1 _ rfl
                  have p2 := hX8.out.1 2 _ rfl
                  have hX9 := hd (show BoxN (W8.alloc (.cells #[.int .i64 f.num, .string ⟨#[]⟩, .int .i64 0, .bool false, .slice none 0 0] 93)) W8.heap.size [.int .i64 f.num, .string ⟨#[]⟩, .int .i64 0, .bool false, .slice none 0 0] from BoxN.new W8 _ _)
                  have hb9 := hd (below_a1 W8 (a := (.cells #[.int .i64 f.num, .string ⟨#[]⟩, .int .i64 0, .bool false, .slice none 0 0] 93)))
                  have hY9 := hd (hY8.out.below hb9.out)
                  have hF9 := hd (hX8.out.below hb9.out)
                  have hXr9 := hd (hXr8.out.below hb9.out)
                  have hz9 : (W8.alloc (.cells #[.int .i64 f.num, .string ⟨#[]⟩, .int .i64 0, .bool false, .slice none 0 0] 93)).heap.size = W8.heap.size + 1 := by simp
                  have p19 := keepCell hb9.out p1
                  go_upto_if 65 with (fail)
                  generalize W8.alloc (.cells #[.int .i64 f.num, .string ⟨#[]⟩, .int .i64 0, .bool false, .slice none 0 0] 93) = W9 at *
                  clear p1 p2
                  obtain ⟨k2, hk2e⟩ : ∃ k2, (f.kind == 2) = k2 := ⟨_, rfl⟩
                  rw [hk2e]
                  replace hk2e := hd hk2e
                  go_cut [7] from 66 to 75 (fun q wy => ∃ (T : K) (aV : Option Addr) (cV : Nat), Hd (BoxN wy W8.heap.size [.int .i64 T.most, .string T.name, .int .i64 T.no, .bool T.must, .slice aV T.parts.length cV]) ∧ Hd (RepX HV 5 wy (W8.heap.size + 1) wy.heap.size T [.int .i64 T.most, .string T.name, .int .i64 T.no, .bool T.must, .slice aV T.parts.length cV]) ∧ Hd (Below W8.heap.size W8 wy) ∧ Hd (fieldV y f = if leafN y.of y.most T.most = true then some (withNo T f.no) else none))
                  case first =>
                    rcases hmok.out with ⟨hfot, hk0, hkn⟩ | ⟨hfof, hk2⟩
                    · have hfv := hd (hfnum.out hfot (fun _ => hkn) (.inl hk0))
                      have hlf := hd (show fieldV y f = if leafN y.of y.most f.num = true then some (withNo (leafV f.num ⟨#[]⟩ 0) f.no) else none by
                        rw [hfv.out]
                        by_cases hq : y.of ≠ 3 ∨ (0 ≤ f.num ∧ f.num ≤ y.most)
                        · rw [if_pos ⟨hk0, hq⟩, leafN, decide_eq_true hq]; rfl
                        · rw [if_neg (fun h => hq h.2), leafN, decide_eq_false hq]; rfl)
                      obtain rfl : k2 = false := by rw [← hk2e.out]; simp [hk0]
                      replace hk0 := hd hk0
                      replace hfot := hd hfot
                      go_wp2_with fail
                      go_meet
                      exact ⟨leafV f.num ⟨#[]⟩ 0, none, 0, hX9, repLeaf _ _ _ _ _ _, hb9, hlf⟩
                    · have hfv := hd (show fieldV y f = (decK y 0 f.data).map (fun v => withNo v f.no) by rw [hfdat.out hfof, if_neg (by rw [hk2]; simp)])
                      have hn3 := hd (show y.of ≠ 3 from fun h => by have := hfo.out; rw [h, hfof] at this; simp [foldB] at this)
                      obtain rfl : k2 = true := by rw [← hk2e.out]; simp [hk2]
                      have hfo2 := hd (hfo.out.trans hfof)
                      replace hk2 := hd hk2
                      replace hfof := hd hfof
                      have cy := hd (ihy.out hfo2.out f.data _ W9 _ _ (Nat.le_trans hh (hbw8.out.next hb9.out).size) hfs hcy.out (rp.below hh (hbw8.out.next hb9.out)))
                      have p3 := hF9.out.1 3 _ rfl
                      have t0 := hY9.out.1 0 _ rfl; have t1 := hY9.out.1 1 _ rfl; have t2 := hY9.out.1 2 _ rfl; have t3 := hY9.out.1 3 _ rfl; have t4 := hY9.out.1 4 _ rfl; have t5 := hY9.out.1 5 _ rfl
                      go_wp2_with fail
                      refine cy.out.mono ?_
                      rintro e w10 ⟨r, T, rfl, hR10, hTv, hjk, hb10⟩
                      clear hjk
                      obtain ⟨aV, cV, rowsV, rfl, hjk⟩ := hR10.openV
                      clear hjk
                      have hX10 := hd (hX9.out.below hb10)
                      have hXr10 := hd (hXr9.out.below hb10)
                      have hb19 := hd (hb9.out.next hb10)
                      have hb110 := hd (hbw8.out.next (hb9.out.next hb10))
                      have hz10 := hb10.size
                      replace hTv := hd hTv
                      rw [hz9] at hR10
                      replace hR10 := hd hR10
                      generalize decK y 0 f.data = E at *
                      have hGf := hd (grownBy_setCells W8.heap.size [.int .i64 T.most, .string T.name, .int .i64 T.no, .bool T.must, .slice aV T.parts.length cV] w10 0)
                      have hX11 := hd (hX10.out.set5 (.int .i64 T.most) (.string T.name) (.int .i64 T.no) (.bool T.must) (.slice aV T.parts.length cV))
                      have hXr11 := hd (hXr10.out.grown hGf.out (fun e => by have h1 : w.heap.size + 1 = W8.heap.size := Option.some.inj e; have := hbw8.out.size; have := hXr8.out.2.2; omega))
                      have hb11 := hd (hb19.out.grown hGf.out hb19.out.size (fun g hg => by cases hg; exact Nat.le_refl _))
                      clear hb10 t0 t1 t2 t3 t4 t5 p3 p19 cy
                      have u0 := hX10.out.1 0 _ rfl; have ru0 := hX10.out.2.1 0; have u1 := hX10.out.1 1 _ rfl; have ru1 := hX10.out.2.1 1; have u2 := hX10.out.1 2 _ rfl; have ru2 := hX10.out.2.1 2; have u3 := hX10.out.1 3 _ rfl; have ru3 := hX10.out.2.1 3; have u4 := hX10.out.1 4 _ rfl; have ru4 := hX10.out.2.1 4
                      cases E with
                      | none =>
                        have h0 := hd (hbad.out (by rw [hfv.out]; rfl))
                        have hB11 := hd (hbw8.out.next hb11.out)
                        clear hfv hTv hR10 hX11 hX10 hXr10
                        have hXr11 := hd (show BoxN (((((w10.setCell ⟨W8.heap.size, 0, none⟩ (.int .i64 T.most)).setCell ⟨W8.heap.size, 1, none⟩ (.string T.name)).setCell ⟨W8.heap.size, 2, none⟩ (.int .i64 T.no)).setCell ⟨W8.heap.size, 3, none⟩ (.bool T.must)).setCell ⟨W8.heap.size, 4, none⟩ (.slice aV T.parts.length cV)) (w.heap.size + 1) [.int .i64 0, .string ⟨#[]⟩, .int .i64 0, .bool false, .slice none 0 0] from hXr11.out)
                        have hB11 := hd (show Below w.heap.size w (((((w10.setCell ⟨W8.heap.size, 0, none⟩ (.int .i64 T.most)).setCell ⟨W8.heap.size, 1, none⟩ (.string T.name)).setCell ⟨W8.heap.size, 2, none⟩ (.int .i64 T.no)).setCell ⟨W8.heap.size, 3, none⟩ (.bool T.must)).setCell ⟨W8.heap.size, 4, none⟩ (.slice aV T.parts.length cV)) from hB11.out)
                        clear hGf hb11
                        go_upto_region 17 with (fail)
                        generalize (((((w10.setCell ⟨W8.heap.size, 0, none⟩ (.int .i64 T.most)).setCell ⟨W8.heap.size, 1, none⟩ (.string T.name)).setCell ⟨W8.heap.size, 2, none⟩ (.int .i64 T.no)).setCell ⟨W8.heap.size, 3, none⟩ (.bool T.must)).setCell ⟨W8.heap.size, 4, none⟩ (.slice aV T.parts.length cV)) = W11 at *
                        clear u0 u1 u2 u3 u4 ru0 ru1 ru2 ru3 ru4
                        have z0 := hXr11.out.1 0 _ rfl; have rz0 := hXr11.out.2.1 0; have z1 := hXr11.out.1 1 _ rfl; have rz1 := hXr11.out.2.1 1; have z2 := hXr11.out.1 2 _ rfl; have rz2 := hXr11.out.2.1 2; have z3 := hXr11.out.1 3 _ rfl; have rz3 := hXr11.out.2.1 3; have z4 := hXr11.out.1 4 _ rfl; have rz4 := hXr11.out.2.1 4
                        go_wp2_with fail
                        exact bodyPost_ret (v := (.tuple #[.agg #[.int .i64 0, .string ⟨#[]⟩, .int .i64 0, .bool false, .slice none 0 0], .bool false])) (by simp [results, Try.results77, go_sem, z0, z1, z2, z3, z4]) rfl (hret.out _ hB11.out h0.out)
                      | some v =>
                        obtain rfl := hTv.out v rfl
                        have hlf := hd (show fieldV y f = if leafN y.of y.most T.most = true then some (withNo T f.no) else none by
                          rw [hfv.out, leafN, decide_eq_true (.inl hn3.out)]; rfl)
                        have hR11 := hd (RepX.same (Same.grown hGf.out (Nat.le_refl _) (fun g hg => by cases hg; left; omega)) (Nat.le_refl _) hGf.out.size _ _ hR10.out)
                        go_wp2_with fail
                        go_meet
                        exact ⟨T, aV, cV, hX11, hR11, hb11, hlf⟩
                  case rest =>
                    obtain ⟨T, aV, cV, hXv, hRv, hb10, hfv⟩ := hcut
                    obtain ⟨W10, hW10⟩ : ∃ W10, W10 = wc := ⟨_, rfl⟩
                    subst hW10
                    have hY10 := hd (hY8.out.below hb10.out)
                    have hF10 := hd (hX8.out.below hb10.out)
                    have hXr10 := hd (hXr8.out.below hb10.out)
                    have hbw10 := hd (hbw8.out.next hb10.out)
                    have hbl10 := hd (hbl8.out.next hb10.out)
                    have cl := hd (leaf_s y.of y.most T.most (.string T.name) (.int .i64 T.no) (.bool T.must) (.slice aV T.parts.length cV) (.string y.name) (.int .i64 y.no) (.bool y.must) (.slice a6 y.parts.length c6) W10)
                    have u0 := hXv.out.1 0 _ rfl; have u1 := hXv.out.1 1 _ rfl; have u2 := hXv.out.1 2 _ rfl; have u3 := hXv.out.1 3 _ rfl; have u4 := hXv.out.1 4 _ rfl
                    have t0 := hY10.out.1 0 _ rfl; have t1 := hY10.out.1 1 _ rfl; have t2 := hY10.out.1 2 _ rfl; have t3 := hY10.out.1 3 _ rfl; have t4 := hY10.out.1 4 _ rfl; have t5 := hY10.out.1 5 _ rfl
                    generalize leafN y.of y.most T.most = lb at *
                    clear p19
                    go_wp2_with fail
                    refine cl.out.mono ?_
                    rintro e w11 ⟨rfl, hb11⟩
                    have hXr11 := hd (hXr10.out.below hb11)
                    have hXv11 := hd (hXv.out.below hb11)
                    have hRv11 := hd (hRv.out.below (Nat.le_refl _) hb11)
                    have hz1011 := hd hb11.size
                    have hF11 := hd (hF10.out.below hb11)
                    have hbw11 := hd (hbw10.out.next hb11)
                    have hbl11 := hd (hbl10.out.next hb11)
                    clear hb11 u0 u1 u2 u3 u4 t0 t1 t2 t3 t4 t5
                    cases lb with
                    | false =>
                      have h0 := hd (hbad.out (by rw [hfv.out]; rfl))
                      have z0 := hXr11.out.1 0 _ rfl; have rz0 := hXr11.out.2.1 0; have z1 := hXr11.out.1 1 _ rfl; have rz1 := hXr11.out.2.1 1; have z2 := hXr11.out.1 2 _ rfl; have rz2 := hXr11.out.2.1 2; have z3 := hXr11.out.1 3 _ rfl; have rz3 := hXr11.out.2.1 3; have z4 := hXr11.out.1 4 _ rfl; have rz4 := hXr11.out.2.1 4
                      go_wp2_with fail
                      exact bodyPost_ret (v := (.tuple #[.agg #[.int .i64 0, .string ⟨#[]⟩, .int .i64 0, .bool false, .slice none 0 0], .bool false])) (by simp [results, Try.results77, go_sem, z0, z1, z2, z3, z4]) rfl (hret.out _ hbw11.out h0.out)
                    | true =>
                      have hdec1 := hd (show decF t.parts (F.take (j + 1)) = some (vs ++ [withNo T f.no]) by rw [hstp.out, hdec.out, hst1.out, hfv.out]; rfl)
                      have hvl1 := hd (show (vs ++ [withNo T f.no]).length ≤ j + 1 from by rw [List.length_append, List.length_singleton]; have := hvl.out; omega)
                      have p0 := hF11.out.1 0 _ rfl
                      have u0 := hXv11.out.1 0 _ rfl; have ru0 := hXv11.out.2.1 0; have u1 := hXv11.out.1 1 _ rfl; have ru1 := hXv11.out.2.1 1; have u2 := hXv11.out.1 2 _ rfl; have ru2 := hXv11.out.2.1 2; have u3 := hXv11.out.1 3 _ rfl; have ru3 := hXv11.out.2.1 3; have u4 := hXv11.out.1 4 _ rfl; have ru4 := hXv11.out.2.1 4
                      have hX12 := hd (hXv11.out.set (i := 2) (by simp) (.int .i64 f.no))
                      have hg12 := hd (grownBy_setCell w11 ⟨W8.heap.size, 2, none⟩ (.int .i64 f.no))
                      have hz80 : wo.heap.size ≤ W8.heap.size := by have := hbl8.out.size; omega
                      have hz10 := hb10.out.size
                      have hz1110 := hbl11.out.size
                      have hz1011 : W10.heap.size ≤ w11.heap.size := hz1011.out
                      have hbl12 := hd (hbl11.out.grown hg12.out hbl11.out.size (fun g hg => by cases hg; exact hz80))
                      have hR12x := RepX.same (Same.grown hg12.out hz1011 (fun g hg => by cases hg; left; exact Nat.lt_succ_self _)) (Nat.le_refl _) (Nat.le_refl _) _ _ hRv11.out
                      have hR12 := hd (hR12x.withNo f.no)
                      have hz12 : w11.heap.size ≤ (w11.setCell ⟨W8.heap.size, 2, none⟩ (.int .i64 f.no)).heap.size := hg12.out.size
                      clear hR12x
                      go_upto_region 22 with (fail)
                      generalize w11.setCell ⟨W8.heap.size, 2, none⟩ (.int .i64 f.no) = W12 at *
                      clear u0 u1 u2 u3 u4 ru0 ru1 ru2 ru3 ru4 p0
                      obtain ⟨hXo, hOo, hSo, hGo⟩ := hnext.out _ hbl12.out
                      replace hXo := hd hXo
                      replace hOo := hd hOo
                      replace hGo := hd hGo
                      have hSL := hd (hSo.snoc (b := w2.heap.size + 1) (lo := W8.heap.size + 1) (hi := W10.heap.size) (by omega) (by omega) (fun g hg => by left; have := (hO.out.lt g hg).2; omega) hR12.out)
                      clear hSo
                      have hvl2 := hvl.out
                      have hrl := hSep.out.1
                      have y4 := hXo.out.1 4 _ rfl
                      have u0 := hX12.out.1 0 _ rfl; have u1 := hX12.out.1 1 _ rfl; have u2 := hX12.out.1 2 _ rfl; have u3 := hX12.out.1 3 _ rfl; have u4 := hX12.out.1 4 _ rfl
                      have hszL : w2.heap.size + 1 ≤ W12.heap.size := by omega
                      have hzG3 := hz3
                      have hrlh := hd hrl
                      have hrws : rws.length ≤ 1000000 := by omega
                      clear hrl
                      go_wp2_with (at_builtin; refine wpList_appOwn rfl (.tmp 85) (.tmp 87) 91 rfl (w2.heap.size + 1) 93 i0 _ 5 64 Try.underlying91 Hi.out Hz0.out Hz1.out Hz2.out rfl (by decide) _ rws [[.int .i64 T.most, .string T.name, .int .i64 f.no, .bool T.must, .slice aV T.parts.length cV]] rfl (hOo.out.below (below_a1 _)) _ 1 1 rfl rfl (one_row rfl) (cells_new _ _ _) rowV_one (by omega) (by decide) (by first | omega | exact Nat.le_refl _ | (simp; done) | (simp; omega)) ?_; intro s6 w6 ho6 hga hva; obtain ⟨a9, c9, rfl, hjk⟩ := ho6.sl; clear hjk; rw [List.length_append, List.length_singleton] at *; have hX6 := hd ((hXo.out.below (below_a1 _)).grown hga (by intro e; have := (hOo.out.lt _ e.symm).1; omega)); have y6 := hX6.out.1 4 _ rfl; have r6 := hX6.out.2.1 4; have hga := hd hga; have hva := hd hva; have ho6 := hd ho6; clear y4)
                      have hne6 : ∀ g, (Value.slice a9 (rws.length + 1) c9).ownBlock = some g → w2.heap.size + 1 ≤ g := fun g hg => (ho6.out.lt g hg).1
                      have hXe := hd (hX6.out.set (i := 4) (by simp) (.slice a9 (rws.length + 1) c9))
                      have hOe := hd (ho6.out.kept (grownBy_setCell w6 ⟨w2.heap.size, 4, none⟩ (.slice a9 (rws.length + 1) c9)) (.inr (fun e => by have : w2.heap.size + 1 ≤ w2.heap.size := hne6 _ e; omega)))
                      have hSe := hd (((hSL.out.below (below_a1 _)).grown (Gr.app hga.out hva.out)).set (c := w2.heap.size) (k := 4) (u := .slice a9 (rws.length + 1) c9) (by omega))
                      have hGe := hd (grownBy_trans (grownBy_trans (grownBy_trans hGo.out (below_grownBy (below_a1 W12 (a := _)) (some w2.heap.size)) (.inl rfl)) hga.out (.inr (fun g hg => by have := (hOo.out.lt g hg).1; omega))) (grownBy_setCell w6 ⟨w2.heap.size, 4, none⟩ (.slice a9 (rws.length + 1) c9)) (.inl rfl))
                      go_wp2_with fail
                      go_roundw
                      case rel => exact ⟨j + 1, _, .slice a9 (rws.length + 1) c9, _, by omega, by go_num, hupS, hdec1, hd (by rw [List.length_append, List.length_singleton]; exact hvl1.out), hXe, hOe, hSe, hGe⟩
                      case measure => simp [intOf]; omega
            · have hst1 := hd (stepF_none hno)
              have hdec1 := hd (show decF t.parts (F.take (j + 1)) = some vs by rw [hstp.out, hdec.out, hst1.out]; simp)
              have hvl1 := hd (show vs.length ≤ j + 1 from Nat.le_succ_of_le hvl.out)
              go_wp2_with fail
              refine cp.out.mono ?_
              rintro e w6 ⟨_, hp2, hb6⟩
              obtain rfl := hp2 hno
              have hn6 := hd (fun o => hnext.out _ (hbl5.out.next (hb6.next (below_a1 w6 (a := o)))))
              clear hb6
              go_wp2_with fail
              go_roundw
              case rel => exact ⟨j + 1, vs, s, rws, by omega, by go_num, hupS, hdec1, hvl1, (hn6.out _).1, (hn6.out _).2.1, (hn6.out _).2.2.1, (hn6.out _).2.2.2⟩
              case measure => simp [intOf]; omega
      · obtain rfl : j = F.length := by omega
        have hltI : ¬ (F.length : Int) < (F.length : Int) := by omega
        rw [List.take_length] at hdec
        have hbF := hd (decF_bd hrps.out hdec.out)
        have hDm := hd (show D = msgR t.parts vs by
          rw [hdm.out, risN_true (fun i hi => hup.out i (by rw [nosF, List.length_map] at hi; exact hi)), hdec.out]; rfl)
        have hlen : rws.length = vs.length := hSep.out.1
        have hxs := XSl.own hO.out (fun g hg => (hO.out.lt g hg).2)
        have hrs := RepXs.get _ _ (hSep.out.rep (Nat.le_refl _))
        obtain ⟨aS, cS, rfl, hjk⟩ := hO.out.sl
        clear hjk
        have hvl2 := hvl.out
        have cm := hd (fun w' (hb : Below wo.heap.size wo w') => (show Calls Try.prog 110 #[.agg #[.int .i64 0, .string ⟨#[]⟩, .int .i64 0, .bool true, .slice aS rws.length cS], .agg #[.int .i64 t.of, .string t.name, .int .i64 t.no, .bool t.must, .int .i64 t.most, .slice aT t.parts.length cT]] w' (BoolPost (mustsB t.parts vs) w') from by
          have h9 := hxs.same (Same.below hb (Nat.le_refl _)) (Nat.le_refl _) (Nat.le_refl _)
          rw [hlen] at h9 ⊢
          exact musts_s (.mk 5 ⟨#[]⟩ 0 true 0 vs) t aS cS rws aT cT rwT 0 0 ⟨#[]⟩ true w' (w2.heap.size + 1) wo.heap.size lo hi hb.size (Nat.le_trans hh (hbwo.out.next hb).size) (by show vs.length ≤ 1000000; omega) hltT h9 hSep.out.1 (fun j h h' => (hrs.2 j h h').below (Nat.le_refl _) hb) (hST.same (Same.below (hbwo.out.next hb) hh) (Nat.le_refl _) (Nat.le_refl _)) hlT (fun j h1 h2 => (hgT j h1 h2).below hh (hbwo.out.next hb))))
        replace hlen := hd hlen
        replace hxs := hd hxs
        replace hrs := hd hrs
        have y0 := hX.out.1 0 _ rfl; have y1 := hX.out.1 1 _ rfl; have y2 := hX.out.1 2 _ rfl; have y3 := hX.out.1 3 _ rfl; have y4 := hX.out.1 4 _ rfl
        have x0 := hXto.out.1 0 _ rfl; have x1 := hXto.out.1 1 _ rfl; have x2 := hXto.out.1 2 _ rfl; have x3 := hXto.out.1 3 _ rfl; have x4 := hXto.out.1 4 _ rfl; have x5 := hXto.out.1 5 _ rfl
        clear hvl2
        have hRX := hd (show RepX HV 5 wo (w2.heap.size + 1) wo.heap.size (.mk 5 ⟨#[]⟩ 0 true 0 vs) [.int .i64 0, .string ⟨#[]⟩, .int .i64 0, .bool true, .slice aS rws.length cS] from RepX.mk (H := HV) (t := .mk 5 ⟨#[]⟩ 0 true 0 vs) hxs.out (hSep.out.rep (Nat.le_refl _)))
        have hfin0 := hd (fun (wr : World) (hw : Below wo.heap.size wo wr) => (show DsPost D (b.size + 1) w (.returned (.tuple #[.agg #[.int .i64 0, .string ⟨#[]⟩, .int .i64 0, .bool true, .slice aS rws.length cS], .bool (mustsB t.parts vs)])) (setCells wr (w.heap.size + 1) 0 [.int .i64 0, .string ⟨#[]⟩, .int .i64 0, .bool true, .slice aS rws.length cS]) from by
          have hGf := grownBy_setCells (w.heap.size + 1) [.int .i64 0, .string ⟨#[]⟩, .int .i64 0, .bool true, .slice aS rws.length cS] wr 0
          have hw2 := hw.size
          refine ⟨[.int .i64 0, .string ⟨#[]⟩, .int .i64 0, .bool true, .slice aS rws.length cS], .mk 5 ⟨#[]⟩ 0 true 0 vs, ?_, ?_, ?_, ?_, ?_⟩
          · rw [hDm.out, msgR]; cases mustsB t.parts vs <;> rfl
          · exact RepX.same (Same.grown hGf hw2 (fun g hg => by cases hg; left; omega)) (by omega) (Nat.le_trans hw2 hGf.size) _ _ (hRX.out.below (Nat.le_refl _) hw)
          · intro v hv
            rw [hDm.out, msgR] at hv
            split at hv
            · cases hv; rfl
            · cases hv
          · rw [countK_eq]; show 1 + countL vs ≤ _; have := hbF.out; omega
          · exact (hbwo.out.next hw).grown hGf (hbwo.out.next hw).size (fun g hg => by cases hg; omega)))
        replace hSep := hd hSep.out
        generalize hmb : mustsB t.parts vs = mb at *
        replace hmb := hd hmb
        go_wp2_with fail
        go_region_law ((go_simp; go_at_call 110; refine (cm.out _ (by first | exact Below.refl _ _ | exact (Below.refl _ _).drew)).mono ?_; rintro e' w5 ⟨rfl, hb5⟩; have hb5 := hd (show Below wo.heap.size wo w5 from by first | exact hb5 | exact (Below.refl _ wo).drew.next hb5); have hXr5 := hd (hXro.out.below hb5.out); have hX5 := hd (hX.out.below hb5.out); have v0 := hX5.out.1 0 _ rfl; have v1 := hX5.out.1 1 _ rfl; have v2 := hX5.out.1 2 _ rfl; have v3 := hX5.out.1 3 _ rfl; have v4 := hX5.out.1 4 _ rfl; have z0 := hXr5.out.1 0 _ rfl; have rz0 := hXr5.out.2.1 0; have z1 := hXr5.out.1 1 _ rfl; have rz1 := hXr5.out.2.1 1; have z2 := hXr5.out.1 2 _ rfl; have rz2 := hXr5.out.2.1 2; have z3 := hXr5.out.1 3 _ rfl; have rz3 := hXr5.out.2.1 3; have z4 := hXr5.out.1 4 _ rfl; have rz4 := hXr5.out.2.1 4))
        all_goals
          go_wp2_with fail
          exact bodyPost_ret (v := .tuple #[.agg #[.int .i64 0, .string ⟨#[]⟩, .int .i64 0, .bool true, .slice aS rws.length cS], .bool mb]) (by simp [results, Try.results77, go_sem, z0, z1, z2, z3, z4]) rfl (hfin0.out _ hb5.out)
end Go.Proofs.Ytobahkjbadamhaa

/- Bytes of a part, valid bytes and their values, of the reference: l4Part, IsValid, DecodeValue. -/
import Derived.Test.YtobahkjbadamhaaPartS
import Derived.Test.YtobahkjbadamhaaValid
namespace Go.Proofs.Ytobahkjbadamhaa
open Go.RowKit
set_option linter.unusedVariables false
set_option maxRecDepth 100000
theorem DsPost.up {D : Option K} {n : Nat} {w W w2 : World} {x : Nat} {e : Ending} {r : List Value} {T : K} (hb : Below w.heap.size w W) (hx : w.heap.size ≤ x) (hxW : x < W.heap.size) (u : List Value)
    (hR : RepX HV 5 w2 W.heap.size w2.heap.size T r) (hTv : ∀ v, D = some v → T = v) (hc : countK T ≤ n) (hb2 : Below W.heap.size W w2) (hu : u = r) :
    DsPost D n w (.returned (.tuple #[.agg r.toArray, .bool D.isSome])) (setCells w2 x 0 u) := by
  have hg := grownBy_setCells x u w2 0
  refine ⟨r, T, rfl, RepX.same (Same.grown hg (Nat.le_refl _) (fun g hg' => by cases hg'; left; omega)) hb.size hg.size _ _ hR, hTv, hc, ?_⟩
  exact (hb.next hb2).grown hg (hb.next hb2).size (fun g hg' => by cases hg'; exact hx)
set_option maxHeartbeats 3200000 in
theorem lpart_s (t : K) : rightK t → foldB t.of = false → PartC t := by
  refine K.ind2 (P := fun t => rightK t → foldB t.of = false → PartC t) ?_ t
  intro t ih hr hf b rT w lo hi hh hb hc hR
  have hor := right_holds hr
  by_cases h4 : t.of = 4
  · obtain ⟨p, hp⟩ := right_one hr h4
    have hrp := right_part hr (show p ∈ t.parts by rw [hp]; simp)
    cases hfp : foldB p.of with
    | true => exact listN_s t p hp hrp h4 hfp b rT w lo hi hh hb hc hR
    | false => exact listD_s t p hp hrp h4 hfp (ih p (by rw [hp]; simp) hrp hfp) b rT w lo hi hh hb hc hR
  · have hm := hd (fun (h5 : t.of = 5) w' (hw : Below w.heap.size w w') => msg_s t hr h5 (fun p hp hf => ih p hp (right_part hr hp) hf) b rT w' lo hi (Nat.le_trans hh hw.size) hb hc (hR.below hh hw))
    have hdt := hd (fun (h2 : t.of = 2) => (show decK t 0 b = if b.size ≤ 30 then some (leafV 0 b 0) else none by rw [decK_eq, if_pos h2]))
    obtain ⟨aT, cT, rwT, rfl, hjk⟩ := hR.open
    clear hjk hR ih hr
    obtain ⟨D, hD⟩ : ∃ D, decK t 0 b = D := ⟨_, rfl⟩
    rw [hD] at hm hdt ⊢
    clear hD
    have hbW := hd (below_a2 w (a := .cells #[.int .i64 t.of, .string t.name, .int .i64 t.no, .bool t.must, .int .i64 t.most, .slice aT t.parts.length cT] 74) (b := .cells #[.int .i64 0, .string ⟨#[]⟩, .int .i64 0, .bool false, .slice none 0 0] 93))
    have hXt := hd (show BoxN ((w.alloc (.cells #[.int .i64 t.of, .string t.name, .int .i64 t.no, .bool t.must, .int .i64 t.most, .slice aT t.parts.length cT] 74)).alloc (.cells #[.int .i64 0, .string ⟨#[]⟩, .int .i64 0, .bool false, .slice none 0 0] 93)) w.heap.size [.int .i64 t.of, .string t.name, .int .i64 t.no, .bool t.must, .int .i64 t.most, .slice aT t.parts.length cT] from (BoxN.new w _ _).below (below_a1 _))
    have hXr := hd (show BoxN ((w.alloc (.cells #[.int .i64 t.of, .string t.name, .int .i64 t.no, .bool t.must, .int .i64 t.most, .slice aT t.parts.length cT] 74)).alloc (.cells #[.int .i64 0, .string ⟨#[]⟩, .int .i64 0, .bool false, .slice none 0 0] 93)) (w.heap.size + 1) [.int .i64 0, .string ⟨#[]⟩, .int .i64 0, .bool false, .slice none 0 0] from by
      have := BoxN.new (w.alloc (.cells #[.int .i64 t.of, .string t.name, .int .i64 t.no, .bool t.must, .int .i64 t.most, .slice aT t.parts.length cT] 74)) [.int .i64 0, .string ⟨#[]⟩, .int .i64 0, .bool false, .slice none 0 0] 93
      rw [World.size_alloc] at this
      exact this)
    have hszW : w.heap.size + 2 ≤ ((w.alloc (.cells #[.int .i64 t.of, .string t.name, .int .i64 t.no, .bool t.must, .int .i64 t.most, .slice aT t.parts.length cT] 74)).alloc (.cells #[.int .i64 0, .string ⟨#[]⟩, .int .i64 0, .bool false, .slice none 0 0] 93)).heap.size := by simp
    go_enter Try.func115, Try.ntmps115
    go_upto_region 1 with (fail)
    generalize (w.alloc (.cells #[.int .i64 t.of, .string t.name, .int .i64 t.no, .bool t.must, .int .i64 t.most, .slice aT t.parts.length cT] 74)).alloc (.cells #[.int .i64 0, .string ⟨#[]⟩, .int .i64 0, .bool false, .slice none 0 0] 93) = W at *
    have z0 := hXr.out.1 0 _ rfl; have rz0 := hXr.out.2.1 0; have z1 := hXr.out.1 1 _ rfl; have rz1 := hXr.out.2.1 1; have z2 := hXr.out.1 2 _ rfl; have rz2 := hXr.out.2.1 2; have z3 := hXr.out.1 3 _ rfl; have rz3 := hXr.out.2.1 3; have z4 := hXr.out.1 4 _ rfl; have rz4 := hXr.out.2.1 4
    by_cases h2 : t.of = 2
    · have hdt2 := hd (hdt.out h2)
      have x0 : W.cell? ⟨w.heap.size, 0, none⟩ = some (.int .i64 2) := by have := hXt.out.1 0 _ rfl; rw [h2] at this; exact this
      have hg := hd (grownBy_setCells (w.heap.size + 1) [.int .i64 0, .string b, .int .i64 0, .bool false, .slice none 0 0] W 0)
      have hbf := hd (hbW.out.grown hg.out hbW.out.size (fun g hg' => by cases hg'; omega))
      have hbl : b.size ≤ 400 := hb
      have hres := hd (show DsPost D (b.size + 1) w (.returned (.tuple #[.agg #[.int .i64 0, .string b, .int .i64 0, .bool false, .slice none 0 0], .bool (decide ((b.size : Int) ≤ 30))])) (setCells W (w.heap.size + 1) 0 [.int .i64 0, .string b, .int .i64 0, .bool false, .slice none 0 0]) from by
        refine ⟨[.int .i64 0, .string b, .int .i64 0, .bool false, .slice none 0 0], leafV 0 b 0, ?_, repLeaf _ _ _ _ _ _, ?_, ?_, hbf.out⟩
        · rw [hdt2.out]
          by_cases h30 : b.size ≤ 30
          · rw [if_pos h30, decide_eq_true (by omega)]; rfl
          · rw [if_neg h30, decide_eq_false (by omega)]; rfl
        · intro v hv
          rw [hdt2.out] at hv
          split at hv
          · cases hv; rfl
          · cases hv
        · rw [countK_eq]; simp [leafV, K.parts, countL])
      clear hm hdt
      replace h2 := hd h2
      replace h4 := hd h4
      replace hor := hd hor
      clear hXt hbW hg hbf hdt2 h4 hor h2
      have hb30 : (b.size : Int) ≤ 400 := by omega
      go_wp2_with fail
      exact bodyPost_ret (v := .tuple #[.agg #[.int .i64 0, .string b, .int .i64 0, .bool false, .slice none 0 0], .bool (decide ((b.size : Int) ≤ 30))]) (by simp [results, Try.results115, go_sem, z0, z1, z2, z3, z4]) rfl hres.out
    · have h5 : t.of = 5 := by
        have : t.of ≠ 1 ∧ t.of ≠ 3 := ⟨fun e => by rw [e] at hf; simp [foldB] at hf, fun e => by rw [e] at hf; simp [foldB] at hf⟩
        omega
      have cm := hd (hm.out h5 W hbW.out)
      have hXt5 := hd (show BoxN W w.heap.size [.int .i64 5, .string t.name, .int .i64 t.no, .bool t.must, .int .i64 t.most, .slice aT t.parts.length cT] from by have := hXt.out; rw [h5] at this; exact this)
      rw [h5] at cm
      clear hm hdt hXt h2 h4 hor hf
      replace h5 := hd h5
      have x0 := hXt5.out.1 0 _ rfl; have x1 := hXt5.out.1 1 _ rfl; have x2 := hXt5.out.1 2 _ rfl; have x3 := hXt5.out.1 3 _ rfl; have x4 := hXt5.out.1 4 _ rfl; have x5 := hXt5.out.1 5 _ rfl
      go_wp2_with fail
      refine cm.out.mono ?_
      rintro e w2 ⟨r, T, rfl, hRT, hTv, hcT, hb2⟩
      obtain ⟨aV, cV, rowsV, rfl, hjk⟩ := hRT.openV
      clear hjk
      have hXr2 := hd (hXr.out.below hb2)
      have hup := hd (DsPost.up (e := .returned (.bool true)) (x := w.heap.size + 1) hbW.out (by omega) (by omega) [.int .i64 T.most, .string T.name, .int .i64 T.no, .bool T.must, .slice aV T.parts.length cV] hRT hTv hcT hb2 rfl)
      clear hRT hTv hcT hb2 z0 z1 z2 z3 z4 rz0 rz1 rz2 rz3 rz4 x0 x1 x2 x3 x4 x5
      have z0 := hXr2.out.1 0 _ rfl; have rz0 := hXr2.out.2.1 0; have z1 := hXr2.out.1 1 _ rfl; have rz1 := hXr2.out.2.1 1; have z2 := hXr2.out.1 2 _ rfl; have rz2 := hXr2.out.2.1 2; have z3 := hXr2.out.1 3 _ rfl; have rz3 := hXr2.out.2.1 3; have z4 := hXr2.out.1 4 _ rfl; have rz4 := hXr2.out.2.1 4
      generalize D.isSome = ok at *
      go_wp2_with fail
      exact bodyPost_ret (v := .tuple #[.agg #[.int .i64 T.most, .string T.name, .int .i64 T.no, .bool T.must, .slice aV T.parts.length cV], .bool ok]) (by simp [results, Try.results115, go_sem, z0, z1, z2, z3, z4]) rfl hup.out
theorem read4_s (t : K) (hg : goodK t) (b : ByteArray) (rT : List Value) (w : World) (lo hi : Nat) (hh : hi ≤ w.heap.size) (hb : b.size ≤ 400) (hR : RepT w lo hi t rT) :
    Calls Try.prog 77 #[.string b, .agg rT.toArray] w (DsPost (decK t 0 b) (b.size + 1) w) :=
  msg_s t hg.2.2.1 hg.1 (fun p hp hf => lpart_s p (right_part hg.2.2.1 hp) hf) b rT w lo hi hh hb (by have := good_small hg; omega) hR
theorem validR_some {t : K} {b : ByteArray} (hb : b.size ≤ 400) : (validR t b).isSome = (decK t 0 b).isSome := by rw [validR, if_pos hb, Option.isSome_map]
set_option maxHeartbeats 3200000 in
theorem IsValid_s (b : ByteArray) (l : List DType) (v : Value) (w : World) (hl : l.length ≤ 1000000000) (hs : ∀ x ∈ l, x.name.size ≤ 1000000000000) (h : Sl w v 6 (l.map DType.enc)) (g : Bool) (hg : g = true ↔ goodP l) (r : Option (List DNode)) (hr : decQ l b r) :
    Calls Try.prog 34 #[.string b, .agg #[v]] w (BBPost r.isSome (g && decide (b.size ≤ 400)) w) := by
  have cg := hd (fun w' (hbb : Below w.heap.size w w') => GoodSchema_s l v w' (by omega) hs (h.mono hbb) g hg)
  have r0 := hd (fun w' (hbb : Below w.heap.size w w') hq t ht => root_s l v w' hq t ht (h.mono hbb))
  obtain ⟨a1, c1, rfl, -⟩ := h
  simp only [List.length_map] at cg r0 ⊢
  have hbW := hd (below_a1 w (a := .cells #[.slice a1 l.length c1] 28))
  have hq0 := hd (show (w.alloc (.cells #[.slice a1 l.length c1] 28)).cell? ⟨w.heap.size, 0, none⟩ = some (.slice a1 l.length c1) by go_simp)
  by_cases hb : b.size ≤ 400
  · have hbI : ¬ (400 : Int) < (b.size : Int) := by omega
    have hdb : decide (b.size ≤ 400) = true := by simpa using hb
    rw [hdb, Bool.and_true]
    cases g with
    | true =>
      have hgp := hg.1 rfl
      obtain ⟨t, ht⟩ := good_tree hgp
      have rB := hd (fun w' (hbb : Below w.heap.size w w') => r0.out w' hbb hgp t ht)
      have hrt := hd (show r.isSome = (decK t 0 b).isSome by rw [hr.2 t ht hgp, validR_some hb])
      have cr := hd (fun rT w' lo hi (hh : hi ≤ w'.heap.size) (hR : RepT w' lo hi t rT) => read4_s t ht.2 b rT w' lo hi hh hb hR)
      clear hgp ht r0 hr hg hs
      generalize decK t 0 b = D at *
      rw [hrt.out]
      clear hrt
      go_enter Try.func34, Try.ntmps34
      go_upto_region 1 with (fail)
      generalize w.alloc (.cells #[.slice a1 l.length c1] 28) = W at *
      have q0 := hq0.out
      go_wp2_with fail
      refine (cg.out _ hbW.out).mono ?_
      rintro e w2 ⟨rfl, hb2⟩
      have hB := hd (hbW.out.next hb2)
      have q0' := keepCell hb2 q0
      clear hb2 q0
      go_wp2_with fail
      refine (rB.out _ hB.out).mono ?_
      rintro e w3 ⟨rt, rfl, hRT, hb3⟩
      have hB3 := hd (hB.out.next hb3)
      have c3 := hd (cr.out rt w3 _ _ (Nat.le_refl _) hRT)
      obtain ⟨aT, cT, rwT, rfl, hjk⟩ := hRT.open
      clear hb3 q0' hRT hjk
      go_wp2_with fail
      refine c3.out.mono ?_
      rintro e w4 ⟨r4, T, rfl, hRT, hTv, hcT, hb4⟩
      obtain ⟨aV, cV, rowsV, rfl, hjk⟩ := hRT.openV
      have hB4 := hd (hB3.out.next hb4)
      have hfin := hd (fun w' (hbb : Below w4.heap.size w4 w') => (show BBPost D.isSome true w (.returned (.tuple #[.bool D.isSome, .bool true])) w' from ⟨rfl, hB4.out.next hbb⟩))
      clear hjk hRT hTv hcT hb4
      generalize D.isSome = ok at *
      go_wp2_with fail
      go_ret2
      exact hfin.out _ (below_a1 _)
    | false =>
      have hrn := hd (show r.isSome = false by rw [hr.1 (fun g => absurd (hg.2 g) (by simp))]; rfl)
      clear r0 hr hg
      go_enter Try.func34, Try.ntmps34
      go_upto_region 1 with (fail)
      generalize w.alloc (.cells #[.slice a1 l.length c1] 28) = W at *
      have q0 := hq0.out
      go_wp2_with fail
      refine (cg.out _ hbW.out).mono ?_
      rintro e w2 ⟨rfl, hb2⟩
      have hB := hd (hbW.out.next hb2)
      clear hb2 q0
      go_wp2_with fail
      go_ret2
      rw [hrn.out]
      exact ⟨rfl, hB.out⟩
  · have hbI : (400 : Int) < (b.size : Int) := by omega
    have hdb : decide (b.size ≤ 400) = false := by simpa using hb
    have hrn := hd (show r.isSome = false by
      by_cases hgp : goodP l
      · obtain ⟨t, ht⟩ := good_tree hgp
        rw [hr.2 t ht hgp, validR, if_neg hb]; rfl
      · rw [hr.1 hgp]; rfl)
    rw [hdb, Bool.and_false]
    clear cg r0 hr hg
    go_enter Try.func34, Try.ntmps34
    go_wp2_with fail
    go_ret2
    rw [hrn.out]
    exact ⟨rfl, hbW.out⟩
theorem validR_eq {t : K} {b : ByteArray} (hb : b.size ≤ 400) : validR t b = (decK t 0 b).map (fun x => rowsV x (-1) 0) := by rw [validR, if_pos hb]
theorem valueR_some (l : List DNode) : valueR (some l) = if l.length ≤ 40 then some l else none := by unfold valueR; simp [Option.filter]
theorem valueR_len (r : Option (List DNode)) : ((valueR r).getD []).length ≤ 1000000 := by
  cases r with
  | none => simp [valueR]
  | some l => rw [valueR_some]; split <;> simp; omega
set_option maxHeartbeats 6400000 in
theorem DecodeValue_s (b : ByteArray) (l : List DType) (v : Value) (w : World) (hl : l.length ≤ 1000000000) (hs : ∀ x ∈ l, x.name.size ≤ 1000000000000) (h : Sl w v 6 (l.map DType.enc)) (r : Option (List DNode)) (hr : decQ l b r) :
    Calls Try.prog 40 #[.string b, .agg #[v]] w (VaPost (valueR r) w) := by
  obtain ⟨g, hg⟩ := boolOf (goodP l)
  have cg := hd (fun w' (hbb : Below w.heap.size w w') => GoodSchema_s l v w' (by omega) hs (h.mono hbb) g hg)
  have r0 := hd (fun w' (hbb : Below w.heap.size w w') hq t ht => root_s l v w' hq t ht (h.mono hbb))
  obtain ⟨a1, c1, rfl, -⟩ := h
  simp only [List.length_map] at cg r0 ⊢
  have hbW := hd (below_a2 w (a := .cells #[.slice a1 l.length c1] 28) (b := .cells #[.slice none 0 0] 39))
  have hq0 := hd (show ((w.alloc (.cells #[.slice a1 l.length c1] 28)).alloc (.cells #[.slice none 0 0] 39)).cell? ⟨w.heap.size, 0, none⟩ = some (.slice a1 l.length c1) by go_simp)
  have hx := hd (show Box1 ((w.alloc (.cells #[.slice a1 l.length c1] 28)).alloc (.cells #[.slice none 0 0] 39)) (w.heap.size + 1) (.slice none 0 0) from ⟨by go_simp, by go_simp⟩)
  have hret := hd (fun (wr : World) (hw : Below w.heap.size w wr) (h0 : valueR r = none) => (show VaPost (valueR r) w (.returned (.tuple #[.agg #[.slice none 0 0], .bool false])) (wr.setCell ⟨w.heap.size + 1, 0, none⟩ (.slice none 0 0)) from by
    rw [h0]; exact ⟨_, none, rfl, OwnR.nil, hw.setCell (by show w.heap.size ≤ w.heap.size + 1; omega) _⟩))
  by_cases hb : b.size ≤ 400
  · have hbI : ¬ (400 : Int) < (b.size : Int) := by omega
    cases g with
    | true =>
      have hgp := hg.1 rfl
      obtain ⟨t, ht⟩ := good_tree hgp
      have rB := hd (fun w' (hbb : Below w.heap.size w w') => r0.out w' hbb hgp t ht)
      have hrt := hd (show valueR r = valueR ((decK t 0 b).map (fun x => rowsV x (-1) 0)) by rw [hr.2 t ht hgp, validR_eq hb])
      have cr := hd (fun rT w' lo hi (hh : hi ≤ w'.heap.size) (hR : RepT w' lo hi t rT) => read4_s t ht.2 b rT w' lo hi hh hb hR)
      clear hgp ht r0 hr hg hs
      generalize decK t 0 b = D at *
      generalize valueR r = R at *
      go_enter Try.func40, Try.ntmps40
      go_upto_region 1 with (fail)
      generalize (w.alloc (.cells #[.slice a1 l.length c1] 28)).alloc (.cells #[.slice none 0 0] 39) = W at *
      have q0 := hq0.out
      go_wp2_with fail
      refine (cg.out _ hbW.out).mono ?_
      rintro e w2 ⟨rfl, hb2⟩
      have hB := hd (hbW.out.next hb2)
      have hx2 := hd (hx.out.below hb2)
      have q0' := keepCell hb2 q0
      clear hb2 q0
      go_wp2_with fail
      refine (rB.out _ hB.out).mono ?_
      rintro e w3 ⟨rt, rfl, hRT, hb3⟩
      have hB3 := hd (hB.out.next hb3)
      have hx3 := hd (hx2.out.below hb3)
      have c3 := hd (cr.out rt w3 _ _ (Nat.le_refl _) hRT)
      obtain ⟨aT, cT, rwT, rfl, hjk⟩ := hRT.open
      clear hb3 q0' hRT hjk
      go_wp2_with fail
      refine c3.out.mono ?_
      rintro e w4 ⟨r4, T, rfl, hRT, hTv, hcT, hb4⟩
      have hB4 := hd (hB3.out.next hb4)
      have hx4 := hd (hx3.out.below hb4)
      have hRT2 := hd (fun w' (hbb : Below w4.heap.size w4 w') => ofV_s T r4 w' _ _ (Nat.le_trans (Nat.le_refl _) hbb.size) (by omega) (hRT.below (Nat.le_refl _) hbb))
      obtain ⟨aV, cV, rowsV4, rfl, hjk⟩ := hRT.openV
      have hX := hd (show BoxN (w4.alloc (.cells #[.int .i64 T.most, .string T.name, .int .i64 T.no, .bool T.must, .slice aV T.parts.length cV] 93)) w4.heap.size [.int .i64 T.most, .string T.name, .int .i64 T.no, .bool T.must, .slice aV T.parts.length cV] from BoxN.new w4 _ _)
      have hal := hd (below_a1 w4 (a := .cells #[.int .i64 T.most, .string T.name, .int .i64 T.no, .bool T.must, .slice aV T.parts.length cV] 93))
      replace hTv := hd hTv
      clear hjk hRT hb4
      generalize hok : D.isSome = ok at *
      replace hok := hd hok
      go_upto_region 4 with (fail)
      generalize w4.alloc (.cells #[.int .i64 T.most, .string T.name, .int .i64 T.no, .bool T.must, .slice aV T.parts.length cV] 93) = W4 at *
      have hB5 := hd (hB4.out.next hal.out)
      have hx5 := hd (hx4.out.below hal.out)
      have hz5 : w.heap.size + 2 ≤ W4.heap.size := by have := hx5.out.lt; omega
      have x0 := hX.out.1 0 _ rfl
      have x1 := hX.out.1 1 _ rfl
      have x2 := hX.out.1 2 _ rfl
      have x3 := hX.out.1 3 _ rfl
      have x4 := hX.out.1 4 _ rfl
      go_wp2_with fail
      refine (hRT2.out _ hal.out).mono ?_
      rintro e w6 ⟨v6, rb, rfl, ho6, hb6⟩
      have hB6 := hd (hB5.out.next hb6)
      have hx6 := hd (hx5.out.below hb6)
      have hrl : (rowsV T (-1) 0).length ≤ 401 := by rw [rowsV_len]; omega
      have hRr := hd (fun hk : ok = true => (show R = if (rowsV T (-1) 0).length ≤ 40 then some (rowsV T (-1) 0) else none from by
        have h1 := hok.out
        rw [hk] at h1
        obtain ⟨v, hv⟩ := Option.isSome_iff_exists.1 h1
        rw [hrt.out, hv, hTv.out v hv, Option.map_some, valueR_some]))
      have hRn := hd (fun hk : ok = false => (show R = none from by
        have h1 := hok.out
        rw [hk] at h1
        rw [hrt.out, Option.isSome_eq_false_iff.1 h1 |> Option.isNone_iff_eq_none.1]; rfl))
      clear hrt hTv hok hb6 x0 x1 x2 x3 x4
      generalize rowsV T (-1) 0 = Q at *
      obtain ⟨a6, c6, rfl, hjk⟩ := ho6.sl
      rw [List.length_map] at ho6
      replace ho6 := hd ho6
      have hz6 : w.heap.size + 2 ≤ w6.heap.size := by have := hx6.out.lt; omega
      clear hjk
      have hal6 := hd (below_a1 w6 (a := .cells #[.slice a6 Q.length c6] 39))
      have hq6 := hd (show (w6.alloc (.cells #[.slice a6 Q.length c6] 39)).cell? ⟨w6.heap.size, 0, none⟩ = some (.slice a6 Q.length c6) by go_simp)
      go_upto_region 5 with (fail)
      generalize w6.alloc (.cells #[.slice a6 Q.length c6] 39) = W6 at *
      have hB7 := hd (hB6.out.next hal6.out)
      have hx7 := hd (hx6.out.below hal6.out)
      have ho7 := hd (ho6.out.below hal6.out)
      have hz7 : w.heap.size + 2 ≤ W6.heap.size := by have := hal6.out.size; omega
      have q6 := hq6.out
      have Q1 := hx7.out.1; have Q2 := hx7.out.2
      clear ho6
      cases ok with
      | false =>
        have hno := hd (hRn.out rfl)
        clear hRr hRn
        go_wp2_with fail
        exact bodyPost_ret (v := .tuple #[.agg #[.slice none 0 0], .bool false]) (by simp [results, Try.results40, go_sem, Q1]) rfl (hret.out _ hB7.out hno.out)
      | true =>
        have hyes := hd (hRr.out rfl)
        clear hRr hRn
        by_cases h40 : Q.length ≤ 40
        · have h40I : ¬ (40 : Int) < (Q.length : Int) := by omega
          rw [if_pos h40] at hyes
          have hfin := hd (show VaPost R w (.returned (.tuple #[.agg #[.slice a6 Q.length c6], .bool true])) (W6.setCell ⟨w.heap.size + 1, 0, none⟩ (.slice a6 Q.length c6)) from by
            rw [hyes.out]
            exact AggbPost.of (rb := rb) (ownR_store (b := w.heap.size + 1) (o := 0) (B2 := w.heap.size) (ho7.out) (by omega) (by omega)) (hB7.out.setCell (by simp) _))
          go_wp2_with fail
          exact bodyPost_ret (v := .tuple #[.agg #[.slice a6 Q.length c6], .bool true]) (by simp [results, Try.results40, go_sem, Q1]) rfl hfin.out
        · have h40I : (40 : Int) < (Q.length : Int) := by omega
          rw [if_neg h40] at hyes
          go_wp2_with fail
          exact bodyPost_ret (v := .tuple #[.agg #[.slice none 0 0], .bool false]) (by simp [results, Try.results40, go_sem, Q1]) rfl (hret.out _ hB7.out hyes.out)
    | false =>
      have hrn := hd (show valueR r = none by rw [hr.1 (fun g => absurd (hg.2 g) (by simp))]; rfl)
      clear r0 hr hg
      generalize valueR r = R at *
      go_enter Try.func40, Try.ntmps40
      go_upto_region 1 with (fail)
      generalize (w.alloc (.cells #[.slice a1 l.length c1] 28)).alloc (.cells #[.slice none 0 0] 39) = W at *
      have q0 := hq0.out
      go_wp2_with fail
      refine (cg.out _ hbW.out).mono ?_
      rintro e w2 ⟨rfl, hb2⟩
      have hB := hd (hbW.out.next hb2)
      have hx2 := hd (hx.out.below hb2)
      have Q1 := hx2.out.1; have Q2 := hx2.out.2
      clear hb2 q0
      go_wp2_with fail
      exact bodyPost_ret (v := .tuple #[.agg #[.slice none 0 0], .bool false]) (by simp [results, Try.results40, go_sem, Q1]) rfl (hret.out _ hB.out hrn.out)
  · have hbI : (400 : Int) < (b.size : Int) := by omega
    have hrn := hd (show valueR r = none by
      by_cases hgp : goodP l
      · obtain ⟨t, ht⟩ := good_tree hgp
        rw [hr.2 t ht hgp, validR, if_neg hb]; rfl
      · rw [hr.1 hgp]; rfl)
    clear cg r0 hr hg
    generalize valueR r = R at *
    go_enter Try.func40, Try.ntmps40
    go_upto_region 1 with (fail)
    generalize (w.alloc (.cells #[.slice a1 l.length c1] 28)).alloc (.cells #[.slice none 0 0] 39) = W at *
    have Q1 := hx.out.1; have Q2 := hx.out.2
    go_wp2_with fail
    exact bodyPost_ret (v := .tuple #[.agg #[.slice none 0 0], .bool false]) (by simp [results, Try.results40, go_sem, Q1]) rfl (hret.out _ hbW.out hrn.out)
theorem DecodeValue_s2 (b : ByteArray) (l : List DType) (v : Value) (w : World) (hl : l.length ≤ 1000000000) (hs : ∀ x ∈ l, x.name.size ≤ 1000000000000) (h : Sl w v 6 (l.map DType.enc)) (q : Option (List DNode)) (hq : decQ l b q) (z : Bool) (hz : (valueR q).isSome = z) (r : List DNode) (hr : (valueR q).getD [] = r) :
    Calls Try.prog 40 #[.string b, .agg #[v]] w (AggbPost 113 5 (r.map DNode.enc) z w) := by
  have := DecodeValue_s b l v w hl hs h q hq
  unfold VaPost at this
  rw [hz, hr] at this
  exact this
theorem DecodeValue_i2 (b : ByteArray) (l : List DType) (v : Value) (w : World) (hl : l.length ≤ 1000000000) (hs : ∀ x ∈ l, x.name.size ≤ 1000000000000) (h : Sl w v 6 (l.map DType.enc)) (q : Option (List DNode)) (hq : decQ l b q) (z : Bool) (hz : (valueR q).isSome = z) (r : List DNode) (hr : (valueR q).getD [] = r) :
    Calls Try.prog 41 #[.string b, .agg #[v]] w (AggbPost 113 5 (r.map DNode.enc) z w) := by
  have := DecodeValue_i b l v w hl hs h q hq
  unfold VaPost at this
  rw [hz, hr] at this
  exact this
end Go.Proofs.Ytobahkjbadamhaa

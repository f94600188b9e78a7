/- A list's bytes, and a part's, read by the reference: l4Part. -/
import Derived.Test.YtobahkjbadamhaaMsgS
import Derived.Test.YtobahkjbadamhaaDecI
namespace Go.Proofs.Ytobahkjbadamhaa
open Go.RowKit
set_option linter.unusedVariables false
set_option maxRecDepth 100000
theorem itemAt_no {o mo : Int} {g : ByteArray → Option K} {l : List UInt8} {a : Nat} (h : (tkI l a).2.2 = false) : itemAt o mo g l a = none := by
  rw [itemAt]
  split
  · rw [if_neg (by rw [h]; simp)]
  · rw [if_neg]
    rw [tb_bad (fun e => by rw [h] at e; cases e.1)]; simp
theorem itemAt_num {o mo : Int} {g : ByteArray → Option K} {l : List UInt8} {a : Nat} (hf : foldB o = true) (h : (tkI l a).2.2 = true) : itemAt o mo g l a = if numB (unf (tkI l a).1) = true then (if leafN o mo (unf (tkI l a).1) = true then some (leafV (unf (tkI l a).1) ⟨#[]⟩ 0, (tkI l a).2.1) else none) else none := by
  rw [itemAt, if_pos hf]
  have hn : numV o mo (unf (tkI l a).1) = (numB (unf (tkI l a).1) && leafN o mo (unf (tkI l a).1)) := by
    rw [numV, leafN]
    rcases foldB_iff.1 hf with e | e
    · simp [e]
    · simp [e]
  rw [hn]
  cases numB (unf (tkI l a).1) with
  | false => simp
  | true =>
    cases leafN o mo (unf (tkI l a).1) with
    | false => simp
    | true => simp [h]
theorem itemAt_dat {o mo : Int} {g : ByteArray → Option K} {l : List UInt8} {a : Nat} (hf : foldB o = false) (h : (tkI l a).2.2 = true) : itemAt o mo g l a = if (tkI l a).1 + (tkI l a).2.1 ≤ l.length then (g (mkS ((l.drop (tkI l a).2.1).take (tkI l a).1))).map (fun v => (v, (tkI l a).2.1 + (tkI l a).1)) else none := by
  have hf2 : ¬ foldB o = true := by rw [hf]; simp
  by_cases hq : (tkI l a).1 + (tkI l a).2.1 ≤ l.length
  · have e : tb l a = ((l.drop (tkI l a).2.1).take (tkI l a).1, (tkI l a).2.1 + (tkI l a).1, true) := by rw [tb, if_pos ⟨h, hq⟩]
    rw [itemAt, if_neg hf2, e, if_pos rfl, if_pos hq]
  · have e : tb l a = ([], 0, false) := tb_bad (fun e => hq e.2)
    rw [itemAt, if_neg hf2, e, if_neg (by simp), if_neg hq]
theorem exS_set {w w' : World} {c k : Nat} {u : Value} (h : w.heap.size ≤ w'.heap.size ∧ ∀ b o, b < w.heap.size → b ≠ c → w'.cell? ⟨b, o, none⟩ = w.cell? ⟨b, o, none⟩) : w.heap.size ≤ (w'.setCell ⟨c, k, none⟩ u).heap.size ∧ ∀ b o, b < w.heap.size → b ≠ c → (w'.setCell ⟨c, k, none⟩ u).cell? ⟨b, o, none⟩ = w.cell? ⟨b, o, none⟩ :=
  ⟨Nat.le_trans h.1 (grownBy_setCell w' ⟨c, k, none⟩ u).size, fun b o hb hn => by rw [World.cell?_setCell_other _ _ _ _ (by intro e; cases e; exact hn rfl)]; exact h.2 b o hb hn⟩
theorem exS_next {w w1 w2 : World} {c : Nat} (h : w.heap.size ≤ w1.heap.size ∧ ∀ b o, b < w.heap.size → b ≠ c → w1.cell? ⟨b, o, none⟩ = w.cell? ⟨b, o, none⟩) (hb : Below w1.heap.size w1 w2) : w.heap.size ≤ w2.heap.size ∧ ∀ b o, b < w.heap.size → b ≠ c → w2.cell? ⟨b, o, none⟩ = w.cell? ⟨b, o, none⟩ :=
  ⟨Nat.le_trans h.1 hb.size, fun b o hl hn => by rw [hb.cell (p := ⟨b, o, none⟩) (by show b < _; omega)]; exact h.2 b o hl hn⟩
set_option maxHeartbeats 12800000 in
theorem listN_s (t p : K) (hp : t.parts = [p]) (hr : rightK p) (h4 : t.of = 4) (hf : foldB p.of = true) (b : ByteArray) (rT : List Value) (w : World) (lo hi : Nat) (hh : hi ≤ w.heap.size) (hb : b.size ≤ 400) (hc : countK t ≤ 1000) (hR : RepT w lo hi t rT) :
    Calls Try.prog 115 #[.string b, .agg rT.toArray] w (DsPost (decK t 0 b) (b.size + 1) w) := by
  obtain ⟨aT, cT, rwT, rfl, hST, hlT, hgT⟩ := hR.open
  have hdk : decK t 0 b = (itemsF (itemAt p.of p.most (fun d => decK p 0 d) b.data.toList) b.data.toList.length (b.data.toList.length + 1) 0).map (fun vs => K.mk 5 ⟨#[]⟩ 0 true 0 vs) := by rw [decK_eq, if_neg (by omega), if_pos h4, hp, decH]
  have hlen := data_len b
  have hbd := hd (fun a v e (h : itemAt p.of p.most (fun d => decK p 0 d) b.data.toList a = some (v, e)) => item_bd (fun d x _ hx => dec_bd p hr 0 d x hx) h)
  have hH0 := hd (fun a (h : (tkI b.data.toList a).2.2 = false) => itemAt_no (o := p.of) (mo := p.most) (g := fun d => decK p 0 d) h)
  have hH1 := hd (fun a (h : (tkI b.data.toList a).2.2 = true) => itemAt_num (mo := p.most) (g := fun d => decK p 0 d) hf h)
  have htk := hd (fun a => tkS_bd b.data.toList a)
  have hto := hd (fun a => tkS_ok b.data.toList a)
  have htt := hd (fun a (h : (tkI b.data.toList a).2.2 = true) => tkS_true h)
  have hext := hd (fun f m => (show b.extract f (f + m) = mkS ((b.data.toList.drop f).take m) by rw [Lib.extract_eq]; congr 3; omega))
  have cts := hd (fun a w' (h : a ≤ 4611686018427387904) => take_s b a w' (by omega) h)
  have hcp := hd (show countK p ≤ 1000 from by have h1 := count_part (show p ∈ t.parts by rw [hp]; simp); have h2 := countK_eq t; omega)
  have hg0 := hgT 0 (by rw [hp]; simp) (by rw [hlT, hp]; simp)
  have hip : t.parts[0]'(by rw [hp]; simp) = p := by simp [hp]
  rw [hip] at hg0
  obtain ⟨b1, rfl, hb1, hc1⟩ := hST.at (j := 0) (by rw [hlT, hp]; simp)
  obtain ⟨a6, c6, rows6, hr6, hjk6⟩ := hg0.open
  clear hjk6
  have hck := hc1 0 (by rw [hlT, hp]; simp)
  rw [hr6] at hck hg0
  have rp := hd hg0
  have e0 : w.cell? ⟨b1, 0, none⟩ = some (.int .i64 p.of) := by have := hck 0 _ rfl; simpa using this
  have e1 : w.cell? ⟨b1, 1, none⟩ = some (.string p.name) := by have := hck 1 _ rfl; simpa using this
  have e2 : w.cell? ⟨b1, 2, none⟩ = some (.int .i64 p.no) := by have := hck 2 _ rfl; simpa using this
  have e3 : w.cell? ⟨b1, 3, none⟩ = some (.bool p.must) := by have := hck 3 _ rfl; simpa using this
  have e4 : w.cell? ⟨b1, 4, none⟩ = some (.int .i64 p.most) := by have := hck 4 _ rfl; simpa using this
  have e5 : w.cell? ⟨b1, 5, none⟩ = some (.slice a6 p.parts.length c6) := by have := hck 5 _ rfl; simpa using this
  have hE := hd (And.intro e0 (And.intro e1 (And.intro e2 (And.intro e3 (And.intro e4 e5)))))
  have hb1w : b1 < w.heap.size := by omega
  obtain ⟨i0, hi0, hz0, hz1, hz2⟩ := info_parts infoV
  have Hi := hd hi0; have Hz0 := hd hz0; have Hz1 := hd hz1; have Hz2 := hd hz2
  rw [hp, List.length_singleton, h4]
  obtain ⟨D, hD⟩ : ∃ D, decK t 0 b = D := ⟨_, rfl⟩
  rw [hD] at hdk ⊢
  clear hD hi0 hz0 hz1 hz2 e0 e1 e2 e3 e4 e5 hck hg0 hr6 hc1 hgT hlT hST hR hip
  obtain ⟨H, hHe⟩ : ∃ H, itemAt p.of p.most (fun d => decK p 0 d) b.data.toList = H := ⟨_, rfl⟩
  rw [hHe] at hbd hH0 hH1 hdk
  obtain ⟨full, hfull⟩ : ∃ full, itemsF H b.data.toList.length (b.data.toList.length + 1) 0 = full := ⟨_, rfl⟩
  rw [hfull] at hdk
  obtain ⟨l, hl⟩ : ∃ l, b.data.toList = l := ⟨_, rfl⟩
  rw [hl] at hlen hbd hH0 hH1 htk hto htt hext cts hfull
  replace hdk := hd hdk
  replace hfull := hd hfull
  replace hp := hd hp
  replace h4 := hd h4
  clear hl hHe
  have hret := hd (fun (wr : World) (hw : Below w.heap.size w wr) (h0 : full = none) => (show DsPost D (b.size + 1) w (.returned (.tuple #[.agg #[.int .i64 0, .string ⟨#[]⟩, .int .i64 0, .bool false, .slice none 0 0], .bool false])) (setCells wr (w.heap.size + 1) 0 [.int .i64 0, .string ⟨#[]⟩, .int .i64 0, .bool false, .slice none 0 0]) from
    ds_zero (by rw [hdk.out, h0]; rfl) (by omega) (hw.grown (grownBy_setCells (w.heap.size + 1) [.int .i64 0, .string ⟨#[]⟩, .int .i64 0, .bool false, .slice none 0 0] wr 0) hw.size (fun g hg => by cases hg; omega))))
  have hbW := hd (below_a2 w (a := .cells #[.int .i64 4, .string t.name, .int .i64 t.no, .bool t.must, .int .i64 t.most, .slice (some ⟨b1, 0, none⟩) 1 cT] 74) (b := .cells #[.int .i64 0, .string ⟨#[]⟩, .int .i64 0, .bool false, .slice none 0 0] 93))
  have hXt := hd (show BoxN ((w.alloc (.cells #[.int .i64 4, .string t.name, .int .i64 t.no, .bool t.must, .int .i64 t.most, .slice (some ⟨b1, 0, none⟩) 1 cT] 74)).alloc (.cells #[.int .i64 0, .string ⟨#[]⟩, .int .i64 0, .bool false, .slice none 0 0] 93)) w.heap.size [.int .i64 4, .string t.name, .int .i64 t.no, .bool t.must, .int .i64 t.most, .slice (some ⟨b1, 0, none⟩) 1 cT] from (BoxN.new w _ _).below (below_a1 _))
  have hXr := hd (show BoxN ((w.alloc (.cells #[.int .i64 4, .string t.name, .int .i64 t.no, .bool t.must, .int .i64 t.most, .slice (some ⟨b1, 0, none⟩) 1 cT] 74)).alloc (.cells #[.int .i64 0, .string ⟨#[]⟩, .int .i64 0, .bool false, .slice none 0 0] 93)) (w.heap.size + 1) [.int .i64 0, .string ⟨#[]⟩, .int .i64 0, .bool false, .slice none 0 0] from by
    have := BoxN.new (w.alloc (.cells #[.int .i64 4, .string t.name, .int .i64 t.no, .bool t.must, .int .i64 t.most, .slice (some ⟨b1, 0, none⟩) 1 cT] 74)) [.int .i64 0, .string ⟨#[]⟩, .int .i64 0, .bool false, .slice none 0 0] 93
    rw [World.size_alloc] at this
    exact this)
  have hszW : ((w.alloc (.cells #[.int .i64 4, .string t.name, .int .i64 t.no, .bool t.must, .int .i64 t.most, .slice (some ⟨b1, 0, none⟩) 1 cT] 74)).alloc (.cells #[.int .i64 0, .string ⟨#[]⟩, .int .i64 0, .bool false, .slice none 0 0] 93)).heap.size = w.heap.size + 2 := by simp
  go_enter Try.func115, Try.ntmps115
  go_upto_region 1 with (fail)
  generalize (w.alloc (.cells #[.int .i64 4, .string t.name, .int .i64 t.no, .bool t.must, .int .i64 t.most, .slice (some ⟨b1, 0, none⟩) 1 cT] 74)).alloc (.cells #[.int .i64 0, .string ⟨#[]⟩, .int .i64 0, .bool false, .slice none 0 0] 93) = W at *
  have hszWl : w.heap.size + 2 ≤ W.heap.size := by omega
  clear hszW
  have x0 := hXt.out.1 0 _ rfl
  have hb3 := hd (below_a1 W (a := .cells #[.int .i64 0, .string ⟨#[]⟩, .int .i64 0, .bool true, .slice none 0 0] 93))
  have hXo := hd (show BoxN (W.alloc (.cells #[.int .i64 0, .string ⟨#[]⟩, .int .i64 0, .bool true, .slice none 0 0] 93)) W.heap.size [.int .i64 0, .string ⟨#[]⟩, .int .i64 0, .bool true, .slice none 0 0] from BoxN.new W _ _)
  have hz3 : (W.alloc (.cells #[.int .i64 0, .string ⟨#[]⟩, .int .i64 0, .bool true, .slice none 0 0] 93)).heap.size = W.heap.size + 1 := by simp
  go_upto_region 7 with (fail)
  generalize W.alloc (.cells #[.int .i64 0, .string ⟨#[]⟩, .int .i64 0, .bool true, .slice none 0 0] 93) = W3 at *
  have hz3l : W.heap.size + 1 ≤ W3.heap.size := by omega
  clear x0 hz3
  have hbw3 := hd (hbW.out.next hb3.out)
  have hXt3 := hd (hXt.out.below hb3.out)
  have hXr3 := hd (hXr.out.below hb3.out)
  go_wp2_with fail
  go_loopw [7] (fun n wr => ∃ (a f : Nat) (vs : List K) (s : Value) (rws : List (List Value)), n = .int .i64 a ∧ a ≤ l.length ∧ l.length + 1 ≤ a + f ∧ Hd (full = (itemsF H l.length f a).map (fun ws => vs ++ ws)) ∧ Hd (countL vs ≤ a ∧ vs.length ≤ a) ∧ Hd (BoxN wr W.heap.size [.int .i64 0, .string ⟨#[]⟩, .int .i64 0, .bool true, s]) ∧ Hd (Own wr W3.heap.size 93 5 s rws) ∧ Hd (SepX HV 5 wr W3.heap.size s vs rws) ∧ Hd (W3.grownBy wr (some W.heap.size))) (fun n _ => l.length - (intOf n).toNat)
  case atStart => exact ⟨0, l.length + 1, [], .slice none 0 0, [], rfl, Nat.zero_le _, by omega, by rw [hfull.out]; cases full <;> rfl, ⟨Nat.le_refl _, Nat.le_refl _⟩, hXo.out, Own.nil, SepX.nil, grownBy_refl _ _⟩
  case round =>
    obtain ⟨a, f, vs, s, rws, rfl, ha, hfl, hrest, hcv, hX, hO, hSep, hG⟩ := hrel
    obtain ⟨wo, rfl⟩ : ∃ wo : World, wo = wr := ⟨_, rfl⟩
    have hzG := hG.out.size
    have hbwo := hd (hbw3.out.grown hG.out (by have := hbw3.out.size; exact this) (fun g hg => by cases hg; omega))
    have hXto := hd (hXt3.out.grown hG.out (fun e => by have : w.heap.size = W.heap.size := Option.some.inj e; omega))
    have hXro := hd (hXr3.out.grown hG.out (fun e => by have : w.heap.size + 1 = W.heap.size := Option.some.inj e; omega))
    have hszo : W.heap.size + 1 ≤ wo.heap.size := by omega
    by_cases hlt : a < l.length
    · obtain ⟨f, rfl⟩ : ∃ f', f = f' + 1 := ⟨f - 1, by omega⟩
      have hltI : (a : Int) < (b.size : Int) := by omega
      have hal : a ≤ 4611686018427387904 := by omega
      have hstop := hd (fun (h : H a = none) => (show full = none by rw [hrest.out, itemsF_stop hlt h]; rfl))
      have hgo := hd (fun v e (h : H a = some (v, e)) => (show full = (itemsF H l.length f e).map (fun ws => (vs ++ [v]) ++ ws) by rw [hrest.out, itemsF_go hlt h, Option.map_map]; congr 1; funext ws; simp))
      have hcs := hd (fun v => countL_snoc' vs v)
      have ct := hd (cts.out a wo hal)
      have hsb := hd (htk.out a)
      have hso := hd (hto.out a)
      have hsT := hd (htt.out a)
      have hHa0 := hd (hH0.out a)
      have hHa1 := hd (hH1.out a)
      have hbda := hd (fun v e => hbd.out a v e)
      obtain ⟨⟨tn, te, tok⟩, hT⟩ : ∃ T, tkS l a = T := ⟨_, rfl⟩
      rw [hT] at ct hsb hso hsT
      replace hT := hd hT
      dsimp only at hsb hso
      go_wp2_with fail
      refine ct.out.mono ?_
      rintro e w4 ⟨rfl, rfl⟩
      cases tok with
      | false =>
        have h0 := hd (hstop.out (hHa0.out hso.out.symm))
        have z0 := hXro.out.1 0 _ rfl; have rz0 := hXro.out.2.1 0; have z1 := hXro.out.1 1 _ rfl; have rz1 := hXro.out.2.1 1; have z2 := hXro.out.1 2 _ rfl; have rz2 := hXro.out.2.1 2; have z3 := hXro.out.1 3 _ rfl; have rz3 := hXro.out.2.1 3; have z4 := hXro.out.1 4 _ rfl; have rz4 := hXro.out.2.1 4
        go_wp2_with fail
        exact bodyPost_ret (v := .tuple #[.agg #[.int .i64 0, .string ⟨#[]⟩, .int .i64 0, .bool false, .slice none 0 0], .bool false]) (by simp [results, Try.results115, go_sem, z0, z1, z2, z3, z4]) rfl (hret.out _ hbwo.out h0.out)
      | true =>
        have hti := hd (hsT.out hso.out.symm)
        have hHa := hd (hHa1.out hso.out.symm)
        rw [← hti.out] at hHa
        dsimp only at hHa
        have htn : tn ≤ 2000000001 := hsb.out.1
        have hte : te ≤ l.length := (hsb.out.2 rfl).2
        have cu := hd (fun w' => unfold_s (tn : Int) w' (by omega) (by omega))
        have hun := unf_bd (tn : Int) (by omega) (by omega)
        obtain ⟨un, hun2⟩ : ∃ un, unf (tn : Int) = un := ⟨_, rfl⟩
        first
        | rw [hun2] at cu hHa hun
        | rw [hun2] at cu hun
        replace hun2 := hd hun2
        clear hsb hso hsT hHa0 hHa1 hT hti
        go_wp2_with fail
        refine (cu.out _).mono ?_
        rintro e w4 ⟨rfl, rfl⟩
        have hb8 := hd (below_a1 wo (a := .cells #[.int .i64 un, .string ⟨#[]⟩, .int .i64 0, .bool false, .slice none 0 0] 93))
        have hX8 := hd (show BoxN (wo.alloc (.cells #[.int .i64 un, .string ⟨#[]⟩, .int .i64 0, .bool false, .slice none 0 0] 93)) wo.heap.size [.int .i64 un, .string ⟨#[]⟩, .int .i64 0, .bool false, .slice none 0 0] from BoxN.new wo _ _)
        have hz8 : (wo.alloc (.cells #[.int .i64 un, .string ⟨#[]⟩, .int .i64 0, .bool false, .slice none 0 0] 93)).heap.size = wo.heap.size + 1 := by simp
        go_upto_region 13 with (fail)
        generalize wo.alloc (.cells #[.int .i64 un, .string ⟨#[]⟩, .int .i64 0, .bool false, .slice none 0 0] 93) = W8 at *
        have hz8l : wo.heap.size + 1 ≤ W8.heap.size := by omega
        clear hz8
        have hbw8 := hd (hbwo.out.next hb8.out)
        have hXt8 := hd (hXto.out.below hb8.out)
        obtain ⟨e0, e1, e2, e3, e4, e5⟩ := hE.out
        have d0 := keepCell hbw8.out e0
        have d1 := keepCell hbw8.out e1
        have d2 := keepCell hbw8.out e2
        have d3 := keepCell hbw8.out e3
        have d4 := keepCell hbw8.out e4
        have d5 := keepCell hbw8.out e5
        clear e0 e1 e2 e3 e4 e5
        have x5 := hXt8.out.1 5 _ rfl
        have cfo := hd (fun w' => folded_b p.of (.string p.name) (.int .i64 p.no) (.bool p.must) (.int .i64 p.most) (.slice a6 p.parts.length c6) w')
        rw [hf] at cfo
        go_wp2_with fail
        refine (cfo.out _).mono ?_
        rintro e w9 ⟨rfl, hb9⟩
        have hb89 := hd (hb8.out.next hb9)
        have hbw9 := hd (hbw8.out.next hb9)
        have hX9 := hd (hX8.out.below hb9)
        have hXr9 := hd (hXro.out.below hb89.out)
        have hXt9 := hd (hXto.out.below hb89.out)
        have hX9z : wo.heap.size + 1 ≤ w9.heap.size := by have := hb9.size; omega
        clear hb9 d0 d1 d2 d3 d4 d5 x5
        have cn := hd (fun w' => number_s un w')
        have k0 := hX9.out.1 0 _ rfl
        obtain ⟨nb, hnb⟩ : ∃ nb, numB un = nb := ⟨_, rfl⟩
        rw [hnb] at cn hHa
        replace hnb := hd hnb
        go_wp2_with fail
        refine (cn.out _).mono ?_
        rintro e w4 ⟨rfl, rfl⟩
        clear k0
        cases nb with
        | false =>
          have h0 := hd (hstop.out (by rw [hHa.out]; rfl))
          have z0 := hXr9.out.1 0 _ rfl; have rz0 := hXr9.out.2.1 0; have z1 := hXr9.out.1 1 _ rfl; have rz1 := hXr9.out.2.1 1; have z2 := hXr9.out.1 2 _ rfl; have rz2 := hXr9.out.2.1 2; have z3 := hXr9.out.1 3 _ rfl; have rz3 := hXr9.out.2.1 3; have z4 := hXr9.out.1 4 _ rfl; have rz4 := hXr9.out.2.1 4
          go_wp2_with fail
          exact bodyPost_ret (v := .tuple #[.agg #[.int .i64 0, .string ⟨#[]⟩, .int .i64 0, .bool false, .slice none 0 0], .bool false]) (by simp [results, Try.results115, go_sem, z0, z1, z2, z3, z4]) rfl (hret.out _ hbw9.out h0.out)
        | true =>
          obtain ⟨T, hT⟩ : ∃ T, T = leafV un ⟨#[]⟩ 0 := ⟨_, rfl⟩
          obtain ⟨aV, hav⟩ : ∃ aV : Option Addr, aV = none := ⟨_, rfl⟩
          obtain ⟨cV, hcV⟩ : ∃ cV : Nat, cV = 0 := ⟨_, rfl⟩
          have hXN := hd (show BoxN w9 wo.heap.size [.int .i64 T.most, .string T.name, .int .i64 T.no, .bool T.must, .slice aV T.parts.length cV] from by rw [hT, hav, hcV]; exact hX9.out)
          have hRN := hd (show RepX HV 5 w9 (wo.heap.size + 1) w9.heap.size T [.int .i64 T.most, .string T.name, .int .i64 T.no, .bool T.must, .slice aV T.parts.length cV] from by rw [hT, hav, hcV]; exact repLeaf _ _ _ _ _ _)
          obtain ⟨teN, hteN⟩ : ∃ teN, teN = te := ⟨_, rfl⟩
          have hHN := hd (show H a = if leafN p.of p.most T.most = true then some (T, teN) else none from by rw [hHa.out, hT, hteN]; rfl)
          subst hteN
          clear hT hav hcV hX9 hHa
          have hzN0 : wo.heap.size + 1 ≤ w9.heap.size := by exact hX9z
          have hbwN := hbw9
          have hXtN := hXt9
          have hXrN := hXr9
          have hb8N := hb89
          have hzN : wo.heap.size + 1 ≤ w9.heap.size := hzN0
          have hltX : wo.heap.size < w9.heap.size := by omega
          have hltT : w.heap.size < w9.heap.size := by omega
          have hltB : b1 < w9.heap.size := by omega
          obtain ⟨e0, e1, e2, e3, e4, e5⟩ := hE.out
          have d0 := keepCell hbwN.out e0
          have d1 := keepCell hbwN.out e1
          have d2 := keepCell hbwN.out e2
          have d3 := keepCell hbwN.out e3
          have d4 := keepCell hbwN.out e4
          have d5 := keepCell hbwN.out e5
          clear e0 e1 e2 e3 e4 e5
          have x5 := hXtN.out.1 5 _ rfl
          have u0 := hXN.out.1 0 _ rfl; have u1 := hXN.out.1 1 _ rfl; have u2 := hXN.out.1 2 _ rfl; have u3 := hXN.out.1 3 _ rfl; have u4 := hXN.out.1 4 _ rfl
          have cl := hd (fun w' => leaf_s p.of p.most T.most (.string T.name) (.int .i64 T.no) (.bool T.must) (.slice aV T.parts.length cV) (.string p.name) (.int .i64 p.no) (.bool p.must) (.slice a6 p.parts.length c6) w')
          generalize leafN p.of p.most T.most = lb at *
          go_wp2_with fail
          go_region_held3 (fun w' => w9.heap.size ≤ w'.heap.size ∧ ∀ b o, b < w9.heap.size → w'.cell? ⟨b, o, none⟩ = w9.cell? ⟨b, o, none⟩)
            (first | exact ⟨Nat.le_refl _, fun b o h => rfl⟩ | exact ⟨Nat.le_trans (Nat.le_refl _) hbL.out.size, fun b o h => hbL.out.cell (p := ⟨b, o, none⟩) h⟩)
            (first | (go_at_call 116; refine (cl.out _).mono ?_; rintro e wL ⟨rfl, hbL0⟩; have hbL := hd (show Below w9.heap.size w9 wL from by first | exact hbL0 | exact (Below.refl _ w9).drew.next hbL0); clear hbL0))
          rename_i hHeld
          clear hHeld d0 d1 d2 d3 d4 d5 x5 u0 u1 u2 u3 u4
          have hb8L := hd (hb8N.out.next hbL.out)
          have hbwL := hd (hbwN.out.next hbL.out)
          have hXrL := hd (hXrN.out.below hbL.out)
          have hXL := hd (hXN.out.below hbL.out)
          have hRL := hd (RepX.same (Same.below hbL.out (Nat.le_refl _)) (Nat.le_refl _) hbL.out.size _ _ hRN.out)
          cases lb with
          | false =>
            have h0 := hd (hstop.out (by rw [hHN.out]; rfl))
            have z0 := hXrL.out.1 0 _ rfl; have rz0 := hXrL.out.2.1 0; have z1 := hXrL.out.1 1 _ rfl; have rz1 := hXrL.out.2.1 1; have z2 := hXrL.out.1 2 _ rfl; have rz2 := hXrL.out.2.1 2; have z3 := hXrL.out.1 3 _ rfl; have rz3 := hXrL.out.2.1 3; have z4 := hXrL.out.1 4 _ rfl; have rz4 := hXrL.out.2.1 4
            go_wp2_with fail
            exact bodyPost_ret (v := .tuple #[.agg #[.int .i64 0, .string ⟨#[]⟩, .int .i64 0, .bool false, .slice none 0 0], .bool false]) (by simp [results, Try.results115, go_sem, z0, z1, z2, z3, z4]) rfl (hret.out _ hbwL.out h0.out)
          | true =>
            have hHs := hd (show H a = some (T, teN) by rw [hHN.out]; rfl)
            have hg1 := hd (hgo.out _ _ hHs.out)
            have hb4 := hbda.out _ _ hHs.out
            have hcn := hd (show countL (vs ++ [T]) ≤ teN ∧ (vs ++ [T]).length ≤ teN by
              rw [hcs.out, List.length_append, List.length_singleton]
              have := hcv.out
              omega)
            have hvl := hcv.out.2
            have hrws : rws.length ≤ 1000000 := by have hrl := hSep.out.1; omega
            have hXoL := hd (hX.out.below hb8L.out)
            have hOL := hd (hO.out.below hb8L.out)
            have hSL := hd ((hSep.out.below hb8L.out).snoc (b := W3.heap.size) (lo := wo.heap.size + 1) (hi := wL.heap.size) (by omega) (Nat.le_refl _) (fun g hg => by left; have := (hO.out.lt g hg).2; omega) hRL.out)
            have hGL := hd (grownBy_trans hG.out (below_grownBy hb8L.out (some W.heap.size)) (.inl rfl))
            have y4 := hXoL.out.1 4 _ rfl
            have u0 := hXL.out.1 0 _ rfl; have u1 := hXL.out.1 1 _ rfl; have u2 := hXL.out.1 2 _ rfl; have u3 := hXL.out.1 3 _ rfl; have u4 := hXL.out.1 4 _ rfl
            have hszL : W3.heap.size ≤ wL.heap.size := by have := hb8L.out.size; omega
            clear hrest hstop hHs hgo
            go_wp2_with (at_builtin; refine wpList_appOwn rfl (.tmp 93) (.tmp 95) 91 rfl W3.heap.size 93 i0 _ 5 64 Try.underlying91 Hi.out Hz0.out Hz1.out Hz2.out rfl (by decide) _ rws [[.int .i64 T.most, .string T.name, .int .i64 T.no, .bool T.must, .slice aV T.parts.length cV]] rfl (hOL.out.below (below_a1 _)) _ 1 1 rfl rfl (one_row rfl) (cells_new _ _ _) rowV_one (by omega) (by decide) (by first | omega | exact Nat.le_refl _ | (simp; done) | (simp; omega)) ?_; intro s6 w6 ho6 hga hva; obtain ⟨a7, c7, rfl, hjk⟩ := ho6.sl; clear hjk; rw [List.length_append, List.length_singleton] at *; have hX6 := hd ((hXoL.out.below (below_a1 _)).grown hga (by intro e; have := (hOL.out.lt _ e.symm).1; omega)); have y6 := hX6.out.1 4 _ rfl; have r6 := hX6.out.2.1 4; have hga := hd hga; have hva := hd hva; have ho6 := hd ho6; clear y4)
            have hne6 : ∀ g, (Value.slice a7 (rws.length + 1) c7).ownBlock = some g → W3.heap.size ≤ g := fun g hg => (ho6.out.lt g hg).1
            have hX7 := hd (hX6.out.set (i := 4) (by simp) (.slice a7 (rws.length + 1) c7))
            have hO7 := hd (ho6.out.kept (grownBy_setCell w6 ⟨W.heap.size, 4, none⟩ (.slice a7 (rws.length + 1) c7)) (.inr (fun e => by have : W3.heap.size ≤ W.heap.size := hne6 _ e; omega)))
            have hS7 := hd (((hSL.out.below (below_a1 _)).grown (Gr.app hga.out hva.out)).set (c := W.heap.size) (k := 4) (u := .slice a7 (rws.length + 1) c7) (by omega))
            have hG7 := hd (grownBy_trans (grownBy_trans (grownBy_trans hGL.out (below_grownBy (below_a1 wL (a := _)) (some W.heap.size)) (.inl rfl)) hga.out (.inr (fun g hg => by have := (hOL.out.lt g hg).1; omega))) (grownBy_setCell w6 ⟨W.heap.size, 4, none⟩ (.slice a7 (rws.length + 1) c7)) (.inl rfl))
            go_wp2_with fail
            go_roundw
            case rel => exact ⟨teN, f, _, .slice a7 (rws.length + 1) c7, _, by go_num, hb4.2.1, by omega, hg1, hd (by rw [List.length_append, List.length_singleton]; exact hcn.out), hX7, hO7, hS7, hG7⟩
            case measure => simp [intOf]; omega
    · obtain rfl : a = l.length := by omega
      obtain ⟨f, rfl⟩ : ∃ f', f = f' + 1 := ⟨f - 1, by omega⟩
      have hltI : ¬ (l.length : Int) < (b.size : Int) := by omega
      have hfin := hd (show full = some vs by rw [hrest.out, itemsF_end (Nat.lt_irrefl _)]; simp)
      have hDm := hd (show D = some (.mk 5 ⟨#[]⟩ 0 true 0 vs) by rw [hdk.out, hfin.out]; rfl)
      have hlen2 : rws.length = vs.length := hSep.out.1
      have hxs := XSl.own hO.out (fun g hg => (hO.out.lt g hg).2)
      obtain ⟨aS, cS, rfl, hjk⟩ := hO.out.sl
      clear hjk
      have hRX := hd (show RepX HV 5 wo W3.heap.size wo.heap.size (.mk 5 ⟨#[]⟩ 0 true 0 vs) [.int .i64 0, .string ⟨#[]⟩, .int .i64 0, .bool true, .slice aS rws.length cS] from RepX.mk (H := HV) (t := .mk 5 ⟨#[]⟩ 0 true 0 vs) hxs (hSep.out.rep (Nat.le_refl _)))
      have hGf := hd (grownBy_setCells (w.heap.size + 1) [.int .i64 0, .string ⟨#[]⟩, .int .i64 0, .bool true, .slice aS rws.length cS] wo 0)
      have hfin0 := hd (show DsPost D (b.size + 1) w (.returned (.tuple #[.agg #[.int .i64 0, .string ⟨#[]⟩, .int .i64 0, .bool true, .slice aS rws.length cS], .bool true])) (setCells wo (w.heap.size + 1) 0 [.int .i64 0, .string ⟨#[]⟩, .int .i64 0, .bool true, .slice aS rws.length cS]) from by
        refine ⟨[.int .i64 0, .string ⟨#[]⟩, .int .i64 0, .bool true, .slice aS rws.length cS], .mk 5 ⟨#[]⟩ 0 true 0 vs, by rw [hDm.out]; rfl, ?_, ?_, ?_, ?_⟩
        · exact RepX.same (Same.grown hGf.out (Nat.le_refl _) (fun g hg => by cases hg; left; omega)) (by omega) hGf.out.size _ _ hRX.out
        · intro v hv
          rw [hDm.out] at hv
          cases hv; rfl
        · rw [countK_eq]; show 1 + countL vs ≤ _; have := hcv.out; omega
        · exact hbwo.out.grown hGf.out hbwo.out.size (fun g hg => by cases hg; omega))
      have y0 := hX.out.1 0 _ rfl; have y1 := hX.out.1 1 _ rfl; have y2 := hX.out.1 2 _ rfl; have y3 := hX.out.1 3 _ rfl; have y4 := hX.out.1 4 _ rfl
      have z0 := hXro.out.1 0 _ rfl; have rz0 := hXro.out.2.1 0; have z1 := hXro.out.1 1 _ rfl; have rz1 := hXro.out.2.1 1; have z2 := hXro.out.1 2 _ rfl; have rz2 := hXro.out.2.1 2; have z3 := hXro.out.1 3 _ rfl; have rz3 := hXro.out.2.1 3; have z4 := hXro.out.1 4 _ rfl; have rz4 := hXro.out.2.1 4
      clear hxs hlen2 hDm hfin hRX hGf
      go_wp2_with fail
      exact bodyPost_ret (v := .tuple #[.agg #[.int .i64 0, .string ⟨#[]⟩, .int .i64 0, .bool true, .slice aS rws.length cS], .bool true]) (by simp [results, Try.results115, go_sem, z0, z1, z2, z3, z4]) rfl hfin0.out
set_option maxHeartbeats 12800000 in
theorem listD_s (t p : K) (hp : t.parts = [p]) (hr : rightK p) (h4 : t.of = 4) (hf : foldB p.of = false) (ih : PartC p) (b : ByteArray) (rT : List Value) (w : World) (lo hi : Nat) (hh : hi ≤ w.heap.size) (hb : b.size ≤ 400) (hc : countK t ≤ 1000) (hR : RepT w lo hi t rT) :
    Calls Try.prog 115 #[.string b, .agg rT.toArray] w (DsPost (decK t 0 b) (b.size + 1) w) := by
  obtain ⟨aT, cT, rwT, rfl, hST, hlT, hgT⟩ := hR.open
  have hdk : decK t 0 b = (itemsF (itemAt p.of p.most (fun d => decK p 0 d) b.data.toList) b.data.toList.length (b.data.toList.length + 1) 0).map (fun vs => K.mk 5 ⟨#[]⟩ 0 true 0 vs) := by rw [decK_eq, if_neg (by omega), if_pos h4, hp, decH]
  have hlen := data_len b
  have hbd := hd (fun a v e (h : itemAt p.of p.most (fun d => decK p 0 d) b.data.toList a = some (v, e)) => item_bd (fun d x _ hx => dec_bd p hr 0 d x hx) h)
  have hH0 := hd (fun a (h : (tkI b.data.toList a).2.2 = false) => itemAt_no (o := p.of) (mo := p.most) (g := fun d => decK p 0 d) h)
  have hH1 := hd (fun a (h : (tkI b.data.toList a).2.2 = true) => itemAt_dat (mo := p.most) (g := fun d => decK p 0 d) hf h)
  have htk := hd (fun a => tkS_bd b.data.toList a)
  have hto := hd (fun a => tkS_ok b.data.toList a)
  have htt := hd (fun a (h : (tkI b.data.toList a).2.2 = true) => tkS_true h)
  have hext := hd (fun f m => (show b.extract f (f + m) = mkS ((b.data.toList.drop f).take m) by rw [Lib.extract_eq]; congr 3; omega))
  have cts := hd (fun a w' (h : a ≤ 4611686018427387904) => take_s b a w' (by omega) h)
  have hcp := hd (show countK p ≤ 1000 from by have h1 := count_part (show p ∈ t.parts by rw [hp]; simp); have h2 := countK_eq t; omega)
  have hg0 := hgT 0 (by rw [hp]; simp) (by rw [hlT, hp]; simp)
  have hip : t.parts[0]'(by rw [hp]; simp) = p := by simp [hp]
  rw [hip] at hg0
  obtain ⟨b1, rfl, hb1, hc1⟩ := hST.at (j := 0) (by rw [hlT, hp]; simp)
  obtain ⟨a6, c6, rows6, hr6, hjk6⟩ := hg0.open
  clear hjk6
  have hck := hc1 0 (by rw [hlT, hp]; simp)
  rw [hr6] at hck hg0
  have rp := hd hg0
  have e0 : w.cell? ⟨b1, 0, none⟩ = some (.int .i64 p.of) := by have := hck 0 _ rfl; simpa using this
  have e1 : w.cell? ⟨b1, 1, none⟩ = some (.string p.name) := by have := hck 1 _ rfl; simpa using this
  have e2 : w.cell? ⟨b1, 2, none⟩ = some (.int .i64 p.no) := by have := hck 2 _ rfl; simpa using this
  have e3 : w.cell? ⟨b1, 3, none⟩ = some (.bool p.must) := by have := hck 3 _ rfl; simpa using this
  have e4 : w.cell? ⟨b1, 4, none⟩ = some (.int .i64 p.most) := by have := hck 4 _ rfl; simpa using this
  have e5 : w.cell? ⟨b1, 5, none⟩ = some (.slice a6 p.parts.length c6) := by have := hck 5 _ rfl; simpa using this
  have hE := hd (And.intro e0 (And.intro e1 (And.intro e2 (And.intro e3 (And.intro e4 e5)))))
  have hb1w : b1 < w.heap.size := by omega
  obtain ⟨i0, hi0, hz0, hz1, hz2⟩ := info_parts infoV
  have Hi := hd hi0; have Hz0 := hd hz0; have Hz1 := hd hz1; have Hz2 := hd hz2
  rw [hp, List.length_singleton, h4]
  obtain ⟨D, hD⟩ : ∃ D, decK t 0 b = D := ⟨_, rfl⟩
  rw [hD] at hdk ⊢
  clear hD hi0 hz0 hz1 hz2 e0 e1 e2 e3 e4 e5 hck hg0 hr6 hc1 hgT hlT hST hR hip
  obtain ⟨H, hHe⟩ : ∃ H, itemAt p.of p.most (fun d => decK p 0 d) b.data.toList = H := ⟨_, rfl⟩
  rw [hHe] at hbd hH0 hH1 hdk
  obtain ⟨full, hfull⟩ : ∃ full, itemsF H b.data.toList.length (b.data.toList.length + 1) 0 = full := ⟨_, rfl⟩
  rw [hfull] at hdk
  obtain ⟨l, hl⟩ : ∃ l, b.data.toList = l := ⟨_, rfl⟩
  rw [hl] at hlen hbd hH0 hH1 htk hto htt hext cts hfull
  replace hdk := hd hdk
  replace hfull := hd hfull
  replace hp := hd hp
  replace h4 := hd h4
  clear hl hHe
  have hret := hd (fun (wr : World) (hw : Below w.heap.size w wr) (h0 : full = none) => (show DsPost D (b.size + 1) w (.returned (.tuple #[.agg #[.int .i64 0, .string ⟨#[]⟩, .int .i64 0, .bool false, .slice none 0 0], .bool false])) (setCells wr (w.heap.size + 1) 0 [.int .i64 0, .string ⟨#[]⟩, .int .i64 0, .bool false, .slice none 0 0]) from
    ds_zero (by rw [hdk.out, h0]; rfl) (by omega) (hw.grown (grownBy_setCells (w.heap.size + 1) [.int .i64 0, .string ⟨#[]⟩, .int .i64 0, .bool false, .slice none 0 0] wr 0) hw.size (fun g hg => by cases hg; omega))))
  have hbW := hd (below_a2 w (a := .cells #[.int .i64 4, .string t.name, .int .i64 t.no, .bool t.must, .int .i64 t.most, .slice (some ⟨b1, 0, none⟩) 1 cT] 74) (b := .cells #[.int .i64 0, .string ⟨#[]⟩, .int .i64 0, .bool false, .slice none 0 0] 93))
  have hXt := hd (show BoxN ((w.alloc (.cells #[.int .i64 4, .string t.name, .int .i64 t.no, .bool t.must, .int .i64 t.most, .slice (some ⟨b1, 0, none⟩) 1 cT] 74)).alloc (.cells #[.int .i64 0, .string ⟨#[]⟩, .int .i64 0, .bool false, .slice none 0 0] 93)) w.heap.size [.int .i64 4, .string t.name, .int .i64 t.no, .bool t.must, .int .i64 t.most, .slice (some ⟨b1, 0, none⟩) 1 cT] from (BoxN.new w _ _).below (below_a1 _))
  have hXr := hd (show BoxN ((w.alloc (.cells #[.int .i64 4, .string t.name, .int .i64 t.no, .bool t.must, .int .i64 t.most, .slice (some ⟨b1, 0, none⟩) 1 cT] 74)).alloc (.cells #[.int .i64 0, .string ⟨#[]⟩, .int .i64 0, .bool false, .slice none 0 0] 93)) (w.heap.size + 1) [.int .i64 0, .string ⟨#[]⟩, .int .i64 0, .bool false, .slice none 0 0] from by
    have := BoxN.new (w.alloc (.cells #[.int .i64 4, .string t.name, .int .i64 t.no, .bool t.must, .int .i64 t.most, .slice (some ⟨b1, 0, none⟩) 1 cT] 74)) [.int .i64 0, .string ⟨#[]⟩, .int .i64 0, .bool false, .slice none 0 0] 93
    rw [World.size_alloc] at this
    exact this)
  have hszW : ((w.alloc (.cells #[.int .i64 4, .string t.name, .int .i64 t.no, .bool t.must, .int .i64 t.most, .slice (some ⟨b1, 0, none⟩) 1 cT] 74)).alloc (.cells #[.int .i64 0, .string ⟨#[]⟩, .int .i64 0, .bool false, .slice none 0 0] 93)).heap.size = w.heap.size + 2 := by simp
  go_enter Try.func115, Try.ntmps115
  go_upto_region 1 with (fail)
  generalize (w.alloc (.cells #[.int .i64 4, .string t.name, .int .i64 t.no, .bool t.must, .int .i64 t.most, .slice (some ⟨b1, 0, none⟩) 1 cT] 74)).alloc (.cells #[.int .i64 0, .string ⟨#[]⟩, .int .i64 0, .bool false, .slice none 0 0] 93) = W at *
  have hszWl : w.heap.size + 2 ≤ W.heap.size := by omega
  clear hszW
  have x0 := hXt.out.1 0 _ rfl
  have hb3 := hd (below_a1 W (a := .cells #[.int .i64 0, .string ⟨#[]⟩, .int .i64 0, .bool true, .slice none 0 0] 93))
  have hXo := hd (show BoxN (W.alloc (.cells #[.int .i64 0, .string ⟨#[]⟩, .int .i64 0, .bool true, .slice none 0 0] 93)) W.heap.size [.int .i64 0, .string ⟨#[]⟩, .int .i64 0, .bool true, .slice none 0 0] from BoxN.new W _ _)
  have hz3 : (W.alloc (.cells #[.int .i64 0, .string ⟨#[]⟩, .int .i64 0, .bool true, .slice none 0 0] 93)).heap.size = W.heap.size + 1 := by simp
  go_upto_region 7 with (fail)
  generalize W.alloc (.cells #[.int .i64 0, .string ⟨#[]⟩, .int .i64 0, .bool true, .slice none 0 0] 93) = W3 at *
  have hz3l : W.heap.size + 1 ≤ W3.heap.size := by omega
  clear x0 hz3
  have hbw3 := hd (hbW.out.next hb3.out)
  have hXt3 := hd (hXt.out.below hb3.out)
  have hXr3 := hd (hXr.out.below hb3.out)
  go_wp2_with fail
  go_loopw [7] (fun n wr => ∃ (a f : Nat) (vs : List K) (s : Value) (rws : List (List Value)), n = .int .i64 a ∧ a ≤ l.length ∧ l.length + 1 ≤ a + f ∧ Hd (full = (itemsF H l.length f a).map (fun ws => vs ++ ws)) ∧ Hd (countL vs ≤ a ∧ vs.length ≤ a) ∧ Hd (BoxN wr W.heap.size [.int .i64 0, .string ⟨#[]⟩, .int .i64 0, .bool true, s]) ∧ Hd (Own wr W3.heap.size 93 5 s rws) ∧ Hd (SepX HV 5 wr W3.heap.size s vs rws) ∧ Hd (W3.grownBy wr (some W.heap.size))) (fun n _ => l.length - (intOf n).toNat)
  case atStart => exact ⟨0, l.length + 1, [], .slice none 0 0, [], rfl, Nat.zero_le _, by omega, by rw [hfull.out]; cases full <;> rfl, ⟨Nat.le_refl _, Nat.le_refl _⟩, hXo.out, Own.nil, SepX.nil, grownBy_refl _ _⟩
  case round =>
    obtain ⟨a, f, vs, s, rws, rfl, ha, hfl, hrest, hcv, hX, hO, hSep, hG⟩ := hrel
    obtain ⟨wo, rfl⟩ : ∃ wo : World, wo = wr := ⟨_, rfl⟩
    have hzG := hG.out.size
    have hbwo := hd (hbw3.out.grown hG.out (by have := hbw3.out.size; exact this) (fun g hg => by cases hg; omega))
    have hXto := hd (hXt3.out.grown hG.out (fun e => by have : w.heap.size = W.heap.size := Option.some.inj e; omega))
    have hXro := hd (hXr3.out.grown hG.out (fun e => by have : w.heap.size + 1 = W.heap.size := Option.some.inj e; omega))
    have hszo : W.heap.size + 1 ≤ wo.heap.size := by omega
    by_cases hlt : a < l.length
    · obtain ⟨f, rfl⟩ : ∃ f', f = f' + 1 := ⟨f - 1, by omega⟩
      have hltI : (a : Int) < (b.size : Int) := by omega
      have hal : a ≤ 4611686018427387904 := by omega
      have hstop := hd (fun (h : H a = none) => (show full = none by rw [hrest.out, itemsF_stop hlt h]; rfl))
      have hgo := hd (fun v e (h : H a = some (v, e)) => (show full = (itemsF H l.length f e).map (fun ws => (vs ++ [v]) ++ ws) by rw [hrest.out, itemsF_go hlt h, Option.map_map]; congr 1; funext ws; simp))
      have hcs := hd (fun v => countL_snoc' vs v)
      have ct := hd (cts.out a wo hal)
      have hsb := hd (htk.out a)
      have hso := hd (hto.out a)
      have hsT := hd (htt.out a)
      have hHa0 := hd (hH0.out a)
      have hHa1 := hd (hH1.out a)
      have hbda := hd (fun v e => hbd.out a v e)
      obtain ⟨⟨tn, te, tok⟩, hT⟩ : ∃ T, tkS l a = T := ⟨_, rfl⟩
      rw [hT] at ct hsb hso hsT
      replace hT := hd hT
      dsimp only at hsb hso
      go_wp2_with fail
      refine ct.out.mono ?_
      rintro e w4 ⟨rfl, rfl⟩
      cases tok with
      | false =>
        have h0 := hd (hstop.out (hHa0.out hso.out.symm))
        have z0 := hXro.out.1 0 _ rfl; have rz0 := hXro.out.2.1 0; have z1 := hXro.out.1 1 _ rfl; have rz1 := hXro.out.2.1 1; have z2 := hXro.out.1 2 _ rfl; have rz2 := hXro.out.2.1 2; have z3 := hXro.out.1 3 _ rfl; have rz3 := hXro.out.2.1 3; have z4 := hXro.out.1 4 _ rfl; have rz4 := hXro.out.2.1 4
        go_wp2_with fail
        exact bodyPost_ret (v := .tuple #[.agg #[.int .i64 0, .string ⟨#[]⟩, .int .i64 0, .bool false, .slice none 0 0], .bool false]) (by simp [results, Try.results115, go_sem, z0, z1, z2, z3, z4]) rfl (hret.out _ hbwo.out h0.out)
      | true =>
        have hti := hd (hsT.out hso.out.symm)
        have hHa := hd (hHa1.out hso.out.symm)
        rw [← hti.out] at hHa
        dsimp only at hHa
        have htn : tn ≤ 2000000001 := hsb.out.1
        have hte : te ≤ l.length := (hsb.out.2 rfl).2
        have cu := hd (fun w' => unfold_s (tn : Int) w' (by omega) (by omega))
        have hun := unf_bd (tn : Int) (by omega) (by omega)
        obtain ⟨un, hun2⟩ : ∃ un, unf (tn : Int) = un := ⟨_, rfl⟩
        first
        | rw [hun2] at cu hHa hun
        | rw [hun2] at cu hun
        replace hun2 := hd hun2
        clear hsb hso hsT hHa0 hHa1 hT hti
        go_wp2_with fail
        refine (cu.out _).mono ?_
        rintro e w4 ⟨rfl, rfl⟩
        have hb8 := hd (below_a1 wo (a := .cells #[.int .i64 un, .string ⟨#[]⟩, .int .i64 0, .bool false, .slice none 0 0] 93))
        have hX8 := hd (show BoxN (wo.alloc (.cells #[.int .i64 un, .string ⟨#[]⟩, .int .i64 0, .bool false, .slice none 0 0] 93)) wo.heap.size [.int .i64 un, .string ⟨#[]⟩, .int .i64 0, .bool false, .slice none 0 0] from BoxN.new wo _ _)
        have hz8 : (wo.alloc (.cells #[.int .i64 un, .string ⟨#[]⟩, .int .i64 0, .bool false, .slice none 0 0] 93)).heap.size = wo.heap.size + 1 := by simp
        go_upto_region 13 with (fail)
        generalize wo.alloc (.cells #[.int .i64 un, .string ⟨#[]⟩, .int .i64 0, .bool false, .slice none 0 0] 93) = W8 at *
        have hz8l : wo.heap.size + 1 ≤ W8.heap.size := by omega
        clear hz8
        have hbw8 := hd (hbwo.out.next hb8.out)
        have hXt8 := hd (hXto.out.below hb8.out)
        obtain ⟨e0, e1, e2, e3, e4, e5⟩ := hE.out
        have d0 := keepCell hbw8.out e0
        have d1 := keepCell hbw8.out e1
        have d2 := keepCell hbw8.out e2
        have d3 := keepCell hbw8.out e3
        have d4 := keepCell hbw8.out e4
        have d5 := keepCell hbw8.out e5
        clear e0 e1 e2 e3 e4 e5
        have x5 := hXt8.out.1 5 _ rfl
        have cfo := hd (fun w' => folded_b p.of (.string p.name) (.int .i64 p.no) (.bool p.must) (.int .i64 p.most) (.slice a6 p.parts.length c6) w')
        rw [hf] at cfo
        go_wp2_with fail
        refine (cfo.out _).mono ?_
        rintro e w9 ⟨rfl, hb9⟩
        have hb89 := hd (hb8.out.next hb9)
        have hbw9 := hd (hbw8.out.next hb9)
        have hX9 := hd (hX8.out.below hb9)
        have hXr9 := hd (hXro.out.below hb89.out)
        have hXt9 := hd (hXto.out.below hb89.out)
        have hX9z : wo.heap.size + 1 ≤ w9.heap.size := by have := hb9.size; omega
        clear hb9 d0 d1 d2 d3 d4 d5 x5
        by_cases hfit : tn + te ≤ l.length
        · rw [if_pos hfit] at hHa
          have hfitI : ¬ ((b.size : Int) - (te : Int) < (tn : Int)) := by omega
          have hte0 : (0 : Int) ≤ (te : Int) := by omega
          have htn0 : (0 : Int) ≤ (tn : Int) := by omega
          have hsl1 : (te : Int) + (tn : Int) ≤ (b.size : Int) := by omega
          have hsl2 : (te : Int) ≤ (te : Int) + (tn : Int) := by omega
          have hsl3 : te + tn ≤ b.size := by omega
          have hbs : (b.extract te (te + tn)).size ≤ 400 := by rw [hext.out te tn, mkS_size, List.length_take]; omega
          rw [← hext.out te tn] at hHa
          have hn3 := hd (show p.of ≠ 3 from fun h => by rw [h] at hf; simp [foldB] at hf)
          obtain ⟨bs, hbse⟩ : ∃ bs, b.extract te (te + tn) = bs := ⟨_, rfl⟩
          rw [hbse] at hHa hbs
          have hbse := hd hbse
          have cy := hd (fun w' (hw : Below w.heap.size w w') => ih bs _ w' lo hi (Nat.le_trans hh hw.size) hbs hcp.out (rp.out.below hh hw))
          obtain ⟨E, hE2⟩ : ∃ E, decK p 0 bs = E := ⟨_, rfl⟩
          rw [hE2] at hHa
          have cyE := hd (show ∀ w', Below w.heap.size w w' → Calls Try.prog 115 #[.string bs, .agg #[.int .i64 p.of, .string p.name, .int .i64 p.no, .bool p.must, .int .i64 p.most, .slice a6 p.parts.length c6]] w' (DsPost E (bs.size + 1) w') from fun w' hw => by have := cy.out w' hw; rw [hE2] at this; exact this)
          replace hE2 := hd hE2
          have hrun : ∀ w' : World, Sem.run Try.prog (Instr.sliceAt 9 (.string b) (some (.int .i64 te)) (some (.int .i64 ((te : Int) + (tn : Int)))) none) w' = .ok (.string bs) w' := by
            intro w'
            go_simp
            rw [show ((te : Int) + (tn : Int)).toNat = te + tn by omega]
            exact hbse.out
          have hltX : wo.heap.size < w9.heap.size := by omega
          have hltT : w.heap.size < w9.heap.size := by omega
          have hltB : b1 < w9.heap.size := by omega
          have hnT : w.heap.size ≠ wo.heap.size := by omega
          have hnB : b1 ≠ wo.heap.size := by omega
          obtain ⟨e0, e1, e2, e3, e4, e5⟩ := hE.out
          have d0 := keepCell hbw9.out e0
          have d1 := keepCell hbw9.out e1
          have d2 := keepCell hbw9.out e2
          have d3 := keepCell hbw9.out e3
          have d4 := keepCell hbw9.out e4
          have d5 := keepCell hbw9.out e5
          clear e0 e1 e2 e3 e4 e5 cy
          have x5 := hXt9.out.1 5 _ rfl
          go_upto_region 16 with (fail)
          have hwr : IntKind.i64.wrap ((te : Int) + (tn : Int)) = (te : Int) + (tn : Int) := IntWalk.i64_in _ (by omega)
          go_region_law ((go_simp; go_at_call 115; refine (cyE.out _ (by first | exact hbw9.out.drew | exact hbw9.out)).mono ?_; rintro eP wP ⟨rP, T, rfl, hRP, hTv, hjk, hbP0⟩; clear hjk; obtain ⟨aV, cV, rowsV, rfl, hjk⟩ := hRP.openV; clear hjk; have hbP := hd (show Below w9.heap.size w9 wP from by first | exact hbP0 | exact (Below.refl _ w9).drew.next hbP0); have hXP := hd (hX9.out.below hbP.out); replace hTv := hd hTv; replace hRP := hd hRP; replace hbP0 := hd hbP0; have u0 := hXP.out.1 0 _ rfl; have ru0 := hXP.out.2.1 0; have u1 := hXP.out.1 1 _ rfl; have ru1 := hXP.out.2.1 1; have u2 := hXP.out.1 2 _ rfl; have ru2 := hXP.out.2.1 2; have u3 := hXP.out.1 3 _ rfl; have ru3 := hXP.out.2.1 3; have u4 := hXP.out.1 4 _ rfl; have ru4 := hXP.out.2.1 4))
          clear hbP0 d0 d1 d2 d3 d4 d5 x5 u0 u1 u2 u3 u4 ru0 ru1 ru2 ru3 ru4 cyE hrun hwr
          have hGf := grownBy_setCells wo.heap.size [.int .i64 T.most, .string T.name, .int .i64 T.no, .bool T.must, .slice aV T.parts.length cV] wP 0
          have hz9P := hbP.out.size
          have hXN := hd (show BoxN (((((wP.setCell ⟨wo.heap.size, 0, none⟩ (.int .i64 T.most)).setCell ⟨wo.heap.size, 1, none⟩ (.string T.name)).setCell ⟨wo.heap.size, 2, none⟩ (.int .i64 T.no)).setCell ⟨wo.heap.size, 3, none⟩ (.bool T.must)).setCell ⟨wo.heap.size, 4, none⟩ (.slice aV T.parts.length cV)) wo.heap.size [.int .i64 T.most, .string T.name, .int .i64 T.no, .bool T.must, .slice aV T.parts.length cV] from hXP.out.set5 _ _ _ _ _)
          have hbPo := hd (hb89.out.next hbP.out)
          have hb8N := hd (show Below wo.heap.size wo (((((wP.setCell ⟨wo.heap.size, 0, none⟩ (.int .i64 T.most)).setCell ⟨wo.heap.size, 1, none⟩ (.string T.name)).setCell ⟨wo.heap.size, 2, none⟩ (.int .i64 T.no)).setCell ⟨wo.heap.size, 3, none⟩ (.bool T.must)).setCell ⟨wo.heap.size, 4, none⟩ (.slice aV T.parts.length cV)) from hbPo.out.grown hGf hbPo.out.size (fun g hg => by cases hg; exact Nat.le_refl _))
          have hRN := hd (show RepX HV 5 (((((wP.setCell ⟨wo.heap.size, 0, none⟩ (.int .i64 T.most)).setCell ⟨wo.heap.size, 1, none⟩ (.string T.name)).setCell ⟨wo.heap.size, 2, none⟩ (.int .i64 T.no)).setCell ⟨wo.heap.size, 3, none⟩ (.bool T.must)).setCell ⟨wo.heap.size, 4, none⟩ (.slice aV T.parts.length cV)) (wo.heap.size + 1) ((((((wP.setCell ⟨wo.heap.size, 0, none⟩ (.int .i64 T.most)).setCell ⟨wo.heap.size, 1, none⟩ (.string T.name)).setCell ⟨wo.heap.size, 2, none⟩ (.int .i64 T.no)).setCell ⟨wo.heap.size, 3, none⟩ (.bool T.must)).setCell ⟨wo.heap.size, 4, none⟩ (.slice aV T.parts.length cV))).heap.size T [.int .i64 T.most, .string T.name, .int .i64 T.no, .bool T.must, .slice aV T.parts.length cV] from RepX.same (lo := w9.heap.size) (hi := wP.heap.size) (Same.grown hGf (Nat.le_refl _) (fun g hg => by cases hg; left; exact hltX)) (by omega) hGf.size _ _ (RepX.wide (by first | exact hRP.out | simpa using hRP.out) (Nat.le_refl _) (Nat.le_refl _)))
          clear hGf hXP hRP
          generalize (((((wP.setCell ⟨wo.heap.size, 0, none⟩ (.int .i64 T.most)).setCell ⟨wo.heap.size, 1, none⟩ (.string T.name)).setCell ⟨wo.heap.size, 2, none⟩ (.int .i64 T.no)).setCell ⟨wo.heap.size, 3, none⟩ (.bool T.must)).setCell ⟨wo.heap.size, 4, none⟩ (.slice aV T.parts.length cV)) = w10 at *
          have hzN0 : wo.heap.size + 1 ≤ w10.heap.size := hXN.out.2.2
          have hbwN := hd (hbwo.out.next hb8N.out)
          have hXtN := hd (hXto.out.below hb8N.out)
          have hXrN := hd (hXro.out.below hb8N.out)
          cases E with
          | none =>
            have h0 := hd (hstop.out (by rw [hHa.out]; rfl))
            have z0 := hXrN.out.1 0 _ rfl; have rz0 := hXrN.out.2.1 0; have z1 := hXrN.out.1 1 _ rfl; have rz1 := hXrN.out.2.1 1; have z2 := hXrN.out.1 2 _ rfl; have rz2 := hXrN.out.2.1 2; have z3 := hXrN.out.1 3 _ rfl; have rz3 := hXrN.out.2.1 3; have z4 := hXrN.out.1 4 _ rfl; have rz4 := hXrN.out.2.1 4
            go_wp2_with fail
            exact bodyPost_ret (v := .tuple #[.agg #[.int .i64 0, .string ⟨#[]⟩, .int .i64 0, .bool false, .slice none 0 0], .bool false]) (by simp [results, Try.results115, go_sem, z0, z1, z2, z3, z4]) rfl (hret.out _ hbwN.out h0.out)
          | some v =>
            obtain rfl := hTv.out v rfl
            have hHN := hd (show H a = if leafN p.of p.most T.most = true then some (T, te + tn) else none by rw [hHa.out, leafN, decide_eq_true (.inl hn3.out)]; rfl)
            clear hHa hTv
            have hzN : wo.heap.size + 1 ≤ w10.heap.size := hzN0
            have hltX : wo.heap.size < w10.heap.size := by omega
            have hltT : w.heap.size < w10.heap.size := by omega
            have hltB : b1 < w10.heap.size := by omega
            obtain ⟨e0, e1, e2, e3, e4, e5⟩ := hE.out
            have d0 := keepCell hbwN.out e0
            have d1 := keepCell hbwN.out e1
            have d2 := keepCell hbwN.out e2
            have d3 := keepCell hbwN.out e3
            have d4 := keepCell hbwN.out e4
            have d5 := keepCell hbwN.out e5
            clear e0 e1 e2 e3 e4 e5
            have x5 := hXtN.out.1 5 _ rfl
            have u0 := hXN.out.1 0 _ rfl; have u1 := hXN.out.1 1 _ rfl; have u2 := hXN.out.1 2 _ rfl; have u3 := hXN.out.1 3 _ rfl; have u4 := hXN.out.1 4 _ rfl
            have cl := hd (fun w' => leaf_s p.of p.most T.most (.string T.name) (.int .i64 T.no) (.bool T.must) (.slice aV T.parts.length cV) (.string p.name) (.int .i64 p.no) (.bool p.must) (.slice a6 p.parts.length c6) w')
            generalize leafN p.of p.most T.most = lb at *
            go_wp2_with fail
            go_region_held3 (fun w' => w10.heap.size ≤ w'.heap.size ∧ ∀ b o, b < w10.heap.size → w'.cell? ⟨b, o, none⟩ = w10.cell? ⟨b, o, none⟩)
              (first | exact ⟨Nat.le_refl _, fun b o h => rfl⟩ | exact ⟨Nat.le_trans (Nat.le_refl _) hbL.out.size, fun b o h => hbL.out.cell (p := ⟨b, o, none⟩) h⟩)
              (first | (go_at_call 116; refine (cl.out _).mono ?_; rintro e wL ⟨rfl, hbL0⟩; have hbL := hd (show Below w10.heap.size w10 wL from by first | exact hbL0 | exact (Below.refl _ w10).drew.next hbL0); clear hbL0))
            rename_i hHeld
            clear hHeld d0 d1 d2 d3 d4 d5 x5 u0 u1 u2 u3 u4
            have hb8L := hd (hb8N.out.next hbL.out)
            have hbwL := hd (hbwN.out.next hbL.out)
            have hXrL := hd (hXrN.out.below hbL.out)
            have hXL := hd (hXN.out.below hbL.out)
            have hRL := hd (RepX.same (Same.below hbL.out (Nat.le_refl _)) (Nat.le_refl _) hbL.out.size _ _ hRN.out)
            cases lb with
            | false =>
              have h0 := hd (hstop.out (by rw [hHN.out]; rfl))
              have z0 := hXrL.out.1 0 _ rfl; have rz0 := hXrL.out.2.1 0; have z1 := hXrL.out.1 1 _ rfl; have rz1 := hXrL.out.2.1 1; have z2 := hXrL.out.1 2 _ rfl; have rz2 := hXrL.out.2.1 2; have z3 := hXrL.out.1 3 _ rfl; have rz3 := hXrL.out.2.1 3; have z4 := hXrL.out.1 4 _ rfl; have rz4 := hXrL.out.2.1 4
              go_wp2_with fail
              exact bodyPost_ret (v := .tuple #[.agg #[.int .i64 0, .string ⟨#[]⟩, .int .i64 0, .bool false, .slice none 0 0], .bool false]) (by simp [results, Try.results115, go_sem, z0, z1, z2, z3, z4]) rfl (hret.out _ hbwL.out h0.out)
            | true =>
              have hHs := hd (show H a = some (T, (te + tn)) by rw [hHN.out]; rfl)
              have hg1 := hd (hgo.out _ _ hHs.out)
              have hb4 := hbda.out _ _ hHs.out
              have hcn := hd (show countL (vs ++ [T]) ≤ (te + tn) ∧ (vs ++ [T]).length ≤ (te + tn) by
                rw [hcs.out, List.length_append, List.length_singleton]
                have := hcv.out
                omega)
              have hvl := hcv.out.2
              have hrws : rws.length ≤ 1000000 := by have hrl := hSep.out.1; omega
              have hXoL := hd (hX.out.below hb8L.out)
              have hOL := hd (hO.out.below hb8L.out)
              have hSL := hd ((hSep.out.below hb8L.out).snoc (b := W3.heap.size) (lo := wo.heap.size + 1) (hi := wL.heap.size) (by omega) (Nat.le_refl _) (fun g hg => by left; have := (hO.out.lt g hg).2; omega) hRL.out)
              have hGL := hd (grownBy_trans hG.out (below_grownBy hb8L.out (some W.heap.size)) (.inl rfl))
              have y4 := hXoL.out.1 4 _ rfl
              have u0 := hXL.out.1 0 _ rfl; have u1 := hXL.out.1 1 _ rfl; have u2 := hXL.out.1 2 _ rfl; have u3 := hXL.out.1 3 _ rfl; have u4 := hXL.out.1 4 _ rfl
              have hszL : W3.heap.size ≤ wL.heap.size := by have := hb8L.out.size; omega
              clear hrest hstop hHs hgo
              go_wp2_with (at_builtin; refine wpList_appOwn rfl (.tmp 93) (.tmp 95) 91 rfl W3.heap.size 93 i0 _ 5 64 Try.underlying91 Hi.out Hz0.out Hz1.out Hz2.out rfl (by decide) _ rws [[.int .i64 T.most, .string T.name, .int .i64 T.no, .bool T.must, .slice aV T.parts.length cV]] rfl (hOL.out.below (below_a1 _)) _ 1 1 rfl rfl (one_row rfl) (cells_new _ _ _) rowV_one (by omega) (by decide) (by first | omega | exact Nat.le_refl _ | (simp; done) | (simp; omega)) ?_; intro s6 w6 ho6 hga hva; obtain ⟨a7, c7, rfl, hjk⟩ := ho6.sl; clear hjk; rw [List.length_append, List.length_singleton] at *; have hX6 := hd ((hXoL.out.below (below_a1 _)).grown hga (by intro e; have := (hOL.out.lt _ e.symm).1; omega)); have y6 := hX6.out.1 4 _ rfl; have r6 := hX6.out.2.1 4; have hga := hd hga; have hva := hd hva; have ho6 := hd ho6; clear y4)
              have hne6 : ∀ g, (Value.slice a7 (rws.length + 1) c7).ownBlock = some g → W3.heap.size ≤ g := fun g hg => (ho6.out.lt g hg).1
              have hX7 := hd (hX6.out.set (i := 4) (by simp) (.slice a7 (rws.length + 1) c7))
              have hO7 := hd (ho6.out.kept (grownBy_setCell w6 ⟨W.heap.size, 4, none⟩ (.slice a7 (rws.length + 1) c7)) (.inr (fun e => by have : W3.heap.size ≤ W.heap.size := hne6 _ e; omega)))
              have hS7 := hd (((hSL.out.below (below_a1 _)).grown (Gr.app hga.out hva.out)).set (c := W.heap.size) (k := 4) (u := .slice a7 (rws.length + 1) c7) (by omega))
              have hG7 := hd (grownBy_trans (grownBy_trans (grownBy_trans hGL.out (below_grownBy (below_a1 wL (a := _)) (some W.heap.size)) (.inl rfl)) hga.out (.inr (fun g hg => by have := (hOL.out.lt g hg).1; omega))) (grownBy_setCell w6 ⟨W.heap.size, 4, none⟩ (.slice a7 (rws.length + 1) c7)) (.inl rfl))
              go_wp2_with fail
              go_roundw
              case rel => exact ⟨(te + tn), f, _, .slice a7 (rws.length + 1) c7, _, by go_num, hb4.2.1, by omega, hg1, hd (by rw [List.length_append, List.length_singleton]; exact hcn.out), hX7, hO7, hS7, hG7⟩
              case measure => simp [intOf]; omega
        · rw [if_neg hfit] at hHa
          have hfitI : (b.size : Int) - (te : Int) < (tn : Int) := by omega
          have h0 := hd (hstop.out hHa.out)
          have z0 := hXr9.out.1 0 _ rfl; have rz0 := hXr9.out.2.1 0; have z1 := hXr9.out.1 1 _ rfl; have rz1 := hXr9.out.2.1 1; have z2 := hXr9.out.1 2 _ rfl; have rz2 := hXr9.out.2.1 2; have z3 := hXr9.out.1 3 _ rfl; have rz3 := hXr9.out.2.1 3; have z4 := hXr9.out.1 4 _ rfl; have rz4 := hXr9.out.2.1 4
          go_wp2_with fail
          exact bodyPost_ret (v := .tuple #[.agg #[.int .i64 0, .string ⟨#[]⟩, .int .i64 0, .bool false, .slice none 0 0], .bool false]) (by simp [results, Try.results115, go_sem, z0, z1, z2, z3, z4]) rfl (hret.out _ hbw9.out h0.out)
    · obtain rfl : a = l.length := by omega
      obtain ⟨f, rfl⟩ : ∃ f', f = f' + 1 := ⟨f - 1, by omega⟩
      have hltI : ¬ (l.length : Int) < (b.size : Int) := by omega
      have hfin := hd (show full = some vs by rw [hrest.out, itemsF_end (Nat.lt_irrefl _)]; simp)
      have hDm := hd (show D = some (.mk 5 ⟨#[]⟩ 0 true 0 vs) by rw [hdk.out, hfin.out]; rfl)
      have hlen2 : rws.length = vs.length := hSep.out.1
      have hxs := XSl.own hO.out (fun g hg => (hO.out.lt g hg).2)
      obtain ⟨aS, cS, rfl, hjk⟩ := hO.out.sl
      clear hjk
      have hRX := hd (show RepX HV 5 wo W3.heap.size wo.heap.size (.mk 5 ⟨#[]⟩ 0 true 0 vs) [.int .i64 0, .string ⟨#[]⟩, .int .i64 0, .bool true, .slice aS rws.length cS] from RepX.mk (H := HV) (t := .mk 5 ⟨#[]⟩ 0 true 0 vs) hxs (hSep.out.rep (Nat.le_refl _)))
      have hGf := hd (grownBy_setCells (w.heap.size + 1) [.int .i64 0, .string ⟨#[]⟩, .int .i64 0, .bool true, .slice aS rws.length cS] wo 0)
      have hfin0 := hd (show DsPost D (b.size + 1) w (.returned (.tuple #[.agg #[.int .i64 0, .string ⟨#[]⟩, .int .i64 0, .bool true, .slice aS rws.length cS], .bool true])) (setCells wo (w.heap.size + 1) 0 [.int .i64 0, .string ⟨#[]⟩, .int .i64 0, .bool true, .slice aS rws.length cS]) from by
        refine ⟨[.int .i64 0, .string ⟨#[]⟩, .int .i64 0, .bool true, .slice aS rws.length cS], .mk 5 ⟨#[]⟩ 0 true 0 vs, by rw [hDm.out]; rfl, ?_, ?_, ?_, ?_⟩
        · exact RepX.same (Same.grown hGf.out (Nat.le_refl _) (fun g hg => by cases hg; left; omega)) (by omega) hGf.out.size _ _ hRX.out
        · intro v hv
          rw [hDm.out] at hv
          cases hv; rfl
        · rw [countK_eq]; show 1 + countL vs ≤ _; have := hcv.out; omega
        · exact hbwo.out.grown hGf.out hbwo.out.size (fun g hg => by cases hg; omega))
      have y0 := hX.out.1 0 _ rfl; have y1 := hX.out.1 1 _ rfl; have y2 := hX.out.1 2 _ rfl; have y3 := hX.out.1 3 _ rfl; have y4 := hX.out.1 4 _ rfl
      have z0 := hXro.out.1 0 _ rfl; have rz0 := hXro.out.2.1 0; have z1 := hXro.out.1 1 _ rfl; have rz1 := hXro.out.2.1 1; have z2 := hXro.out.1 2 _ rfl; have rz2 := hXro.out.2.1 2; have z3 := hXro.out.1 3 _ rfl; have rz3 := hXro.out.2.1 3; have z4 := hXro.out.1 4 _ rfl; have rz4 := hXro.out.2.1 4
      clear hxs hlen2 hDm hfin hRX hGf
      go_wp2_with fail
      exact bodyPost_ret (v := .tuple #[.agg #[.int .i64 0, .string ⟨#[]⟩, .int .i64 0, .bool true, .slice aS rws.length cS], .bool true]) (by simp [results, Try.results115, go_sem, z0, z1, z2, z3, z4]) rfl hfin0.out
end Go.Proofs.Ytobahkjbadamhaa

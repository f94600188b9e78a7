/- The nodes that bytes of a type tell behind others: decode, decodeList, decodeNumber of the program. -/
import Derived.Test.YtobahkjbadamhaaDecE
import Derived.Test.YtobahkjbadamhaaViewM
import Derived.Test.YtobahkjbadamhaaFitMM
import Derived.Test.YtobahkjbadamhaaLeast
import Derived.StillTailTactics
import Derived.BigQuiet
import Derived.Deep.QuietTactic
namespace Go.Proofs.Ytobahkjbadamhaa
open Go.RowKit
set_option linter.unusedVariables false
set_option maxRecDepth 100000
/-- What a decoding call leaves: the nodes behind the others, or nothing that is told. -/
def DecPost (B : Nat) (rows : Option (List DNode)) (v : Value) (w : World) (e : Ending) (w' : World) : Prop :=
  ∃ a n c, e = .returned (.tuple #[.slice a n c, .bool rows.isSome]) ∧ (∀ r, rows = some r → Own w' B 113 5 (.slice a n c) (r.map DNode.enc) ∧ Gr w v w' (.slice a n c)) ∧ Below B w w'
def DecC (p : K) : Prop := ∀ (vt : Value) (out : List DNode) (v : Value) (b : ByteArray) (no up : Int) (w : World) (lo hi B : Nat), hi ≤ B → B ≤ w.heap.size → b.size ≤ 400 → out.length + 1000 * countK p ≤ 1000000000 → RepP w lo hi p vt → Own w B 113 5 v (out.map DNode.enc) →
    Calls Try.prog 117 #[vt, v, .string b, .int .i64 no, .int .i64 up] w (DecPost B ((decK p no b).map (fun t => out ++ rowsV t up out.length)) v w)
theorem rowsV_leaf (n : Int) (s : ByteArray) (no up : Int) (q : Nat) : rowsV (leafV n s no) up q = [⟨n, s, no, up, false⟩] := by
  rw [rowsV_eq]; simp [leafV, K.parts, rowsL, topV, K.most, K.name, K.no, K.must]
/-- Nodes of parts behind others, and one more. -/
def kidsV (out : List DNode) (up : Int) (vs : List K) (q : Nat) : List DNode := out ++ (rowsL vs up.toNat q).map tN
theorem kidsV_snoc (out : List DNode) (up : Nat) (vs : List K) (v : K) : kidsV out up (vs ++ [v]) out.length = kidsV out up vs out.length ++ rowsV v up (kidsV out up vs out.length).length := by
  rw [kidsV, kidsV, rowsL_snoc, List.map_append, List.append_assoc]
  congr 2
  rw [rowsV]
  congr 2
  rw [List.length_append, List.length_map, rowsL_len]
theorem kidsV_len (out : List DNode) (up : Int) (vs : List K) (q : Nat) : (kidsV out up vs q).length = out.length + countL vs := by
  rw [kidsV, List.length_append, List.length_map, rowsL_len]
theorem kidsV_nil (out : List DNode) (up : Int) (q : Nat) : kidsV out up [] q = out := by rw [kidsV, rowsL]; simp
set_option maxHeartbeats 3200000 in
theorem decNum_i (o mo : Int) (bp : Nat) (out : List DNode) (v : Value) (n no up : Int) (w : World) (B : Nat) (hbp : bp < B) (hB : B ≤ w.heap.size) (hc : out.length ≤ 2000000000) (c0 : w.cell? ⟨bp, 0, none⟩ = some (.int .i64 o)) (c4 : w.cell? ⟨bp, 4, none⟩ = some (.int .i64 mo)) (hO : Own w B 113 5 v (out.map DNode.enc)) :
    Calls Try.prog 140 #[.pointer (some ⟨bp, 0, none⟩), v, .int .i64 n, .int .i64 no, .int .i64 up] w (fun e w' => ∃ s, e = .returned (.tuple #[s, .bool (numV o mo n)]) ∧ Own w' B 113 5 s ((out ++ [(⟨n, ⟨#[]⟩, no, up, false⟩ : DNode)]).map DNode.enc) ∧ Gr w v w' s) := by
  obtain ⟨ao, co, rfl, _⟩ := hO.sl
  simp only [List.length_map] at hO ⊢
  have hno := hd (hO.no (b := bp) (.inl hbp))
  have hO := hd hO
  obtain ⟨i0, hi0, hz0, hz1, hz2⟩ := info_parts infoNode
  have Hi := hd hi0; have Hz0 := hd hz0; have Hz1 := hd hz1; have Hz2 := hd hz2
  clear hi0 hz0 hz1 hz2
  have hone := hd (DNode.enc_one [⟨n, ⟨#[]⟩, no, up, false⟩])
  have hsn := hd (map_snocN out ⟨n, ⟨#[]⟩, no, up, false⟩)
  have cn := hd (fun w => numberOK_i n w)
  have hz := hd (show numV o mo n = (numB n && (o == 1 || decide (0 ≤ n ∧ n ≤ mo))) from rfl)
  have cw := hd (fun w => within_i n 0 mo w (decide (0 ≤ n ∧ n ≤ mo)) rfl)
  generalize numV o mo n = z at *
  generalize decide (0 ≤ n ∧ n ≤ mo) = d at *
  generalize numB n = nb at *
  cases nb
  all_goals
    cases h1 : (o == 1)
    all_goals
      replace hz := hd (hz.out)
      go_enter Try.func140, Try.ntmps140
      go_wp2_with (first
        | (at_builtin; refine wpList_appOwn rfl (.tmp 12) (.tmp 17) 37 rfl B 113 i0 _ 5 48 Try.underlying37 Hi.out Hz0.out Hz1.out Hz2.out rfl (by decide) _ (out.map DNode.enc) [DNode.enc ⟨n, ⟨#[]⟩, no, up, false⟩] rfl (hO.out.below (below_a1 _)) _ 1 1 rfl rfl (one_row rfl) (cells_new _ _ _) hone.out (by simp only [List.length_map]; omega) (by decide) (by first | omega | exact Nat.le_refl _ | (simp; done) | (simp; omega)) ?_; intro v6 w6 ho6 hga hva; have hG6 := hd ((Gr.of_below (v := .slice ao out.length co) (below_a1 w)).trans (Gr.app hga hva)); have q0 := hG6.out.kept c0 hno.out; have q4 := hG6.out.kept c4 hno.out; rw [hsn.out] at ho6; replace ho6 := hd ho6; clear hga hva)
        | (go_at_call 143; refine (cn.out _).mono ?_; rintro e w' ⟨rfl, rfl⟩)
        | (go_at_call 55; refine (cw.out _).mono ?_; rintro e w' ⟨rfl, rfl⟩))
      go_ret2
      exact ⟨v6, by rw [hz.out, h1]; rfl, ho6.out, hG6.out⟩
theorem itemsF_stop {H : Nat → Option (K × Nat)} {n f a : Nat} (ha : a < n) (h : H a = none) : itemsF H n (f + 1) a = none := by rw [itemsF, if_pos ha, h]
theorem itemsF_go {H : Nat → Option (K × Nat)} {n f a e : Nat} {v : K} (ha : a < n) (h : H a = some (v, e)) : itemsF H n (f + 1) a = (itemsF H n f e).map (fun vs => v :: vs) := by rw [itemsF, if_pos ha, h]
theorem itemsF_end {H : Nat → Option (K × Nat)} {n f a : Nat} (ha : ¬ a < n) : itemsF H n (f + 1) a = some [] := by rw [itemsF, if_neg ha]
theorem countL_snoc' (vs : List K) (v : K) : countL (vs ++ [v]) = countL vs + countK v := countL_snoc v vs
set_option maxHeartbeats 6400000 in
theorem decList_i (t p : K) (hp : t.parts = [p]) (hr : rightK p) (ihp : foldB p.of = false → DecC p) (vt : Value) (out : List DNode) (v : Value) (b : ByteArray) (up : Nat) (w : World) (lo hi B : Nat) (hhB : hi ≤ B) (hB : B ≤ w.heap.size) (hb : b.size ≤ 400) (hc : out.length + 400 + 1000 * countK p ≤ 1000000000) (hR : RepP w lo hi t vt) (hO : Own w B 113 5 v (out.map DNode.enc)) :
    Calls Try.prog 136 #[vt, v, .string b, .int .i64 up] w (DecPost B ((decH t.parts b).map (fun vs => kidsV out up vs out.length)) v w) := by
  have hdh : decH t.parts b = itemsF (itemAt p.of p.most (fun d => decK p 0 d) b.data.toList) b.data.toList.length (b.data.toList.length + 1) 0 := by rw [hp, decH]
  have hlen := data_len b
  have hbd := hd (fun a v e (h : itemAt p.of p.most (fun d => decK p 0 d) b.data.toList a = some (v, e)) => item_bd (fun d x _ hx => dec_bd p hr 0 d x hx) h)
  have htk := hd (tkI_bd b.data.toList)
  have htb := hd (fun a (h : (tb b.data.toList a).2.2 = true) => tb_len h)
  have hft := hd (fun (hf : foldB p.of = true) a => (show itemAt p.of p.most (fun d => decK p 0 d) b.data.toList a = if (tkI b.data.toList a).2.2 = true ∧ numV p.of p.most (unf (tkI b.data.toList a).1) = true then some (leafV (unf (tkI b.data.toList a).1) ⟨#[]⟩ 0, (tkI b.data.toList a).2.1) else none by rw [itemAt, if_pos hf]))
  have hff := hd (fun (hf : foldB p.of = false) a => (show itemAt p.of p.most (fun d => decK p 0 d) b.data.toList a = if (tb b.data.toList a).2.2 = true then (decK p 0 (mkS (tb b.data.toList a).1)).map (fun v => (v, (tb b.data.toList a).2.1)) else none by rw [itemAt, if_neg (by rw [hf]; simp)]))
  rw [hdh]
  have ctk := hd (fun a w' (h : a ≤ 4611686018427387904) => take_i b a w' (by omega) h)
  have ctb := hd (fun a w' (h : a ≤ 4611686018427387904) => takeBytes_i b a w' (by omega) h)
  generalize b.data.toList = l at *
  generalize hH : itemAt p.of p.most (fun d => decK p 0 d) l = H at *
  generalize hfull : itemsF H l.length (l.length + 1) 0 = full at *
  have hfull := hd hfull
  clear hdh hH
  have ihp := hd ihp
  obtain ⟨bk, ak, ck, vs0, rfl, hbk, c0, c1, c2, c3, c4, c5, hS, hlv, hg⟩ := hR.open
  have hg0 := hg 0 (by rw [hp]; simp) (by rw [hlv, hp]; simp)
  rw [show t.parts[0]'(by rw [hp]; simp) = p by simp [hp]] at hg0
  rw [hp, List.length_singleton] at c5 hS hlv
  obtain ⟨bS, oS, rfl, hbS, hcS⟩ := hS.at (j := 0) (by omega)
  have hc0 := hcS 0 (by omega)
  rw [Nat.add_zero] at hc0
  obtain ⟨bp, ap, cp, vp, hvp, hbp, p0, p1, p2, p3, p4, p5, _, _, _⟩ := hg0.open
  rw [hvp] at hc0 hg0
  have hg0 := hd hg0
  obtain ⟨ao, co, rfl, _⟩ := hO.sl
  simp only [List.length_map] at hO ⊢
  have hO := hd hO
  have hnone := hd (fun (wr : World) (hw : Below B w wr) (hf : full = none) => (show DecPost B (full.map (fun vs => kidsV out up vs out.length)) (.slice ao out.length co) w (.returned (.tuple #[.slice none 0 0, .bool false])) wr from
    ⟨none, 0, 0, by rw [hf]; rfl, (fun r e => by rw [hf] at e; cases e), hw⟩))
  have hsome := hd (fun (wr : World) (s : Value) (vs : List K) (hw : Gr w (.slice ao out.length co) wr s) (ho : Own wr B 113 5 s ((kidsV out up vs out.length).map DNode.enc)) (hf : full = some vs) => (show DecPost B (full.map (fun vs => kidsV out up vs out.length)) (.slice ao out.length co) w (.returned (.tuple #[s, .bool true])) wr from by
    obtain ⟨a', c', e', _⟩ := ho.sl
    subst e'
    refine ⟨_, _, _, by rw [hf]; rfl, fun r e => ?_, hw.below hB (fun g hg => (hO.out.lt g hg).1)⟩
    rw [hf] at e; cases e; exact ⟨ho, hw⟩))
  clear hg hS hcS hvp c0 c1 c2 c3 c4 p1 p2 p3 p5 hR
  go_enter Try.func136, Try.ntmps136
  go_wp2_with fail
  go_loopw [1, 11] (fun s n wr => ∃ (a f : Nat) (vs : List K) (sv : Value), sv = s ∧ n = .int .i64 a ∧ a ≤ l.length ∧ l.length + 1 ≤ a + f ∧ Hd (full = (itemsF H l.length f a).map (fun ws => vs ++ ws)) ∧ Hd (countL vs ≤ a) ∧ Hd (Own wr B 113 5 s ((kidsV out up vs out.length).map DNode.enc)) ∧ Hd (Gr w (.slice ao out.length co) wr s)) (fun _ n _ => l.length - (intOf n).toNat)
  case atStart => exact ⟨0, l.length + 1, [], _, rfl, rfl, Nat.zero_le _, by omega, by rw [hfull.out]; cases full <;> rfl, Nat.zero_le _, by rw [kidsV_nil]; exact hO.out, Gr.refl _ _⟩
  case round =>
    obtain ⟨a, f, vs, s, rfl, rfl, ha, hf, hrest, hcv, hOr, hGr⟩ := hrel
    obtain ⟨wo, rfl⟩ : ∃ wo : World, wo = wr := ⟨_, rfl⟩
    have hBr := hd (hGr.out.below hB (fun g hg => (hO.out.lt g hg).1))
    have hzr : B ≤ wo.heap.size := Nat.le_trans hB hGr.out.1.size
    have P0 : wo.cell? ⟨bp, 0, none⟩ = some (.int .i64 p.of) := by rw [hBr.out.cell (p := ⟨bp, 0, none⟩) (by show bp < B; omega)]; exact p0
    have P4 : wo.cell? ⟨bp, 4, none⟩ = some (.int .i64 p.most) := by rw [hBr.out.cell (p := ⟨bp, 4, none⟩) (by show bp < B; omega)]; exact p4
    by_cases hlt : a < l.length
    · obtain ⟨f, rfl⟩ : ∃ f', f = f' + 1 := ⟨f - 1, by omega⟩
      have hltI : (a : Int) < (b.size : Int) := by omega
      have hal : a ≤ 4611686018427387904 := by omega
      have cfk := hd (fieldKind_b p.of bp wo P0)
      have hkl := hd (kidsV_len out up vs out.length)
      have hstop := hd (fun (h : H a = none) => (show full = none by rw [hrest.out, itemsF_stop hlt h]; rfl))
      have hgo := hd (fun v e (h : H a = some (v, e)) => (show full = (itemsF H l.length f e).map (fun ws => (vs ++ [v]) ++ ws) by rw [hrest.out, itemsF_go hlt h, Option.map_map]; congr 1; funext ws; simp))
      have hsn := hd (fun v => kidsV_snoc out up vs v)
      have hcs := hd (fun v => countL_snoc' vs v)
      cases hpf : foldB p.of with
      | true =>
        have hH := hd (hft.out hpf a)
        have hkN : kindN p.of = 0 := by unfold kindN; rw [hpf]; rfl
        rw [hkN] at cfk
        have ct := hd (ctk.out a wo hal)
        obtain ⟨hb1, hb2⟩ := htk.out a
        obtain ⟨⟨tn, te, tok⟩, hT⟩ : ∃ T, tkI l a = T := ⟨_, rfl⟩
        rw [hT] at hb1 hb2
        rw [hT] at hH ct
        dsimp only at hb1 hb2
        have hb2 := hd hb2
        have cu := hd (fun w' => unfold_i (tn : Int) w' (by omega) (by omega))
        have cn := hd (fun w' (hw : w' = wo) => decNum_i p.of p.most bp (kidsV out up vs out.length) s (unf tn) 0 up w' B (by omega) (by rw [hw]; exact hzr) (by rw [hkl.out]; have := hcv.out; omega) (by rw [hw]; exact P0) (by rw [hw]; exact P4) (by rw [hw]; exact hOr.out))
        generalize hnv : numV p.of p.most (unf tn) = nv at *
        clear hT hpf hkN
        replace hnv := hd hnv
        have c5' : wo.cell? ⟨bk, 5, none⟩ = some (.slice (some ⟨bS, oS, none⟩) 1 ck) := by rw [hBr.out.cell (p := ⟨bk, 5, none⟩) (by show bk < B; omega)]; exact c5
        go_wp2_with fail
        refine (cfk.out).mono ?_
        rintro e2 w2 ⟨rfl, rfl⟩
        go_wp2_with fail
        refine ct.out.mono ?_
        rintro e2 w2 ⟨rfl, rfl⟩
        go_wp2_with fail
        refine (cu.out _).mono ?_
        rintro e2 w2 ⟨rfl, rfl⟩
        go_wp2_with fail
        refine (cn.out _ rfl).mono ?_
        rintro e2 w3 ⟨s3, rfl, ho3, hG3⟩
        have hG3' := hd (hGr.out.trans hG3)
        have ho3 := hd ho3
        cases nv with
        | false =>
          have hres := hd (hnone.out w3 (hG3'.out.below hB (fun g hg => (hO.out.lt g hg).1)) (hstop.out (by rw [hH.out]; simp)))
          clear hG3
          go_wp2_with fail
          go_ret2
          exact hres.out
        | true =>
          cases tok with
          | false =>
            have hres := hd (hnone.out w3 (hG3'.out.below hB (fun g hg => (hO.out.lt g hg).1)) (hstop.out (by rw [hH.out]; simp)))
            clear hG3
            go_wp2_with fail
            go_ret2
            exact hres.out
          | true =>
            have hHs := hd (show H a = some (leafV (unf tn) ⟨#[]⟩ 0, te) by rw [hH.out]; simp)
            have hg1 := hd (hgo.out _ _ hHs.out)
            have hb3 := hb2.out rfl
            have hb4 := hbd.out a _ _ (by have := hHs.out; first | exact this | simpa using this)
            have hrow := hd (show kidsV out up (vs ++ [leafV (unf tn) ⟨#[]⟩ 0]) out.length = kidsV out up vs out.length ++ [(⟨unf tn, ⟨#[]⟩, 0, up, false⟩ : DNode)] by rw [hsn.out, rowsV_leaf])
            have hcn := hd (show countL (vs ++ [leafV (unf tn) ⟨#[]⟩ 0]) ≤ te by rw [hcs.out]; have := hcv.out; omega)
            clear hG3
            go_wp2_with fail
            go_roundw
            case rel => exact ⟨te, f, _, s3, rfl, by go_num, hb4.2.1, by omega, hg1, hcn, by rw [hrow.out]; exact ho3, hG3'⟩
            case measure => simp [intOf]; omega
      | false =>
        have hH := hd (hff.out hpf a)
        have hkN : kindN p.of = 2 := by unfold kindN; rw [hpf]; rfl
        rw [hkN] at cfk
        have ct := hd (ctb.out a wo hal)
        have hb2 := hd (htb.out a)
        obtain ⟨⟨bs, te, tok⟩, hT⟩ : ∃ T, tb l a = T := ⟨_, rfl⟩
        rw [hT] at hb2 ct hH
        dsimp only at hb2 hH
        have hcvo := hcv.out
        have hklo := hkl.out
        have cd := hd (fun (hs : (mkS bs).size ≤ 400) => ihp.out hpf _ (kidsV out up vs out.length) s (mkS bs) 0 up wo lo hi B hhB hzr hs (by omega) (hg0.out.same (Same.belowB hBr.out hhB) (Nat.le_refl _) (Nat.le_refl _)) hOr.out)
        clear hT hpf hkN hklo
        have c5' : wo.cell? ⟨bk, 5, none⟩ = some (.slice (some ⟨bS, oS, none⟩) 1 ck) := by rw [hBr.out.cell (p := ⟨bk, 5, none⟩) (by show bk < B; omega)]; exact c5
        cases tok with
        | false =>
          have hres := hd (hnone.out wo hBr.out (hstop.out (by rw [hH.out]; simp)))
          go_wp2_with fail
          refine (cfk.out).mono ?_
          rintro e2 w2 ⟨rfl, rfl⟩
          go_wp2_with fail
          refine ct.out.mono ?_
          rintro e2 w2 ⟨rfl, rfl⟩
          go_wp2_with fail
          go_ret2
          exact hres.out
        | true =>
          obtain ⟨hb3, hb4, hb5⟩ := hb2.out rfl
          replace cd := hd (cd.out (by rw [mkS_sz]; omega))
          replace hH := hd (show H a = (decK p 0 (mkS bs)).map (fun v => (v, te)) by rw [hH.out, if_pos rfl])
          generalize hD : decK p 0 (mkS bs) = D at *
          replace hD := hd hD
          go_wp2_with fail
          refine (cfk.out).mono ?_
          rintro e2 w2 ⟨rfl, rfl⟩
          go_wp2_with fail
          refine ct.out.mono ?_
          rintro e2 w2 ⟨rfl, rfl⟩
          go_wp2_with fail
          refine cd.out.mono ?_
          cases D with
          | none =>
            rintro e2 w3 ⟨a', n', c', rfl, _, hb6⟩
            have hres := hd (hnone.out w3 (hBr.out.trans hb6) (hstop.out (by rw [hH.out]; rfl)))
            clear hb6
            go_wp2_with fail
            go_ret2
            exact hres.out
          | some x =>
            rintro e2 w3 ⟨a', n', c', rfl, hsm, hb6⟩
            obtain ⟨ho3, hG3⟩ := hsm _ rfl
            have hG3' := hd (hGr.out.trans hG3)
            have ho3 := hd ho3
            have hg1 := hd (hgo.out x te (by rw [hH.out]; rfl))
            have hb7 := hbd.out a x te (by rw [hH.out]; rfl)
            have hcn := hd (show countL (vs ++ [x]) ≤ te by rw [hcs.out]; have := hcv.out; omega)
            clear hG3 hb6 hsm
            go_wp2_with fail
            go_roundw
            case rel => exact ⟨te, f, _, _, rfl, by go_num, hb7.2.1, by omega, hg1, hcn, by rw [hsn.out]; exact ho3, hG3'⟩
            case measure => simp [intOf]; omega
    · obtain rfl : a = l.length := by omega
      obtain ⟨f, rfl⟩ : ∃ f', f = f' + 1 := ⟨f - 1, by omega⟩
      have hltI : ¬ (l.length : Int) < (b.size : Int) := by omega
      have hfin := hd (show full = some vs by rw [hrest.out, itemsF_end (Nat.lt_irrefl _)]; simp)
      have hres := hd (hsome.out wo s vs hGr.out hOr.out hfin.out)
      go_wp2_with fail
      go_ret2
      exact hres.out
/-- What one part of a message tells. -/
def stepV (p : K) (l : List DField) : Option (List K) := match l.find? (fun f => f.no == p.no) with
  | none => if p.must then none else some []
  | some f => (partV p.of p.most (fun d => decK p p.no d) f).map (fun v => [v])
theorem decL_nil (l : List DField) : decL [] l = some [] := by rw [decL]
theorem decL_cons (p : K) (ps : List K) (l : List DField) : decL (p :: ps) l = (stepV p l).bind (fun a => (decL ps l).map (fun b => a ++ b)) := by
  rw [decL]; unfold stepV
  dsimp only
  cases l.find? (fun f => f.no == p.no) with
  | none =>
    dsimp only
    split
    · rfl
    · cases decL ps l <;> rfl
  | some f =>
    dsimp only
    cases partV p.of p.most (fun d => decK p p.no d) f with
    | none => rfl
    | some v => cases decL ps l <;> rfl
theorem decL_snoc (p : K) (l : List DField) : ∀ ps : List K, decL (ps ++ [p]) l = (decL ps l).bind (fun a => (stepV p l).map (fun b => a ++ b)) := by
  intro ps
  induction ps with
  | nil =>
    rw [List.nil_append, decL_cons, decL_nil]
    cases stepV p l <;> simp
  | cons q ps ih =>
    rw [List.cons_append, decL_cons, decL_cons, ih]
    cases stepV q l with
    | none => rfl
    | some a =>
      cases decL ps l with
      | none => rfl
      | some c =>
        cases stepV p l with
        | none => rfl
        | some d => simp
theorem decL_stop (l : List DField) (qs : List K) : ∀ ps : List K, decL ps l = none → decL (ps ++ qs) l = none := by
  intro ps
  induction ps with
  | nil => intro h; rw [decL_nil] at h; cases h
  | cons q ps ih =>
    intro h
    rw [decL_cons] at h
    rw [List.cons_append, decL_cons]
    cases hq : stepV q l with
    | none => rfl
    | some a =>
      rw [hq] at h
      cases hps : decL ps l with
      | none => simp [ih hps]
      | some c => rw [hps] at h; cases h
theorem decL_take {ps : List K} {j : Nat} (h : j < ps.length) (l : List DField) : decL (ps.take (j + 1)) l = (decL (ps.take j) l).bind (fun a => (stepV ps[j] l).map (fun b => a ++ b)) := by
  rw [List.take_succ_eq_append_getElem h, decL_snoc]
theorem decL_none {ps : List K} {j : Nat} (h : j < ps.length) {l : List DField} (hs : stepV ps[j] l = none) : decL ps l = none := by
  have h1 : decL (ps.take (j + 1)) l = none := by rw [decL_take h, hs]; cases decL (ps.take j) l <;> rfl
  have := decL_stop l (ps.drop (j + 1)) _ h1
  rwa [List.take_append_drop] at this
def noIsP (n : Int) (x : DPlaced) : Bool := x.f.no == n
theorem find_fidx (n : Int) : ∀ l : List DPlaced, (fidx (noIsP n) l = -1 ∧ (l.map (·.f)).find? (fun f => f.no == n) = none) ∨ ∃ i, ∃ h : i < l.length, fidx (noIsP n) l = (i : Int) ∧ (l.map (·.f)).find? (fun f => f.no == n) = some l[i].f := by
  intro l
  induction l with
  | nil => left; exact ⟨by simp [fidx], rfl⟩
  | cons x l ih =>
    by_cases hx : noIsP n x = true
    · right
      refine ⟨0, by simp, ?_, ?_⟩
      · unfold fidx; simp [List.findIdx_cons, hx]
      · have : (x.f.no == n) = true := hx
        simp [this]
    · have hx : noIsP n x = false := by simpa using hx
      have hx2 : (x.f.no == n) = false := hx
      rcases ih with ⟨h1, h2⟩ | ⟨i, hi, h1, h2⟩
      · left
        refine ⟨?_, by simp [hx2]; simpa using h2⟩
        unfold fidx at h1 ⊢
        simp only [List.findIdx_cons, hx, List.length_cons, cond_false]
        split at h1
        · omega
        · rw [if_neg (by omega)]
      · right
        refine ⟨i + 1, by simpa using hi, ?_, ?_⟩
        · unfold fidx at h1 ⊢
          simp only [List.findIdx_cons, hx, List.length_cons, cond_false]
          split at h1
          · rw [if_pos (by omega)]; omega
          · omega
        · simp only [List.map_cons, List.find?_cons, hx2, List.getElem_cons_succ]; exact h2
set_option maxHeartbeats 800000 in
theorem ix_dec (cv : Value) (p : DPlaced → Bool) (l : List DPlaced) (v : Value) (w : World) (hl : l.length ≤ 1000000000000) (h : Sl w v 5 (l.map DPlaced.enc))
    (hp : ∀ x ∈ l, ∀ w', Below w.heap.size w w' → Calls Try.prog 138 #[.agg #[.int .i64 x.f.no, .int .i64 x.f.kind, .int .i64 x.f.num, .string x.f.data, .int .i64 x.at_], cv] w' (BoolPost (p x) w')) :
    Calls Try.prog 137 #[v, .func (.func 138) #[] #[cv]] w (IntPost (fidx p l) w) := by
  replace hp := hd hp
  rcases h.open with ⟨a1, c1, rfl, hr⟩ | ⟨b1, o1, c1, rfl, hr, C1⟩
  · obtain rfl : l = [] := by simpa using hr
    go_enter Try.func137, Try.ntmps137
    go_wp2
    go_loopw [8] (fun i wr => i = .int .i64 0 ∧ wr = w) (fun _ _ => 0)
    case atStart => exact ⟨rfl, rfl⟩
    case round =>
      obtain ⟨rfl, rfl⟩ := hrel
      go_wp2_with fail
      go_ret
      exact ⟨rfl, Below.refl _ _⟩
  · clear h
    simp only [List.length_map]
    go_enter Try.func137, Try.ntmps137
    go_wp2
    go_loopw [8] (fun i wr => ∃ k : Nat, k ≤ l.length ∧ i = .int .i64 k ∧ Hd (fidx_from p l k) ∧ Hd (Below w.heap.size w wr)) (fun i _ => l.length - (intOf i).toNat)
    case atStart => exact ⟨0, Nat.zero_le _, rfl, fidx_zero p l, Below.refl _ _⟩
    case round =>
      obtain ⟨k, hk, rfl, hfx, hbl⟩ := hrel
      by_cases hlt : k < l.length
      · obtain ⟨f0, f1, f2, f3, f4⟩ := Cells.rowPlaced l k hlt (C1.mono hbl.out)
        cases hpx : p l[k] with
        | true =>
          replace hpx := hd hpx
          go_wp2_with fail
          refine (hp.out l[k] (List.getElem_mem hlt) _ hbl.out).mono ?_
          rw [hpx.out]
          rintro e w2 ⟨rfl, hb⟩
          have hb2 := hd (hbl.out.next hb)
          clear hb
          go_wp2_with fail
          go_ret
          exact ⟨ret_int (fidx_hit hlt hfx.out hpx.out).symm, hb2.out⟩
        | false =>
          replace hpx := hd hpx
          go_wp2_with fail
          refine (hp.out l[k] (List.getElem_mem hlt) _ hbl.out).mono ?_
          rw [hpx.out]
          rintro e w2 ⟨rfl, hb⟩
          have hb2 := hd (hbl.out.next hb)
          clear hb
          go_wp2_with fail
          go_roundw
          case rel => exact ⟨k + 1, by omega, by go_num, fidx_step hlt hfx.out hpx.out, hb2⟩
          case measure => simp [intOf]; omega
      · go_wp2_with fail
        go_ret
        exact ⟨ret_int (fidx_none (by omega) hfx.out).symm, hbl.out⟩
set_option maxHeartbeats 800000 in
theorem dec_cl (pn : Int) (x : DPlaced) (bV bp : Nat) (w : World) (q : w.cell? ⟨bV, 0, none⟩ = some (.pointer (some ⟨bp, 0, none⟩))) (q2 : w.cell? ⟨bp, 2, none⟩ = some (.int .i64 pn)) :
    Calls Try.prog 138 #[.agg #[.int .i64 x.f.no, .int .i64 x.f.kind, .int .i64 x.f.num, .string x.f.data, .int .i64 x.at_], .pointer (some ⟨bV, 0, none⟩)] w (BoolPost (noIsP pn x) w) := by
  have hz := hd (show noIsP pn x = (x.f.no == pn) from rfl)
  generalize noIsP pn x = z at *
  obtain ⟨⟨n0, n1, n2, n3⟩, n4⟩ := x
  dsimp only at *
  have hX := hd (BoxN.new w [.int .i64 n0, .int .i64 n1, .int .i64 n2, .string n3, .int .i64 n4] 130)
  have hB := hd (below_a1 w (a := .cells #[.int .i64 n0, .int .i64 n1, .int .i64 n2, .string n3, .int .i64 n4] 130))
  have k1 := keepCell hB.out q
  have k2 := keepCell hB.out q2
  go_enter Try.func138, Try.ntmps138
  go_upto_region 1 with (fail)
  change Hd (BoxN (w.alloc (.cells #[.int .i64 n0, .int .i64 n1, .int .i64 n2, .string n3, .int .i64 n4] 130)) _ _) at hX
  generalize w.alloc (.cells #[.int .i64 n0, .int .i64 n1, .int .i64 n2, .string n3, .int .i64 n4] 130) = W at *
  have x0 := hX.out.1 0 _ rfl
  go_quiet (fail)
  go_wp2_with fail
  go_ret
  exact ⟨by rw [hz.out]; rfl, below_drewN hB.out _⟩
end Go.Proofs.Ytobahkjbadamhaa

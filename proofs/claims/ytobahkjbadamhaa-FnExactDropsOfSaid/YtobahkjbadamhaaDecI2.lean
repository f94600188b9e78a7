/- The nodes that bytes of a type tell behind others: decode of the program. -/
import Derived.Test.YtobahkjbadamhaaDecI
namespace Go.Proofs.Ytobahkjbadamhaa
open Go.RowKit
set_option linter.unusedVariables false
set_option maxRecDepth 100000
theorem rows_many (out : List DNode) (no up : Int) (vs : List K) : out ++ rowsV (.mk 5 ⟨#[]⟩ no true 0 vs) up out.length = kidsV (out ++ [(⟨0, ⟨#[]⟩, no, up, true⟩ : DNode)]) out.length vs (out ++ [(⟨0, ⟨#[]⟩, no, up, true⟩ : DNode)]).length := by
  rw [rowsV_eq, kidsV]
  simp [topV, K.most, K.name, K.no, K.must, K.parts]
theorem partV_num {p : K} {f : DField} (hf : foldB p.of = true) : partV p.of p.most (fun d => decK p p.no d) f = if f.kind = 0 ∧ numV p.of p.most f.num = true then some (leafV f.num ⟨#[]⟩ f.no) else none := by
  rw [partV, if_pos hf]
theorem partV_dat {p : K} {f : DField} (hf : foldB p.of = false) : partV p.of p.most (fun d => decK p p.no d) f = if f.kind = 0 then none else decK p p.no f.data := by
  rw [partV, if_neg (by rw [hf]; simp)]
set_option maxHeartbeats 12800000 in
theorem decode_i (t : K) : rightK t → foldB t.of = false → DecC t := by
  refine K.ind2 (P := fun t => rightK t → foldB t.of = false → DecC t) ?_ t
  intro t ih hr hnf
  intro vt out v b no up w lo hi B hhB hB hb hc hR hO
  have hkinds := right_holds hr
  have hdk := decK_eq t no b
  have hct := countK_eq t
  have hR0 := hd hR
  have hO0 := hd hO
  obtain ⟨bk, ak, ck, vs0, rfl, hbk, c0, c1, c2, c3, c4, c5, hS, hlv, hg⟩ := hR.open
  obtain ⟨ao, co, rfl, _⟩ := hO.sl
  simp only [List.length_map] at hO hO0 ⊢
  have hno := hd (hO.no (b := bk) (.inl (by omega)))
  have hO := hd hO
  obtain ⟨i0, hi0, hz0, hz1, hz2⟩ := info_parts infoNode
  have Hi := hd hi0; have Hz0 := hd hz0; have Hz1 := hd hz1; have Hz2 := hd hz2
  clear hi0 hz0 hz1 hz2
  by_cases h2 : t.of = 2
  · rw [if_pos h2] at hdk
    have hone := hd (DNode.enc_one [⟨0, b, no, up, false⟩])
    have hsn := hd (map_snocN out ⟨0, b, no, up, false⟩)
    rw [h2] at c0
    by_cases h30 : b.size ≤ 30
    · rw [if_pos h30] at hdk
      have h30I : (b.size : Int) ≤ 30 := by omega
      have hres := hd (show (decK t no b).map (fun t => out ++ rowsV t up out.length) = some (out ++ [(⟨0, b, no, up, false⟩ : DNode)]) by rw [hdk]; simp [rowsV_leaf])
      generalize (decK t no b).map (fun t => out ++ rowsV t up out.length) = R at *
      clear hdk hg hS h30 hR hR0 hO0 hkinds
      go_enter Try.func117, Try.ntmps117
      go_wp2_with (at_builtin; refine wpList_appOwn rfl (.tmp 25) (.tmp 30) 37 rfl B 113 i0 _ 5 48 Try.underlying37 Hi.out Hz0.out Hz1.out Hz2.out rfl (by decide) _ (out.map DNode.enc) [DNode.enc ⟨0, b, no, up, false⟩] rfl (hO.out.below (below_a1 _)) _ 1 1 rfl rfl (one_row rfl) (cells_new _ _ _) hone.out (by simp only [List.length_map]; omega) (by decide) (by first | omega | exact Nat.le_refl _ | (simp; done) | (simp; omega)) ?_; intro v6 w6 ho6 hga hva; have hG6 := hd ((Gr.of_below (v := .slice ao out.length co) (below_a1 w)).trans (Gr.app hga hva)); rw [hsn.out] at ho6; replace ho6 := hd ho6; clear hga hva)
      go_ret2
      obtain ⟨a6, c6, hs6, _⟩ := ho6.out.sl
      subst hs6
      exact ⟨_, _, _, by rw [hres.out]; rfl, fun r e => by rw [hres.out] at e; cases e; exact ⟨ho6.out, hG6.out⟩, hG6.out.below hB (fun g hg => (hO.out.lt g hg).1)⟩
    · rw [if_neg h30] at hdk
      have h30I : ¬ (b.size : Int) ≤ 30 := by omega
      have hres := hd (show (decK t no b).map (fun t => out ++ rowsV t up out.length) = none by rw [hdk]; rfl)
      generalize (decK t no b).map (fun t => out ++ rowsV t up out.length) = R at *
      clear hdk hg hS h30 hR hR0 hO0 hkinds
      go_enter Try.func117, Try.ntmps117
      go_wp2_with (at_builtin; refine wpList_appOwn rfl (.tmp 25) (.tmp 30) 37 rfl B 113 i0 _ 5 48 Try.underlying37 Hi.out Hz0.out Hz1.out Hz2.out rfl (by decide) _ (out.map DNode.enc) [DNode.enc ⟨0, b, no, up, false⟩] rfl (hO.out.below (below_a1 _)) _ 1 1 rfl rfl (one_row rfl) (cells_new _ _ _) hone.out (by simp only [List.length_map]; omega) (by decide) (by first | omega | exact Nat.le_refl _ | (simp; done) | (simp; omega)) ?_; intro v6 w6 ho6 hga hva; have hG6 := hd ((Gr.of_below (v := .slice ao out.length co) (below_a1 w)).trans (Gr.app hga hva)); rw [hsn.out] at ho6; replace ho6 := hd ho6; clear hga hva)
      go_ret2
      obtain ⟨a6, c6, hs6, _⟩ := ho6.out.sl
      subst hs6
      exact ⟨_, _, _, by rw [hres.out]; rfl, (fun r e => by rw [hres.out] at e; cases e), hG6.out.below hB (fun g hg => (hO.out.lt g hg).1)⟩
  · rw [if_neg h2] at hdk
    have h2b : (t.of == 2) = false := by simpa using h2
    have hone := hd (DNode.enc_one [⟨0, ⟨#[]⟩, no, up, true⟩])
    have hsn := hd (map_snocN out ⟨0, ⟨#[]⟩, no, up, true⟩)
    by_cases h4 : t.of = 4
    · rw [if_pos h4] at hdk
      obtain ⟨p, hp⟩ := right_one hr h4
      have hrp := right_part hr (p := p) (by rw [hp]; simp)
      have hcp : countL t.parts = countK p := by rw [hp, countL, countL]; omega
      have cl := hd (fun (v6 : Value) (w6 : World) (hG : Gr w (.slice ao out.length co) w6 v6) (ho : Own w6 B 113 5 v6 ((out ++ [(⟨0, ⟨#[]⟩, no, up, true⟩ : DNode)]).map DNode.enc)) => decList_i t p hp hrp (fun hf => ih p (by rw [hp]; simp) hrp hf) (.pointer (some ⟨bk, 0, none⟩)) (out ++ [(⟨0, ⟨#[]⟩, no, up, true⟩ : DNode)]) v6 b out.length w6 lo hi B hhB (Nat.le_trans hB hG.1.size) hb (by rw [List.length_append, List.length_singleton]; omega) (RepP.same (Same.belowB (hG.below hB (fun g hg => (hO.out.lt g hg).1)) hhB) (Nat.le_refl _) (Nat.le_refl _) _ _ hR0.out) ho)
      have hres := hd (show (decK t no b).map (fun t => out ++ rowsV t up out.length) = (decH t.parts b).map (fun vs => kidsV (out ++ [(⟨0, ⟨#[]⟩, no, up, true⟩ : DNode)]) out.length vs (out ++ [(⟨0, ⟨#[]⟩, no, up, true⟩ : DNode)]).length) by
        rw [hdk, Option.map_map]; congr 1; funext vs; exact rows_many out no up vs)
      rw [h4] at c0
      generalize (decK t no b).map (fun t => out ++ rowsV t up out.length) = R at *
      clear hdk hg hS hR hR0 hO0 hkinds h2 h2b h4 hcp hct hp
      go_enter Try.func117, Try.ntmps117
      go_wp2_with (at_builtin; refine wpList_appOwn rfl (.tmp 38) (.tmp 42) 37 rfl B 113 i0 _ 5 48 Try.underlying37 Hi.out Hz0.out Hz1.out Hz2.out rfl (by decide) _ (out.map DNode.enc) [DNode.enc ⟨0, ⟨#[]⟩, no, up, true⟩] rfl (hO.out.below (below_a1 _)) _ 1 1 rfl rfl (one_row rfl) (cells_new _ _ _) hone.out (by simp only [List.length_map]; omega) (by decide) (by first | omega | exact Nat.le_refl _ | (simp; done) | (simp; omega)) ?_; intro v6 w6 ho6 hga hva; have hG6 := hd ((Gr.of_below (v := .slice ao out.length co) (below_a1 w)).trans (Gr.app hga hva)); rw [hsn.out] at ho6; have cl6 := hd (cl.out v6 w6 hG6.out ho6); clear hga hva)
      refine cl6.out.mono ?_
      rintro e w7 ⟨a7, n7, c7, rfl, hsm, hb7⟩
      have hfin := hd (show DecPost B R (.slice ao out.length co) w (.returned (.tuple #[.slice a7 n7 c7, .bool ((decH t.parts b).map (fun vs => kidsV (out ++ [(⟨0, ⟨#[]⟩, no, up, true⟩ : DNode)]) out.length vs (out ++ [(⟨0, ⟨#[]⟩, no, up, true⟩ : DNode)]).length)).isSome])) w7 from
        ⟨a7, n7, c7, by rw [hres.out], fun r e => by rw [hres.out] at e; exact ⟨(hsm r e).1, hG6.out.trans (hsm r e).2⟩, (hG6.out.below hB (fun g hg => (hO.out.lt g hg).1)).trans hb7⟩)
      clear hsm hb7
      generalize ((decH t.parts b).map (fun vs => kidsV (out ++ [(⟨0, ⟨#[]⟩, no, up, true⟩ : DNode)]) out.length vs (out ++ [(⟨0, ⟨#[]⟩, no, up, true⟩ : DNode)]).length)).isSome = sm at *
      go_wp2_with fail
      go_ret2
      exact hfin.out
    · rw [if_neg h4] at hdk
      have h4b : (t.of == 4) = false := by simpa using h4
      have h5 : t.of = 5 := by
        rcases hkinds with e | e | e | e | e
        · simp [foldB, e] at hnf
        · exact absurd e h2
        · simp [foldB, e] at hnf
        · exact absurd e h4
        · exact e
      rw [h5] at c0
      have hcr := hd (fun w' => rising_i b w' (by omega))
      have hrF := rfF_map b.data.toList
      have hFok := hd (fun f (hf : f ∈ rfF b.data.toList) => rfF_ok b.data.toList f hf)
      have hFsz := hd (fun f (hf : f ∈ rfF b.data.toList) => (show f.data.size ≤ 400 from by have h1 := rfF_data hf; have h2 := data_len b; omega))
      have hLl := rfL_len b.data.toList
      have hcp := hd (fun p (hp : p ∈ t.parts) => (show countK p ≤ countL t.parts from count_part hp))
      have hrp := hd (fun p (hp : p ∈ t.parts) => right_part hr hp)
      have hplen := len_count t.parts
      have hctk := hd (fun j (h : j < t.parts.length) => (⟨countL_take h, countL_le t.parts (j + 1)⟩ : _ ∧ _))
      have ih := hd ih
      have hg := hd hg
      obtain ⟨F, hF⟩ : ∃ F, rfF b.data.toList = F := ⟨_, rfl⟩
      rw [hF] at hdk hrF hFok hFsz
      generalize rfL b.data.toList = L at *
      obtain ⟨rb, hrb⟩ : ∃ rb, rfB b.data.toList = rb := ⟨_, rfl⟩
      rw [hrb] at hdk hcr
      have hone := hd (DNode.enc_one [⟨0, ⟨#[]⟩, no, up, true⟩])
      clear hrb hF hR hR0 hkinds h2 h4
      have hpl9 : t.parts.length ≤ 1000000 := by omega
      replace hct := hd hct
      cases rb with
      | false =>
        have hres := hd (show (decK t no b).map (fun t => out ++ rowsV t up out.length) = none by rw [hdk]; simp)
        generalize (decK t no b).map (fun t => out ++ rowsV t up out.length) = R at *
        clear hdk
        go_enter Try.func117, Try.ntmps117
        go_wp2_with fail
        refine (hcr.out w).mono ?_
        rintro e w2 ⟨v2, rfl, ho2, hb2⟩
        have hB2 := hd (hb2.mono hB)
        clear ho2 hb2
        go_wp2_with fail
        go_ret2
        exact ⟨none, 0, 0, by rw [hres.out]; rfl, (fun r e => by rw [hres.out] at e; cases e), hB2.out⟩
      | true =>
        obtain ⟨out1, hout1⟩ : ∃ out1 : List DNode, out1 = out ++ [(⟨0, ⟨#[]⟩, no, up, true⟩ : DNode)] := ⟨_, rfl⟩
        have hres := hd (show (decK t no b).map (fun t => out ++ rowsV t up out.length) = (decL t.parts F).map (fun vs => kidsV out1 out.length vs out1.length) by
          rw [hdk, if_pos rfl, Option.map_map, hout1]; congr 1; funext vs; exact rows_many out no up vs)
        generalize (decK t no b).map (fun t => out ++ rowsV t up out.length) = R at *
        have hol : out1.length = out.length + 1 := by rw [hout1]; simp
        have hout1h := hd hout1
        clear hdk hout1
        replace hol := hd hol
        have hnoneR := hd (fun (wr : World) (hw : Below B w wr) (hf : decL t.parts F = none) => (show DecPost B R (.slice ao out.length co) w (.returned (.tuple #[.slice none 0 0, .bool false])) wr from
          ⟨none, 0, 0, by rw [hres.out, hf]; rfl, (fun r e => by rw [hres.out, hf] at e; cases e), hw⟩))
        have hsomeR := hd (fun (wr : World) (s : Value) (vs : List K) (hw : Gr w (.slice ao out.length co) wr s) (ho : Own wr B 113 5 s ((kidsV out1 out.length vs out1.length).map DNode.enc)) (hf : decL t.parts F = some vs) => (show DecPost B R (.slice ao out.length co) w (.returned (.tuple #[s, .bool true])) wr from by
          obtain ⟨a', c', e', _⟩ := ho.sl
          subst e'
          refine ⟨_, _, _, by rw [hres.out, hf]; rfl, fun r e => ?_, hw.below hB (fun g hg => (hO.out.lt g hg).1)⟩
          rw [hres.out, hf] at e; cases e; exact ⟨ho, hw⟩))
        clear hres
        go_enter Try.func117, Try.ntmps117
        go_wp2_with fail
        refine (hcr.out w).mono ?_
        rintro e w2 ⟨v2, rfl, ho2, hb2⟩
        have hB2 := hd (hb2.mono hB)
        have hO2 := hd (hO.out.below hb2)
        have hz2 := hb2.size
        have hGw2 := hd (Gr.of_below (v := .slice ao out.length co) hb2)
        have c52 := keepCell hb2 c5
        obtain ⟨a2, c2', rfl, _⟩ := ho2.sl
        simp only [List.length_map] at ho2 ⊢
        have hap : ∀ g, (Value.slice a2 L.length c2').ownBlock = some g → w.heap.size ≤ g ∧ g < w2.heap.size := fun g hg => ho2.lt g hg
        have hap := hd hap
        have hvlt := hd (fun g (hg : (Value.slice ao out.length co).ownBlock = some g) => (show g < w.heap.size from (hO.out.lt g hg).2))
        have hl2 := hd ho2
        clear ho2
        go_wp2_with (at_builtin; refine wpList_appOwn rfl (.tmp 59) (.tmp 63) 37 rfl B 113 i0 _ 5 48 Try.underlying37 Hi.out Hz0.out Hz1.out Hz2.out rfl (by decide) _ (out.map DNode.enc) [DNode.enc ⟨0, ⟨#[]⟩, no, up, true⟩] rfl (hO2.out.below (below_a1 _)) _ 1 1 rfl rfl (one_row rfl) (cells_new _ _ _) hone.out (by simp only [List.length_map]; omega) (by decide) (by first | omega | exact Nat.le_refl _ | (simp; done) | (simp; omega)) ?_; intro v6 w6 ho6 hga hva; have hG6 := hd ((Gr.of_below (v := .slice ao out.length co) (below_a1 w2)).trans (Gr.app hga hva)); have q5 := hG6.out.kept c52 hno.out; rw [hsn.out, ← hout1h.out] at ho6; replace ho6 := hd ho6; clear hga hva)
        have hGw6 := hd (hGw2.out.trans hG6.out)
        have hz6 : B ≤ w6.heap.size := Nat.le_trans hB hGw6.out.1.size
        have hz26 := hG6.out.1.size
        have hl6 := hd (hl2.out.kept hG6.out.1 (by
          rcases hq : (Value.slice a2 L.length c2').ownBlock with _ | g
          · exact .inl rfl
          · right; intro e; have h1 := hvlt.out g e.symm; have h2 := (hap.out g hq).1; omega))
        have hne6 := hd (show (Value.slice a2 L.length c2').ownBlock = none ∨ (Value.slice a2 L.length c2').ownBlock ≠ v6.ownBlock from by
          rcases hq : (Value.slice a2 L.length c2').ownBlock with _ | g
          · exact .inl rfl
          · right; intro e
            have h2 := hap.out g hq
            rcases hG6.out.2 with e2 | e2
            · rw [e2] at e; have h1 := hvlt.out g e.symm; omega
            · have := e2 g e.symm; omega)
        clear c52
        go_loopw [1, 70] (fun s n wr => ∃ (j : Nat) (vs : List K) (sv : Value), sv = s ∧ j ≤ t.parts.length ∧ n = .int .i64 j ∧ Hd (decL (t.parts.take j) F = some vs) ∧ Hd (countL vs ≤ 402 * j) ∧ Hd (Own wr B 113 5 s ((kidsV out1 out.length vs out1.length).map DNode.enc)) ∧ Hd (Gr w6 v6 wr s)) (fun _ n _ => t.parts.length - (intOf n).toNat)
        case atStart => exact ⟨0, [], _, rfl, Nat.zero_le _, rfl, (show decL _ F = some [] from by rw [List.take_zero, decL_nil]), (show countL [] ≤ _ from by simp [countL]), (show Own _ _ _ _ _ _ from by rw [kidsV_nil]; exact ho6.out), Gr.refl _ _⟩
        case round =>
          obtain ⟨j, vs, s, rfl, hj, rfl, hdec, hcv, hOr, hGr⟩ := hrel
          obtain ⟨wo, rfl⟩ : ∃ wo : World, wo = wr := ⟨_, rfl⟩
          have hGw := hd (hGw6.out.trans hGr.out)
          have hBr := hd (hGw.out.below hB (fun g hg => (hO.out.lt g hg).1))
          have hzr : B ≤ wo.heap.size := Nat.le_trans hz6 hGr.out.1.size
          by_cases hlt : j < t.parts.length
          · have hltI : (j : Int) < (t.parts.length : Int) := by omega
            obtain ⟨b1, o1, rfl, hb1, hc1⟩ := hS.at (j := j) (by omega)
            have q1 := hc1 j (by omega)
            rw [← hBr.out.cell (p := ⟨b1, o1 + j, none⟩) (by show b1 < B; omega)] at q1
            have hRj := (hg.out j hlt (by omega)).same (Same.belowB hBr.out hhB) (Nat.le_refl _) (Nat.le_refl _) _ _
            obtain ⟨bp, ap, cp, vp, hvp, hbp, p0, p1, p2, p3, p4, p5, _, _, _⟩ := hRj.open
            rw [hvp] at q1 hRj
            have hRjh := hd hRj
            have hpm := List.getElem_mem hlt
            have hcpj := hcp.out _ hpm
            have hctj := hctk.out j hlt
            have hcvo := hcv.out
            have hk := kidsV_len out1 out.length vs out1.length
            have holo := hol.out
            have hkl : (kidsV out1 out.length vs out1.length).length + 1000 * countK t.parts[j] ≤ 1000000000 := by
              have h1 := len_count (t.parts.take j)
              rw [List.length_take] at h1
              have h2 : min j t.parts.length = j := by omega
              have h3 := hct.out
              have h4 := hctj.1
              have h5 := hctj.2
              rw [h2] at h1
              omega
            have hnone := hd (fun (h : stepV t.parts[j] F = none) => decL_none hlt h)
            have hgo := hd (fun ws (h : stepV t.parts[j] F = some ws) => (show decL (t.parts.take (j + 1)) F = some (vs ++ ws) by rw [decL_take hlt, hdec.out, h]; rfl))
            have hstep := hd (show stepV t.parts[j] F = match F.find? (fun f => f.no == t.parts[j].no) with | none => if t.parts[j].must then none else some [] | some f => (partV t.parts[j].of t.parts[j].most (fun d => decK t.parts[j] t.parts[j].no d) f).map (fun v => [v]) from rfl)
            have hfind := find_fidx t.parts[j].no L
            rw [← hrF] at hfind
            have hihp := hd (fun hf => ih.out _ hpm (hrp.out _ hpm) hf)
            have hdb := hd (dec_bd _ (hrp.out _ hpm))
            clear hvp hc1 hpm hcpj hctj p1 p5 hk holo
            generalize t.parts[j] = p at *
            have hal := below_a1 wo (a := .cells #[.pointer (some ⟨bp, 0, none⟩)] 79)
            have k16 : (wo.alloc (.cells #[.pointer (some ⟨bp, 0, none⟩)] 79)).cell? ⟨wo.heap.size, 0, none⟩ = some (.pointer (some ⟨bp, 0, none⟩)) := by go_simp
            have P0 := keepCell hal p0
            have P2 := keepCell hal p2
            have P3 := keepCell hal p3
            have P4 := keepCell hal p4
            have hB1 := hd hal
            go_upto_region 14 with (fail)
            generalize wo.alloc (.cells #[.pointer (some ⟨bp, 0, none⟩)] 79) = W1 at *
            have hlW1 := hd ((hl6.out.kept hGr.out.1 hne6.out).below hB1.out)
            have ci := hd (ix_dec (.pointer (some ⟨wo.heap.size, 0, none⟩)) (noIsP p.no) L (.slice a2 L.length c2') W1 (by omega) (by have := hlW1.out.sl; exact this) (fun y hy w' hb => dec_cl p.no y _ bp w' (keepCell hb k16) (keepCell hb P2)))
            clear p0 p2 p3 p4 q1 hal
            rcases hfind with ⟨hfx, hfn⟩ | ⟨i, hiL0, hfx, hfs⟩
            · rw [hfx] at ci
              rw [hfn] at hstep
              cases hmu : p.must with
              | true =>
                rw [hmu] at P3
                have hres := hd (hnoneR.out)
                have hst := hd (hnone.out (by rw [hstep.out, hmu]; rfl))
                clear hmu hstep hfn hfx
                go_wp2_with fail
                refine ci.out.mono ?_
                rintro e w3 ⟨rfl, hb3⟩
                have m16 := keepCell hb3 k16
                have m3 := keepCell hb3 P3
                have hB3 := hd ((hBr.out.trans (hB1.out.mono hzr)).trans (hb3.mono (Nat.le_trans hzr hB1.out.size)))
                clear hb3
                go_wp2_with fail
                go_ret2
                exact hres.out _ hB3.out hst.out
              | false =>
                rw [hmu] at P3
                have hst := hd (hgo.out [] (by rw [hstep.out, hmu]; rfl))
                rw [List.append_nil] at hst
                clear hmu hstep hfn hfx
                go_wp2_with fail
                refine ci.out.mono ?_
                rintro e w3 ⟨rfl, hb3⟩
                have m16 := keepCell hb3 k16
                have m3 := keepCell hb3 P3
                have hO3 := hd ((hOr.out.below hB1.out).below hb3)
                have hG3 := hd (hGr.out.trans (Gr.of_below (hB1.out.next hb3)))
                clear hb3
                go_wp2_with fail
                go_roundw
                case rel => exact ⟨j + 1, vs, s, rfl, by omega, by go_num, hst, by show countL vs ≤ _; omega, hO3, hG3⟩
                case measure => simp [intOf]; omega
            · rw [hfx] at ci
              rw [hfs] at hstep
              have hiI : ¬ (i : Int) < 0 := by omega
              have hiL : (i : Int) < (L.length : Int) := by omega
              have hfm : L[i].f ∈ F := by rw [hrF]; exact List.mem_map.2 ⟨L[i], List.getElem_mem hiL0, rfl⟩
              have hfk : L[i].f.kind = 0 ∨ L[i].f.kind = 2 := by
                have := hFok.out _ hfm
                by_cases h0 : L[i].f.kind = 0
                · exact .inl h0
                · by_cases h2 : L[i].f.kind = 2
                  · exact .inr h2
                  · rw [fieldB_kind h0 h2] at this; cases this
              have hfsz := hFsz.out _ hfm
              obtain ⟨a', c', e', hrr'⟩ := hlW1.out.sl
              simp only [List.length_map] at e'
              injection e' with e1 e2 e3
              subst e1 e3
              obtain ⟨bL, oL, rfl, hCL⟩ := rows_at hrr' (k := i) (by rw [List.length_map]; exact hiL0)
              replace hCL := hd hCL
              have hnoe := hd (show L[i].f.no = p.no by simpa using List.find?_some hfs)
              clear e2 hrr'
              clear hfm hfs hfx
              go_wp2_with fail
              refine ci.out.mono ?_
              rintro e w3 ⟨rfl, hb3⟩
              have m16 := keepCell hb3 k16
              have m0 := keepCell hb3 P0
              have m2 := keepCell hb3 P2
              have m4 := keepCell hb3 P4
              obtain ⟨f0, f1, f2, f3, f4⟩ := Cells.rowPlaced L i hiL0 (hCL.out.mono hb3)
              have hBw3 := hd (hB1.out.next hb3)
              clear hb3 P0 P2 P3 P4 k16
              generalize L[i] = y at *
              have hal3 := below_a1 w3 (a := .cells #[.int .i64 y.f.no, .int .i64 y.f.kind, .int .i64 y.f.num, .string y.f.data, .int .i64 y.at_] 130)
              have hX4 := hd (show BoxN (w3.alloc (.cells #[.int .i64 y.f.no, .int .i64 y.f.kind, .int .i64 y.f.num, .string y.f.data, .int .i64 y.at_] 130)) w3.heap.size [.int .i64 y.f.no, .int .i64 y.f.kind, .int .i64 y.f.num, .string y.f.data, .int .i64 y.at_] from BoxN.new w3 _ _)
              have n16 := keepCell hal3 m16
              have n0 := keepCell hal3 m0
              have n2 := keepCell hal3 m2
              have n4 := keepCell hal3 m4
              have hBw4 := hd (hBw3.out.next hal3)
              go_upto_region 19 with (fail)
              generalize w3.alloc (.cells #[.int .i64 y.f.no, .int .i64 y.f.kind, .int .i64 y.f.num, .string y.f.data, .int .i64 y.at_] 130) = W4 at *
              clear m16 m0 m2 m4 f0 f1 f2 f3 f4 hal3
              have x1 := hX4.out.1 1 _ rfl
              have cfk := hd (fun k => fieldKind_b p.of bp (W4.drewN k) (keepCell (below_drewN (Below.refl _ W4) k) n0))
              cases hpf : foldB p.of with
              | true =>
                have hkN : kindN p.of = 0 := by unfold kindN; rw [hpf]; rfl
                rw [hkN] at cfk
                rw [partV_num hpf] at hstep
                rcases hfk with hk0 | hk2
                · rw [hk0] at x1 hX4
                  replace hstep := hd (show stepV p F = (if numV p.of p.most y.f.num = true then some (leafV y.f.num ⟨#[]⟩ p.no) else none).map (fun v => [v]) by rw [hstep.out, hnoe.out]; simp [hk0])
                  clear hk0 hkN hpf
                  go_quiet ((go_at_call 139; exact Calls.quiet_of_same ((cfk.out _).mono fun e w' h => ⟨h.1, h.2.symm⟩)))
                  have hBq := hd (below_drewN (Below.refl W4.heap.size W4) nq)
                  have Q16 := keepCell hBq.out n16
                  have Q0 := hd (keepCell hBq.out n0)
                  have Q2 := keepCell hBq.out n2
                  have Q4 := hd (keepCell hBq.out n4)
                  have hXq := hd (hX4.out.below hBq.out)
                  have z1 := hXq.out.1 1 _ rfl
                  have z2 := hXq.out.1 2 _ rfl
                  have z3 := hXq.out.1 3 _ rfl
                  have hOq := hd ((hOr.out.below hBw4.out).below hBq.out)
                  have hBo := hd (hBw4.out.next hBq.out)
                  have hGq := hd (hGr.out.trans (Gr.of_below hBo.out))
                  have hzq : B ≤ (W4.drewN nq).heap.size := Nat.le_trans hzr hBo.out.size
                  have hkl9 : (kidsV out1 out.length vs out1.length).length ≤ 2000000000 := by omega
                  have cn := hd (fun w' (hb : Below (W4.drewN nq).heap.size (W4.drewN nq) w') => decNum_i p.of p.most bp (kidsV out1 out.length vs out1.length) s y.f.num p.no out.length w' B (by omega) (Nat.le_trans hzq hb.size) hkl9 (keepCell hb Q0.out) (keepCell hb Q4.out) (hOq.out.below hb))
                  have hGd := hd (hGq.out.trans (Gr.of_below (Below.refl _ (W4.drewN nq)).drew))
                  generalize hnv : numV p.of p.most y.f.num = nv at *
                  replace hnv := hd hnv
                  have hrow := hd (show kidsV out1 out.length (vs ++ [leafV y.f.num ⟨#[]⟩ p.no]) out1.length = kidsV out1 out.length vs out1.length ++ [(⟨y.f.num, ⟨#[]⟩, p.no, out.length, false⟩ : DNode)] by rw [kidsV_snoc, rowsV_leaf])
                  have hcn := hd (show countL (vs ++ [leafV y.f.num ⟨#[]⟩ p.no]) ≤ 402 * (j + 1) by rw [countL_snoc', countK_eq]; have := hcv.out; simp only [leafV, K.parts, countL]; omega)
                  clear hBq n16 n0 n2 n4 x1 hX4 hkl hkl9 hnv
                  generalize W4.drewN nq = Wq at *
                  cases nv with
                  | false =>
                    have hst := hd (hnone.out (by rw [hstep.out]; simp))
                    go_upto_region 22 with (fail)
                    go_region_law ((go_simp; go_at_call 140; refine (cn.out _ (by first | exact Below.refl _ _ | exact (Below.refl _ _).drew)).mono ?_; rintro e w5 ⟨s5, rfl, ho5, hG5⟩; have ho5 := hd ho5; have hG6a := hd (show Gr w6 v6 w5 s5 from by first | exact hGq.out.trans hG5 | exact hGd.out.trans hG5); clear hG5))
                    all_goals
                      have hB5 := hd ((hGw6.out.trans hG6a.out).below hB (fun g hg => (hO.out.lt g hg).1))
                      go_wp2_with fail
                      go_ret2
                      exact hnoneR.out _ hB5.out hst.out
                  | true =>
                    have hst := hd (hgo.out [leafV y.f.num ⟨#[]⟩ p.no] (by rw [hstep.out]; simp))
                    go_upto_region 22 with (fail)
                    go_region_law ((go_simp; go_at_call 140; refine (cn.out _ (by first | exact Below.refl _ _ | exact (Below.refl _ _).drew)).mono ?_; rintro e w5 ⟨s5, rfl, ho5, hG5⟩; have ho5 := hd ho5; have hG6a := hd (show Gr w6 v6 w5 s5 from by first | exact hGq.out.trans hG5 | exact hGd.out.trans hG5); clear hG5))
                    all_goals
                      go_wp2_with fail
                      go_roundw
                      case rel => exact ⟨j + 1, _, s5, rfl, by omega, by go_num, hst, hcn, (show Own _ _ _ _ _ _ from by rw [hrow.out]; exact ho5.out), hG6a⟩
                      case measure => simp [intOf]; omega
                · rw [hk2] at x1 hX4
                  have hst := hd (hnone.out (by rw [hstep.out]; simp [hk2]))
                  clear hk2 hkN hpf hstep
                  go_quiet ((go_at_call 139; exact Calls.quiet_of_same ((cfk.out _).mono fun e w' h => ⟨h.1, h.2.symm⟩)))
                  have hBq := hd (show Below B w (W4.drewN nq) from below_drewN (hBr.out.trans (hBw4.out.mono hzr)) nq)
                  go_wp2_with fail
                  go_ret2
                  exact hnoneR.out _ hBq.out hst.out
              | false =>
                have hkN : kindN p.of = 2 := by unfold kindN; rw [hpf]; rfl
                rw [hkN] at cfk
                rw [partV_dat hpf] at hstep
                rcases hfk with hk0 | hk2
                · rw [hk0] at x1 hX4
                  have hst := hd (hnone.out (by rw [hstep.out]; simp [hk0]))
                  clear hk0 hkN hstep
                  go_quiet ((go_at_call 139; exact Calls.quiet_of_same ((cfk.out _).mono fun e w' h => ⟨h.1, h.2.symm⟩)))
                  have hBq := hd (show Below B w (W4.drewN nq) from below_drewN (hBr.out.trans (hBw4.out.mono hzr)) nq)
                  go_wp2_with fail
                  go_ret2
                  exact hnoneR.out _ hBq.out hst.out
                · rw [hk2] at x1 hX4
                  replace hstep := hd (show stepV p F = (decK p p.no y.f.data).map (fun v => [v]) by rw [hstep.out]; simp [hk2])
                  clear hk2 hkN
                  go_quiet ((go_at_call 139; exact Calls.quiet_of_same ((cfk.out _).mono fun e w' h => ⟨h.1, h.2.symm⟩)))
                  have hBq := hd (below_drewN (Below.refl W4.heap.size W4) nq)
                  have Q16 := keepCell hBq.out n16
                  have Q0 := hd (keepCell hBq.out n0)
                  have Q2 := keepCell hBq.out n2
                  have Q4 := hd (keepCell hBq.out n4)
                  have hXq := hd (hX4.out.below hBq.out)
                  have z1 := hXq.out.1 1 _ rfl
                  have z2 := hXq.out.1 2 _ rfl
                  have z3 := hXq.out.1 3 _ rfl
                  have hOq := hd ((hOr.out.below hBw4.out).below hBq.out)
                  have hBo := hd (hBw4.out.next hBq.out)
                  have hGq := hd (hGr.out.trans (Gr.of_below hBo.out))
                  have hzq : B ≤ (W4.drewN nq).heap.size := Nat.le_trans hzr hBo.out.size
                  have hsz9 : y.f.data.size ≤ 400 := hfsz
                  have cd := hd (fun w' (hb : Below (W4.drewN nq).heap.size (W4.drewN nq) w') => hihp.out hpf (.pointer (some ⟨bp, 0, none⟩)) (kidsV out1 out.length vs out1.length) s y.f.data p.no out.length w' lo hi B hhB (Nat.le_trans hzq hb.size) hsz9 hkl (hRjh.out.same (Same.belowB ((hBo.out.next hb).mono hzr) hhB) (Nat.le_refl _) (Nat.le_refl _)) (hOq.out.below hb))
                  have hbx := hd (fun x (h : decK p p.no y.f.data = some x) => (show countL (vs ++ [x]) ≤ 402 * (j + 1) by rw [countL_snoc']; have := hcv.out; have := hdb.out _ _ _ h; omega))
                  have hrow := hd (fun x => (kidsV_snoc out1 out.length vs x))
                  have hGd := hd (hGq.out.trans (Gr.of_below (Below.refl _ (W4.drewN nq)).drew))
                  clear hBq n16 n0 n2 n4 x1 hX4 hkl Q0 Q4 hpf
                  generalize decK p p.no y.f.data = D at *
                  generalize W4.drewN nq = Wq at *
                  cases D with
                  | none =>
                    have hst := hd (hnone.out (by rw [hstep.out]; rfl))
                    go_upto_region 23 with (fail)
                    go_region_law ((go_simp; go_at_call 117; refine (cd.out _ (by first | exact Below.refl _ _ | exact (Below.refl _ _).drew)).mono ?_; rintro e w5 ⟨a5, n5, c5', rfl, _, hb5⟩; have hB5 := hd (show Below B w w5 from by first | exact ((hGw6.out.trans hGq.out).below hB (fun g hg => (hO.out.lt g hg).1)).trans hb5 | exact ((hGw6.out.trans hGd.out).below hB (fun g hg => (hO.out.lt g hg).1)).trans hb5); clear hb5))
                    all_goals
                      go_wp2_with fail
                      go_ret2
                      exact hnoneR.out _ hB5.out hst.out
                  | some x =>
                    have hst := hd (hgo.out [x] (by rw [hstep.out]; rfl))
                    have hcn := hd (hbx.out x rfl)
                    go_upto_region 23 with (fail)
                    go_region_law ((go_simp; go_at_call 117; refine (cd.out _ (by first | exact Below.refl _ _ | exact (Below.refl _ _).drew)).mono ?_; rintro e w5 ⟨a5, n5, c5', rfl, hsm, _⟩; obtain ⟨ho5, hG5⟩ := hsm _ rfl; have ho5 := hd ho5; have hG6a := hd (show Gr w6 v6 w5 _ from by first | exact hGq.out.trans hG5 | exact hGd.out.trans hG5); clear hG5 hsm))
                    all_goals
                      go_wp2_with fail
                      go_roundw
                      case rel => exact ⟨j + 1, _, _, rfl, by omega, by go_num, hst, hcn, (show Own _ _ _ _ _ _ from by rw [hrow.out]; exact ho5.out), hG6a⟩
                      case measure => simp [intOf]; omega
          · obtain rfl : j = t.parts.length := by omega
            have hltI : ¬ (t.parts.length : Int) < (t.parts.length : Int) := by omega
            rw [List.take_length] at hdec
            have hfin := hd (hsomeR.out wo s vs hGw.out hOr.out hdec.out)
            go_wp2_with fail
            go_ret2
            exact hfin.out
end Go.Proofs.Ytobahkjbadamhaa

/- The nodes of a value's tree behind others: l4Flat, l4Of of the reference. -/
import Derived.Test.YtobahkjbadamhaaValM
import Derived.Test.YtobahkjbadamhaaTypesS
import Derived.Test.YtobahkjbadamhaaSchema
namespace Go.Proofs.Ytobahkjbadamhaa
open Go.RowKit
set_option linter.unusedVariables false
set_option maxRecDepth 100000
set_option maxHeartbeats 3200000 in
theorem flatV_s (t : K) : ∀ (r : List Value) (out : List DNode) (v : Value) (up : Int) (w : World) (lo hi B : Nat), hi ≤ B → B ≤ w.heap.size → out.length + countK t ≤ 1000000 → RepX HV 5 w lo hi t r → Own w B 113 5 v (out.map DNode.enc) →
    Calls Try.prog 105 #[.agg r.toArray, .int .i64 up, v] w (GrPost B 113 5 ((out ++ rowsV t up out.length).map DNode.enc) v w) := by
  refine K.ind2 (P := fun t => ∀ (r : List Value) (out : List DNode) (v : Value) (up : Int) (w : World) (lo hi B : Nat), hi ≤ B → B ≤ w.heap.size → out.length + countK t ≤ 1000000 → RepX HV 5 w lo hi t r → Own w B 113 5 v (out.map DNode.enc) →
    Calls Try.prog 105 #[.agg r.toArray, .int .i64 up, v] w (GrPost B 113 5 ((out ++ rowsV t up out.length).map DNode.enc) v w)) ?_ t
  intro t ih r out v up w lo hi B hhB hB hc hR hO
  have ih := hd ih
  rw [countK_eq] at hc
  have hend := hd (upToV_end out t up)
  obtain ⟨a, c, rows, rfl, hS, hl, hg⟩ := hR.open
  have hg := hd hg
  have hS := hd hS
  obtain ⟨ao, co, rfl, _⟩ := hO.sl
  simp only [List.length_map] at hO ⊢
  have hO := hd hO
  obtain ⟨i0, hi0, hz0, hz1, hz2⟩ := info_parts infoNode
  have Hi := hd hi0; have Hz0 := hd hz0; have Hz1 := hd hz1; have Hz2 := hd hz2
  clear hi0 hz0 hz1 hz2
  have hpl := len_count t.parts
  have hstep := hd (fun j (h : j < t.parts.length) => upToV_step h out (topV t up))
  have hlen := hd (upToV_len out (topV t up) t.parts)
  have hzero := hd (upToV_zero out (topV t up) t.parts)
  have hcl := hd (countL_le t.parts)
  have hone := hd (DNode.enc_one [topV t up])
  have hsn := hd (map_snocN out (topV t up))
  have hctk := hd (fun j (h : j < t.parts.length) => countL_take h)
  clear hR
  generalize hT : (out ++ rowsV t up out.length).map DNode.enc = T at *
  replace hT := hd hT
  change Calls Try.prog _ #[.agg #[.int .i64 t.most, .string t.name, .int .i64 t.no, .bool t.must, .slice a t.parts.length c], _, _] _ _
  have htop : topV t up = ⟨t.most, t.name, t.no, up, t.must⟩ := rfl
  rw [htop] at hone hsn hzero hlen hstep hend
  clear htop
  generalize t.parts = ps at *
  generalize t.name = nm at *
  generalize t.no = no at *
  generalize t.must = mu at *
  generalize t.most = mo at *
  have hX := hd (show BoxN (w.alloc (.cells #[.int .i64 mo, .string nm, .int .i64 no, .bool mu, .slice a ps.length c] 93)) w.heap.size [.int .i64 mo, .string nm, .int .i64 no, .bool mu, .slice a ps.length c] from BoxN.new w _ _)
  have hbd := hd (below_a1 w (a := .cells #[.int .i64 mo, .string nm, .int .i64 no, .bool mu, .slice a ps.length c] 93))
  have hsW : w.heap.size + 1 ≤ (w.alloc (.cells #[.int .i64 mo, .string nm, .int .i64 no, .bool mu, .slice a ps.length c] 93)).heap.size := by simp
  go_enter Try.func105, Try.ntmps105
  go_upto_region 2 with (fail)
  generalize w.alloc (.cells #[.int .i64 mo, .string nm, .int .i64 no, .bool mu, .slice a ps.length c] 93) = W at *
  have hO1 := hd (hO.out.below hbd.out)
  have hg1 := hd (fun j (h : j < ps.length) (h' : j < rows.length) => (hg.out j h h').below (by omega) hbd.out)
  have hS1 := hd (hS.out.same (Same.below hbd.out (by omega)) (Nat.le_refl _) (Nat.le_refl _) : XSl 5 W lo hi _ _)
  have hB1 : B ≤ W.heap.size := by omega
  have hG1 := hd (Gr.of_below (v := .slice ao out.length co) hbd.out)
  have hno := hd (hO.out.no (b := w.heap.size) (.inr (Nat.le_refl _)))
  have x0 := hX.out.1 0 _ rfl; have x1 := hX.out.1 1 _ rfl; have x2 := hX.out.1 2 _ rfl; have x3 := hX.out.1 3 _ rfl; have x4 := hX.out.1 4 _ rfl
  clear hO hg hS hB hbd
  go_wp2_with (at_builtin; refine wpList_appOwn rfl (.tmp 12) (.tmp 23) 37 rfl B 113 i0 _ 5 48 Try.underlying37 Hi.out Hz0.out Hz1.out Hz2.out rfl (by decide) _ (out.map DNode.enc) [DNode.enc ⟨mo, nm, no, up, mu⟩] rfl (hO1.out.below (below_a1 _)) _ 1 1 rfl rfl (one_row rfl) (cells_new _ _ _) hone.out (by simp only [List.length_map]; omega) (by decide) (by first | omega | exact Nat.le_refl _ | (simp; done) | (simp; omega)) ?_; intro v6 w6 ho6 hga hva; have hG6 := hd ((Gr.of_below (v := .slice ao out.length co) (below_a1 W)).trans (Gr.app hga hva)); rw [hsn.out, ← hzero.out] at ho6; have hBz := hd (hG6.out.below hB1 (fun g hg => (hO1.out.lt g hg).1)); have hX6 := hd (hG6.out.boxN hX.out hno.out); have y5 := hX6.out.1 4 _ rfl; replace ho6 := hd ho6; clear hga hva x0 x1 x2 x3 x4)
  have hGG := hd (hG1.out.trans hG6.out)
  have hS6 := hd (hS1.out.same (Same.belowB hBz.out hhB) (Nat.le_refl _) (Nat.le_refl _) : XSl 5 w6 lo hi _ _)
  have hR6 := hd (fun j (h : j < ps.length) (h' : j < rows.length) => (hg1.out j h h').same (Same.belowB hBz.out hhB) (Nat.le_refl _) (Nat.le_refl _) ps[j] rows[j])
  have hz6 : B ≤ w6.heap.size := Nat.le_trans hB1 hG6.out.1.size
  clear hO1 hg1 hS1 hG1 hG6 hBz
  go_wp2_with fail
  go_loopw [2, 28] (fun s n wr => ∃ (sv : Value) (j : Nat), sv = s ∧ j ≤ ps.length ∧ n = .int .i64 j ∧ Hd (Own wr B 113 5 s ((upToV out ⟨mo, nm, no, up, mu⟩ ps j).map DNode.enc)) ∧ Hd (Gr w6 v6 wr s)) (fun _ n _ => ps.length - (intOf n).toNat)
  case atStart => exact ⟨_, 0, rfl, Nat.zero_le _, rfl, ho6.out, Gr.refl _ _⟩
  case round =>
    obtain ⟨s, j, rfl, hj, rfl, hOr, hGr⟩ := hrel
    obtain ⟨wo, rfl⟩ : ∃ wo : World, wo = wr := ⟨_, rfl⟩
    have hBr := hd (hGr.out.below hz6 (fun g hg => (ho6.out.lt g hg).1))
    have hzr : B ≤ wo.heap.size := Nat.le_trans hz6 hGr.out.1.size
    by_cases hlt : j < ps.length
    · have hltI : (j : Int) < (ps.length : Int) := by omega
      obtain ⟨b1, rfl, hb1, hc1⟩ := hS6.out.at (j := j) (by omega)
      have hp := (hR6.out j hlt (by omega)).same (Same.belowB hBr.out hhB) (Nat.le_refl _) (Nat.le_refl _) _ _
      obtain ⟨ak, ck, rowsk, hrk, _⟩ := hp.open
      have hck := hc1 j (by omega)
      have hlj := hlen.out j
      have hctj := hctk.out j hlt
      have hcle := hcl.out (j + 1)
      have ci := hd (fun w' (hb : Below wo.heap.size wo w') => ih.out ps[j] (List.getElem_mem hlt) rows[j] (upToV out ⟨mo, nm, no, up, mu⟩ ps j) s out.length w' lo hi B hhB (Nat.le_trans hzr hb.size) (by omega) (hp.below (by omega) hb) (hOr.out.below hb))
      rw [← hstep.out j hlt] at ci
      rw [hrk] at hck ci
      have kb := fun o u (h : w6.cell? ⟨b1, o, none⟩ = some u) => (show wo.cell? ⟨b1, o, none⟩ = some u from by rw [hBr.out.cell (p := ⟨b1, o, none⟩) (by show b1 < B; omega)]; exact h)
      have d0 := kb _ _ (show w6.cell? ⟨b1, j * 5, none⟩ = some (.int .i64 ps[j].most) from hck 0 _ rfl)
      have d1 := kb _ _ (show _ = some (.string ps[j].name) from hck 1 _ rfl)
      have d2 := kb _ _ (show _ = some (.int .i64 ps[j].no) from hck 2 _ rfl)
      have d3 := kb _ _ (show _ = some (.bool ps[j].must) from hck 3 _ rfl)
      have d4 := kb _ _ (show _ = some (.slice ak ps[j].parts.length ck) from hck 4 _ rfl)
      have ci := hd (show ∀ w', Below wo.heap.size wo w' → Calls Try.prog _ #[.agg #[.int .i64 ps[j].most, .string ps[j].name, .int .i64 ps[j].no, .bool ps[j].must, .slice ak ps[j].parts.length ck], _, _] w' _ from ci.out)
      have hgb := hd (fun o => Gr.of_below (v := s) (below_a1 wo (a := o)))
      clear hc1 hrk hck hp kb hlj hctj hcle
      generalize ps[j] = p at *
      go_wp2_with fail
      refine (ci.out _ (below_a1 wo)).mono ?_
      rintro e w8 ⟨s8, rfl, ho8, hg8⟩
      have hG8 := hd (hGr.out.trans ((hgb.out _).trans hg8))
      replace ho8 := hd ho8
      clear hg8
      go_wp2_with fail
      go_roundw
      case rel => exact ⟨s8, j + 1, rfl, by omega, by go_num, ho8, hG8⟩
      case measure => simp [intOf]; omega
    · obtain rfl : j = ps.length := by omega
      have hltI : ¬ (ps.length : Int) < (ps.length : Int) := by omega
      rw [hend.out, hT.out] at hOr
      go_wp2_with fail
      go_ret
      exact ⟨s, rfl, hOr.out, hGG.out.trans hGr.out⟩
/-- A struct of one slice of the call's own. -/
def AggPost (E : TypeId) (sz : Nat) (rows : List (List Value)) (w : World) (e : Ending) (w' : World) : Prop :=
  ∃ v rb, e = .returned (.agg #[v]) ∧ OwnR w' w.heap.size E sz v rows rb ∧ Below w.heap.size w w'
set_option maxHeartbeats 1600000 in
theorem ofV_s (t : K) (r : List Value) (w : World) (lo hi : Nat) (hh : hi ≤ w.heap.size) (hc : countK t ≤ 1000000) (h : RepX HV 5 w lo hi t r) :
    Calls Try.prog 65 #[.agg r.toArray] w (AggPost 113 5 ((rowsV t (-1) 0).map DNode.enc) w) := by
  have cf := hd (fun w' (hb : Below w.heap.size w w') => flatV_s t r [] (.slice none 0 0) (-1) w' lo hi w'.heap.size (Nat.le_trans hh hb.size) (Nat.le_refl _) (by simpa using hc) (h.below hh hb) Own.nil)
  have hlen : (rowsV t (-1) 0).length ≤ 1000000 := by rw [rowsV_len]; exact hc
  obtain ⟨a, c, rows, rfl, hjk⟩ := h.open
  clear hjk
  simp only [List.nil_append, List.length_nil] at cf
  have cf := hd (show ∀ w', Below w.heap.size w w' → Calls Try.prog _ #[.agg #[.int .i64 t.most, .string t.name, .int .i64 t.no, .bool t.must, .slice a t.parts.length c], _, _] w' _ from cf.out)
  change Calls Try.prog _ #[.agg #[.int .i64 t.most, .string t.name, .int .i64 t.no, .bool t.must, .slice a t.parts.length c]] _ _
  clear h
  generalize rowsV t (-1) 0 = R at *
  generalize t.parts.length = np at *
  generalize t.name = nm at *
  generalize t.no = no at *
  generalize t.must = mu at *
  generalize t.most = mo at *
  go_enter Try.func65, Try.ntmps65
  go_wp2_with fail
  refine (cf.out _ (below_a2 _)).mono ?_
  rintro e w2 ⟨v2, rfl, ho2, hG2⟩
  have hb2 := hd (hG2.below (B := ((w.alloc (.cells #[.int .i64 mo, .string nm, .int .i64 no, .bool mu, .slice a np c] 93)).alloc (.cells #[.slice none 0 0] 39)).heap.size) (Nat.le_refl _) (by intro g hg; cases hg))
  have hx2 := hd (Box1.below (b := w.heap.size + 1) (v := .slice none 0 0) ⟨by go_simp, by go_simp⟩ hb2.out)
  have hB := hd ((below_a2 w).next hb2.out)
  obtain ⟨a2, c2, rfl, _⟩ := ho2.sl
  simp only [List.length_map] at ho2 ⊢
  have ho2 := hd (ho2.weaken (B' := w.heap.size + 2) (by simp))
  have Q1 := hx2.out.1; have Q2 := hx2.out.2
  clear hG2 hb2
  go_wp2_with fail
  refine bodyPost_ret (v := .agg #[.slice a2 R.length c2]) (by simp [results, Try.results65, go_sem, Q1]) rfl ⟨_, (Value.slice a2 R.length c2).ownBlock, rfl, ?_, ?_⟩
  · exact ownR_store ho2.out.r (by omega) (by omega)
  · exact hB.out.setCell (by simp) _
end Go.Proofs.Ytobahkjbadamhaa

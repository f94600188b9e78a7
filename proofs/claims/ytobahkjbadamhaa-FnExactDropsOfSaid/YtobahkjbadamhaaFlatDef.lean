/- The nodes of a value's tree behind others: l4Flat, l4Of of the reference (with DefS). -/
import Derived.Test.YtobahkjbadamhaaFitMM
import Derived.Test.YtobahkjbadamhaaSchemas
/- The nodes of a value's tree behind others: l4Flat, l4Of of the reference. -/
namespace Go.Proofs.Ytobahkjbadamhaa
open Go.RowKit
set_option linter.unusedVariables false
set_option maxRecDepth 100000
set_option maxHeartbeats 3200000 in
theorem flatV_s (t : K) : ∀ (r : List Value) (out : List DNode) (v : Value) (up : Int) (w : World) (lo hi B : Nat), hi ≤ B → B ≤ w.heap.size → out.length + countK t ≤ 1000000 → RepX HV 5 w lo hi t r → Own w B 113 5 v (out.map DNode.enc) →
    Calls Try.prog 105 #[.agg r.toArray, .int .i64 up, v] w (GrPost B 113 5 ((out ++ rowsV t up out.length).map DNode.enc) v w) := by
  refine K.ind2 (P := fun t => ∀ (r : List Value) (out : List DNode) (v : Value) (up : Int) (w : World) (lo hi B : Nat), hi ≤ B → B ≤ w.heap.size → out.length + countK t ≤ 1000000 → RepX HV 5 w lo hi t r → Own w B 113 5 v (out.map DNode.enc) →
    Calls Try.prog 105 #[.agg r.toArray, .int .i64 up, v] w (GrPost B 113 5 ((out ++ rowsV t up out.length).map DNode.enc) v w)) ?_ t
  intro t ih r out v up w lo hi B hhB hB hc hR hO
  have ih := hd ih
  rw [countK_eq] at hc
  have hend := hd (upToV_end out t up)
  obtain ⟨a, c, rows, rfl, hS, hl, hg⟩ := hR.open
  have hg := hd hg
  have hS := hd hS
  obtain ⟨ao, co, rfl, _⟩ := hO.sl
  simp only [List.length_map] at hO ⊢
  have hO := hd hO
  obtain ⟨i0, hi0, hz0, hz1, hz2⟩ := info_parts infoNode
  have Hi := hd hi0; have Hz0 := hd hz0; have Hz1 := hd hz1; have Hz2 := hd hz2
  clear hi0 hz0 hz1 hz2
  have hpl := len_count t.parts
  have hstep := hd (fun j (h : j < t.parts.length) => upToV_step h out (topV t up))
  have hlen := hd (upToV_len out (topV t up) t.parts)
  have hzero := hd (upToV_zero out (topV t up) t.parts)
  have hcl := hd (countL_le t.parts)
  have hone := hd (DNode.enc_one [topV t up])
  have hsn := hd (map_snocN out (topV t up))
  have hctk := hd (fun j (h : j < t.parts.length) => countL_take h)
  clear hR
  generalize hT : (out ++ rowsV t up out.length).map DNode.enc = T at *
  replace hT := hd hT
  change Calls Try.prog _ #[.agg #[.int .i64 t.most, .string t.name, .int .i64 t.no, .bool t.must, .slice a t.parts.length c], _, _] _ _
  have htop : topV t up = ⟨t.most, t.name, t.no, up, t.must⟩ := rfl
  rw [htop] at hone hsn hzero hlen hstep hend
  clear htop
  generalize t.parts = ps at *
  generalize t.name = nm at *
  generalize t.no = no at *
  generalize t.must = mu at *
  generalize t.most = mo at *
  have hX := hd (show BoxN (w.alloc (.cells #[.int .i64 mo, .string nm, .int .i64 no, .bool mu, .slice a ps.length c] 93)) w.heap.size [.int .i64 mo, .string nm, .int .i64 no, .bool mu, .slice a ps.length c] from BoxN.new w _ _)
  have hbd := hd (below_a1 w (a := .cells #[.int .i64 mo, .string nm, .int .i64 no, .bool mu, .slice a ps.length c] 93))
  have hsW : w.heap.size + 1 ≤ (w.alloc (.cells #[.int .i64 mo, .string nm, .int .i64 no, .bool mu, .slice a ps.length c] 93)).heap.size := by simp
  go_enter Try.func105, Try.ntmps105
  go_upto_region 2 with (fail)
  generalize w.alloc (.cells #[.int .i64 mo, .string nm, .int .i64 no, .bool mu, .slice a ps.length c] 93) = W at *
  have hO1 := hd (hO.out.below hbd.out)
  have hg1 := hd (fun j (h : j < ps.length) (h' : j < rows.length) => (hg.out j h h').below (by omega) hbd.out)
  have hS1 := hd (hS.out.same (Same.below hbd.out (by omega)) (Nat.le_refl _) (Nat.le_refl _) : XSl 5 W lo hi _ _)
  have hB1 : B ≤ W.heap.size := by omega
  have hG1 := hd (Gr.of_below (v := .slice ao out.length co) hbd.out)
  have hno := hd (hO.out.no (b := w.heap.size) (.inr (Nat.le_refl _)))
  have x0 := hX.out.1 0 _ rfl; have x1 := hX.out.1 1 _ rfl; have x2 := hX.out.1 2 _ rfl; have x3 := hX.out.1 3 _ rfl; have x4 := hX.out.1 4 _ rfl
  clear hO hg hS hB hbd
  go_wp2_with (at_builtin; refine wpList_appOwn rfl (.tmp 12) (.tmp 23) 37 rfl B 113 i0 _ 5 48 Try.underlying37 Hi.out Hz0.out Hz1.out Hz2.out rfl (by decide) _ (out.map DNode.enc) [DNode.enc ⟨mo, nm, no, up, mu⟩] rfl (hO1.out.below (below_a1 _)) _ 1 1 rfl rfl (one_row rfl) (cells_new _ _ _) hone.out (by simp only [List.length_map]; omega) (by decide) (by first | omega | exact Nat.le_refl _ | (simp; done) | (simp; omega)) ?_; intro v6 w6 ho6 hga hva; have hG6 := hd ((Gr.of_below (v := .slice ao out.length co) (below_a1 W)).trans (Gr.app hga hva)); rw [hsn.out, ← hzero.out] at ho6; have hBz := hd (hG6.out.below hB1 (fun g hg => (hO1.out.lt g hg).1)); have hX6 := hd (hG6.out.boxN hX.out hno.out); have y5 := hX6.out.1 4 _ rfl; replace ho6 := hd ho6; clear hga hva x0 x1 x2 x3 x4)
  have hGG := hd (hG1.out.trans hG6.out)
  have hS6 := hd (hS1.out.same (Same.belowB hBz.out hhB) (Nat.le_refl _) (Nat.le_refl _) : XSl 5 w6 lo hi _ _)
  have hR6 := hd (fun j (h : j < ps.length) (h' : j < rows.length) => (hg1.out j h h').same (Same.belowB hBz.out hhB) (Nat.le_refl _) (Nat.le_refl _) ps[j] rows[j])
  have hz6 : B ≤ w6.heap.size := Nat.le_trans hB1 hG6.out.1.size
  clear hO1 hg1 hS1 hG1 hG6 hBz
  go_wp2_with fail
  go_loopw [2, 28] (fun s n wr => ∃ (sv : Value) (j : Nat), sv = s ∧ j ≤ ps.length ∧ n = .int .i64 j ∧ Hd (Own wr B 113 5 s ((upToV out ⟨mo, nm, no, up, mu⟩ ps j).map DNode.enc)) ∧ Hd (Gr w6 v6 wr s)) (fun _ n _ => ps.length - (intOf n).toNat)
  case atStart => exact ⟨_, 0, rfl, Nat.zero_le _, rfl, ho6.out, Gr.refl _ _⟩
  case round =>
    obtain ⟨s, j, rfl, hj, rfl, hOr, hGr⟩ := hrel
    obtain ⟨wo, rfl⟩ : ∃ wo : World, wo = wr := ⟨_, rfl⟩
    have hBr := hd (hGr.out.below hz6 (fun g hg => (ho6.out.lt g hg).1))
    have hzr : B ≤ wo.heap.size := Nat.le_trans hz6 hGr.out.1.size
    by_cases hlt : j < ps.length
    · have hltI : (j : Int) < (ps.length : Int) := by omega
      obtain ⟨b1, rfl, hb1, hc1⟩ := hS6.out.at (j := j) (by omega)
      have hp := (hR6.out j hlt (by omega)).same (Same.belowB hBr.out hhB) (Nat.le_refl _) (Nat.le_refl _) _ _
      obtain ⟨ak, ck, rowsk, hrk, _⟩ := hp.open
      have hck := hc1 j (by omega)
      have hlj := hlen.out j
      have hctj := hctk.out j hlt
      have hcle := hcl.out (j + 1)
      have ci := hd (fun w' (hb : Below wo.heap.size wo w') => ih.out ps[j] (List.getElem_mem hlt) rows[j] (upToV out ⟨mo, nm, no, up, mu⟩ ps j) s out.length w' lo hi B hhB (Nat.le_trans hzr hb.size) (by omega) (hp.below (by omega) hb) (hOr.out.below hb))
      rw [← hstep.out j hlt] at ci
      rw [hrk] at hck ci
      have kb := fun o u (h : w6.cell? ⟨b1, o, none⟩ = some u) => (show wo.cell? ⟨b1, o, none⟩ = some u from by rw [hBr.out.cell (p := ⟨b1, o, none⟩) (by show b1 < B; omega)]; exact h)
      have d0 := kb _ _ (show w6.cell? ⟨b1, j * 5, none⟩ = some (.int .i64 ps[j].most) from hck 0 _ rfl)
      have d1 := kb _ _ (show _ = some (.string ps[j].name) from hck 1 _ rfl)
      have d2 := kb _ _ (show _ = some (.int .i64 ps[j].no) from hck 2 _ rfl)
      have d3 := kb _ _ (show _ = some (.bool ps[j].must) from hck 3 _ rfl)
      have d4 := kb _ _ (show _ = some (.slice ak ps[j].parts.length ck) from hck 4 _ rfl)
      have ci := hd (show ∀ w', Below wo.heap.size wo w' → Calls Try.prog _ #[.agg #[.int .i64 ps[j].most, .string ps[j].name, .int .i64 ps[j].no, .bool ps[j].must, .slice ak ps[j].parts.length ck], _, _] w' _ from ci.out)
      have hgb := hd (fun o => Gr.of_below (v := s) (below_a1 wo (a := o)))
      clear hc1 hrk hck hp kb hlj hctj hcle
      generalize ps[j] = p at *
      go_wp2_with fail
      refine (ci.out _ (below_a1 wo)).mono ?_
      rintro e w8 ⟨s8, rfl, ho8, hg8⟩
      have hG8 := hd (hGr.out.trans ((hgb.out _).trans hg8))
      replace ho8 := hd ho8
      clear hg8
      go_wp2_with fail
      go_roundw
      case rel => exact ⟨s8, j + 1, rfl, by omega, by go_num, ho8, hG8⟩
      case measure => simp [intOf]; omega
    · obtain rfl : j = ps.length := by omega
      have hltI : ¬ (ps.length : Int) < (ps.length : Int) := by omega
      rw [hend.out, hT.out] at hOr
      go_wp2_with fail
      go_ret
      exact ⟨s, rfl, hOr.out, hGG.out.trans hGr.out⟩
/-- A struct of one slice of the call's own. -/
def AggPost (E : TypeId) (sz : Nat) (rows : List (List Value)) (w : World) (e : Ending) (w' : World) : Prop :=
  ∃ v rb, e = .returned (.agg #[v]) ∧ OwnR w' w.heap.size E sz v rows rb ∧ Below w.heap.size w w'
set_option maxHeartbeats 1600000 in
theorem ofV_s (t : K) (r : List Value) (w : World) (lo hi : Nat) (hh : hi ≤ w.heap.size) (hc : countK t ≤ 1000000) (h : RepX HV 5 w lo hi t r) :
    Calls Try.prog 65 #[.agg r.toArray] w (AggPost 113 5 ((rowsV t (-1) 0).map DNode.enc) w) := by
  have cf := hd (fun w' (hb : Below w.heap.size w w') => flatV_s t r [] (.slice none 0 0) (-1) w' lo hi w'.heap.size (Nat.le_trans hh hb.size) (Nat.le_refl _) (by simpa using hc) (h.below hh hb) Own.nil)
  have hlen : (rowsV t (-1) 0).length ≤ 1000000 := by rw [rowsV_len]; exact hc
  obtain ⟨a, c, rows, rfl, hjk⟩ := h.open
  clear hjk
  simp only [List.nil_append, List.length_nil] at cf
  have cf := hd (show ∀ w', Below w.heap.size w w' → Calls Try.prog _ #[.agg #[.int .i64 t.most, .string t.name, .int .i64 t.no, .bool t.must, .slice a t.parts.length c], _, _] w' _ from cf.out)
  change Calls Try.prog _ #[.agg #[.int .i64 t.most, .string t.name, .int .i64 t.no, .bool t.must, .slice a t.parts.length c]] _ _
  clear h
  generalize rowsV t (-1) 0 = R at *
  generalize t.parts.length = np at *
  generalize t.name = nm at *
  generalize t.no = no at *
  generalize t.must = mu at *
  generalize t.most = mo at *
  go_enter Try.func65, Try.ntmps65
  go_wp2_with fail
  refine (cf.out _ (below_a2 _)).mono ?_
  rintro e w2 ⟨v2, rfl, ho2, hG2⟩
  have hb2 := hd (hG2.below (B := ((w.alloc (.cells #[.int .i64 mo, .string nm, .int .i64 no, .bool mu, .slice a np c] 93)).alloc (.cells #[.slice none 0 0] 39)).heap.size) (Nat.le_refl _) (by intro g hg; cases hg))
  have hx2 := hd (Box1.below (b := w.heap.size + 1) (v := .slice none 0 0) ⟨by go_simp, by go_simp⟩ hb2.out)
  have hB := hd ((below_a2 w).next hb2.out)
  obtain ⟨a2, c2, rfl, _⟩ := ho2.sl
  simp only [List.length_map] at ho2 ⊢
  have ho2 := hd (ho2.weaken (B' := w.heap.size + 2) (by simp))
  have Q1 := hx2.out.1; have Q2 := hx2.out.2
  clear hG2 hb2
  go_wp2_with fail
  refine bodyPost_ret (v := .agg #[.slice a2 R.length c2]) (by simp [results, Try.results65, go_sem, Q1]) rfl ⟨_, (Value.slice a2 R.length c2).ownBlock, rfl, ?_, ?_⟩
  · exact ownR_store ho2.out.r (by omega) (by omega)
  · exact hB.out.setCell (by simp) _
end Go.Proofs.Ytobahkjbadamhaa
/- The least value of a type: l4Default of the reference. -/
namespace Go.Proofs.Ytobahkjbadamhaa
open Go.RowKit
set_option linter.unusedVariables false
set_option maxRecDepth 100000
theorem infoV : (Try.prog.info? 93).map (fun i => (i.zero, i.size, i.bytes)) = some (some (.agg #[.int .i64 0, .string ⟨#[]⟩, .int .i64 0, .bool false, .slice none 0 0]), 5, 64) := by kernel_rfl
theorem rowV_one {mo : Int} {nm : ByteArray} {no : Int} {mu : Bool} {a : Option Addr} {n c : Nat} : ∀ u ∈ [[Value.int .i64 mo, .string nm, .int .i64 no, .bool mu, .slice a n c]].flatten, u.oneCell' = true := by
  intro u hu
  simp at hu
  rcases hu with rfl | rfl | rfl | rfl | rfl <;> rfl
set_option maxHeartbeats 6400000 in
theorem default_s (t : K) : ∀ (r : List Value) (w : World) (lo hi : Nat), hi ≤ w.heap.size → countK t ≤ 1000000 → RepT w lo hi t r →
    Calls Try.prog 66 #[.agg r.toArray] w (XPost HV 5 (leastK t 0) w) := by
  refine K.ind2 (P := fun t => ∀ (r : List Value) (w : World) (lo hi : Nat), hi ≤ w.heap.size → countK t ≤ 1000000 → RepT w lo hi t r →
    Calls Try.prog 66 #[.agg r.toArray] w (XPost HV 5 (leastK t 0) w)) ?_ t
  intro t ih r w lo hi hh hc hR
  have ih := hd ih
  obtain ⟨a, c, rows, rfl, hS, hl, hg⟩ := hR.open
  have hg := hd hg
  have hS := hd hS
  rw [countK_eq] at hc
  obtain ⟨i0, hi0, hz0, hz1, hz2⟩ := info_parts infoV
  have Hi := hd hi0; have Hz0 := hd hz0; have Hz1 := hd hz1; have Hz2 := hd hz2
  clear hi0 hz0 hz1 hz2
  have hpl := len_count t.parts
  have hstep := hd (fun j (h : j < t.parts.length) => leastL_take h)
  have hcp := hd (fun p (hp : p ∈ t.parts) => count_part hp)
  have hmk : Hd (∀ (w' : World) (B : Nat) (s : Value) (rws : List (List Value)), (t.of = 5 → RepXs HV 5 w' B w'.heap.size (leastL t.parts) rws) → (t.of ≠ 5 → rws = []) → XSl 5 w' B w'.heap.size s rws → RepX HV 5 w' B w'.heap.size (leastK t 0) [.int .i64 0, .string ⟨#[]⟩, .int .i64 0, .bool (holdsB t.of), s]) := by
    intro w' B s rws h1 h2 h3
    have := RepX.mk (H := HV) (t := leastK t 0) h3 (by
      rw [least_parts]
      split
      · exact h1 ‹_›
      · rw [h2 ‹_›, RepXs])
    cases t; exact this
  clear hR
  generalize hT : leastK t 0 = T at *
  replace hT := hd hT
  have hch := hd (holds_s t.of)
  generalize t.parts = ps at *
  generalize t.name = nm at *
  generalize t.no = no at *
  generalize t.must = mu at *
  generalize t.most = mo at *
  generalize holdsB t.of = hb0 at *
  generalize t.of = o at *
  have hbd := hd (below_a3 w (a := .cells #[.int .i64 o, .string nm, .int .i64 no, .bool mu, .int .i64 mo, .slice a ps.length c] 74) (b := .cells #[.int .i64 0, .string ⟨#[]⟩, .int .i64 0, .bool false, .slice none 0 0] 93) (c := .cells #[.int .i64 0, .string ⟨#[]⟩, .int .i64 0, .bool hb0, .slice none 0 0] 93))
  have hXt := hd (show BoxN (((w.alloc (.cells #[.int .i64 o, .string nm, .int .i64 no, .bool mu, .int .i64 mo, .slice a ps.length c] 74)).alloc (.cells #[.int .i64 0, .string ⟨#[]⟩, .int .i64 0, .bool false, .slice none 0 0] 93)).alloc (.cells #[.int .i64 0, .string ⟨#[]⟩, .int .i64 0, .bool hb0, .slice none 0 0] 93)) w.heap.size [.int .i64 o, .string nm, .int .i64 no, .bool mu, .int .i64 mo, .slice a ps.length c] from (BoxN.new w _ _).below (below_a2 _))
  have hXr := hd (show BoxN (((w.alloc (.cells #[.int .i64 o, .string nm, .int .i64 no, .bool mu, .int .i64 mo, .slice a ps.length c] 74)).alloc (.cells #[.int .i64 0, .string ⟨#[]⟩, .int .i64 0, .bool false, .slice none 0 0] 93)).alloc (.cells #[.int .i64 0, .string ⟨#[]⟩, .int .i64 0, .bool hb0, .slice none 0 0] 93)) (w.heap.size + 1) [.int .i64 0, .string ⟨#[]⟩, .int .i64 0, .bool false, .slice none 0 0] from by
    have := BoxN.new (w.alloc (.cells #[.int .i64 o, .string nm, .int .i64 no, .bool mu, .int .i64 mo, .slice a ps.length c] 74)) [.int .i64 0, .string ⟨#[]⟩, .int .i64 0, .bool false, .slice none 0 0] 93
    rw [World.size_alloc] at this
    exact this.below (below_a1 _))
  have hXo := hd (show BoxN (((w.alloc (.cells #[.int .i64 o, .string nm, .int .i64 no, .bool mu, .int .i64 mo, .slice a ps.length c] 74)).alloc (.cells #[.int .i64 0, .string ⟨#[]⟩, .int .i64 0, .bool false, .slice none 0 0] 93)).alloc (.cells #[.int .i64 0, .string ⟨#[]⟩, .int .i64 0, .bool hb0, .slice none 0 0] 93)) (w.heap.size + 1 + 1) [.int .i64 0, .string ⟨#[]⟩, .int .i64 0, .bool hb0, .slice none 0 0] from by
    have := BoxN.new ((w.alloc (.cells #[.int .i64 o, .string nm, .int .i64 no, .bool mu, .int .i64 mo, .slice a ps.length c] 74)).alloc (.cells #[.int .i64 0, .string ⟨#[]⟩, .int .i64 0, .bool false, .slice none 0 0] 93)) [.int .i64 0, .string ⟨#[]⟩, .int .i64 0, .bool hb0, .slice none 0 0] 93
    rw [World.size_alloc, World.size_alloc] at this
    exact this)
  have hsz : w.heap.size + 3 ≤ (((w.alloc (.cells #[.int .i64 o, .string nm, .int .i64 no, .bool mu, .int .i64 mo, .slice a ps.length c] 74)).alloc (.cells #[.int .i64 0, .string ⟨#[]⟩, .int .i64 0, .bool false, .slice none 0 0] 93)).alloc (.cells #[.int .i64 0, .string ⟨#[]⟩, .int .i64 0, .bool hb0, .slice none 0 0] 93)).heap.size := by simp
  have hszE := hd (show (((w.alloc (.cells #[.int .i64 o, .string nm, .int .i64 no, .bool mu, .int .i64 mo, .slice a ps.length c] 74)).alloc (.cells #[.int .i64 0, .string ⟨#[]⟩, .int .i64 0, .bool false, .slice none 0 0] 93)).alloc (.cells #[.int .i64 0, .string ⟨#[]⟩, .int .i64 0, .bool hb0, .slice none 0 0] 93)).heap.size = w.heap.size + 3 by simp)
  by_cases h5 : o = 5
  · subst h5
    go_enter Try.func66, Try.ntmps66
    go_wp2_with fail
    refine (hch.out _).mono ?_
    rintro e w2 ⟨rfl, rfl⟩
    go_upto_region 2 with (fail)
    generalize ((w.alloc (.cells #[.int .i64 5, .string nm, .int .i64 no, .bool mu, .int .i64 mo, .slice a ps.length c] 74)).alloc (.cells #[.int .i64 0, .string ⟨#[]⟩, .int .i64 0, .bool false, .slice none 0 0] 93)).alloc (.cells #[.int .i64 0, .string ⟨#[]⟩, .int .i64 0, .bool hb0, .slice none 0 0] 93) = W at *
    have x0 := hXt.out.1 0 _ rfl
    have x5 := hXt.out.1 5 _ rfl
    have hSW := hd (hS.out.same (Same.below hbd.out hh) (Nat.le_refl _) (Nat.le_refl _) : RSl W lo hi _ _)
    have hgW := hd (fun j (h : j < ps.length) (h' : j < rows.length) => (hg.out j h h').below hh hbd.out)
    go_wp2_with fail
    go_loopw [17] (fun n wr => ∃ (j : Nat) (s : Value) (rws : List (List Value)), j ≤ ps.length ∧ n = .int .i64 j ∧ Hd (BoxN wr (w.heap.size + 1 + 1) [.int .i64 0, .string ⟨#[]⟩, .int .i64 0, .bool hb0, s]) ∧ Hd (Own wr (w.heap.size + 3) 93 5 s rws) ∧ Hd (SepX HV 5 wr (w.heap.size + 3) s (leastL (ps.take j)) rws) ∧ Hd (W.grownBy wr (some (w.heap.size + 1 + 1)))) (fun n _ => ps.length - (intOf n).toNat)
    case atStart => exact ⟨0, .slice none 0 0, [], Nat.zero_le _, rfl, hXo.out, Own.nil, by rw [List.take_zero, leastL]; exact SepX.nil, grownBy_refl _ _⟩
    case round =>
      obtain ⟨j, s, rws, hj, rfl, hX, hO, hSep, hG⟩ := hrel
      obtain ⟨wo, rfl⟩ : ∃ wo : World, wo = wr := ⟨_, rfl⟩
      have hzG := hG.out.size
      by_cases hlt : j < ps.length
      · have hltI : (j : Int) < (ps.length : Int) := by omega
        obtain ⟨b1, rfl, hb1, hc1⟩ := hSW.out.at (j := j) (by omega)
        have hsm := hd (show Same W wo lo hi from Same.grown hG.out (by omega) (fun g hg => by cases hg; right; omega))
        have hp := RepT.same hsm.out (Nat.le_refl _) (Nat.le_refl _) _ _ (hgW.out j hlt (by omega))
        obtain ⟨ak, ck, rowsk, hrk, _⟩ := hp.open
        have hck := hc1 j (by omega)
        have ci := hd (fun w' (hb : Below wo.heap.size wo w') => ih.out ps[j] (List.getElem_mem hlt) rows[j] w' lo hi (by have := hb.size; omega) (by have := hcp.out _ (List.getElem_mem hlt); omega) (hp.below (by omega) hb))
        rw [hrk] at hck ci
        have kb := fun o u (h : W.cell? ⟨b1, o, none⟩ = some u) => (show wo.cell? ⟨b1, o, none⟩ = some u from by rw [hsm.out b1 hb1.1 hb1.2]; exact h)
        have d0 := kb _ _ (show W.cell? ⟨b1, j * 6, none⟩ = _ from hck 0 _ rfl)
        have d1 := kb _ _ (hck 1 _ rfl)
        have d2 := kb _ _ (hck 2 _ rfl)
        have d3 := kb _ _ (hck 3 _ rfl)
        have d4 := kb _ _ (hck 4 _ rfl)
        have d5 := kb _ _ (hck 5 _ rfl)
        have hst := hstep.out j hlt
        have hb1' := hd (fun o => below_a1 wo (a := o))
        have hrl := hd hSep.out.1
        have hll : (leastL (ps.take j)).length ≤ 1000000 := by
          have h1 := leastL_le (ps.take j)
          have h2 := len_count (leastL (ps.take j))
          have h3 := countL_le ps j
          omega
        cases hm : ps[j].must with
        | false =>
          rw [hm] at hst d3
          have hst2 := hd (show SepX HV 5 wo (w.heap.size + 3) s (leastL (ps.take (j + 1))) rws from by rw [hst]; simpa using hSep.out)
          have hXn := hd (fun o => hX.out.below (hb1'.out o))
          have hOn := hd (fun o => hO.out.below (hb1'.out o))
          have hSn := hd (fun o => hst2.out.below (hb1'.out o))
          have hGn := hd (fun o => grownBy_trans hG.out (below_grownBy (hb1'.out o) (some (w.heap.size + 1 + 1))) (.inl rfl))
          generalize ps[j] = p at *
          clear hc1 hrk hck hp kb hst ci hm
          go_wp2_with fail
          go_roundw
          case rel => exact ⟨j + 1, s, rws, by omega, by go_num, hXn.out _, hOn.out _, hSn.out _, hGn.out _⟩
          case measure => simp [intOf]; omega
        | true =>
          rw [hm, if_pos rfl] at hst
          rw [hm] at d3 ci
          generalize ps[j] = p at *
          clear hc1 hrk hck hp kb hm
          go_wp2_with fail
          refine (ci.out _ (below_a1 wo)).mono ?_
          rintro e w5 ⟨r5, rfl, hr5, hb5⟩
          obtain ⟨a5, c5, rows5, rfl, hjk5⟩ := hr5.openV
          clear hjk5
          have hr6 := RepX.withNo hr5 p.no
          rw [least_no] at hr6
          have hz5 : w.heap.size + 3 ≤ w5.heap.size := by have := hb5.size; simp at this; omega
          have e2 := hd (keepCell hb5 (show (wo.alloc (.cells #[.int .i64 p.of, .string p.name, .int .i64 p.no, .bool true, .int .i64 p.most, .slice ak p.parts.length ck] 74)).cell? ⟨wo.heap.size, 2, none⟩ = some (.int .i64 p.no) by go_simp))
          have q2 := e2.out
          have hzW := hszE.out
          have hX5 := hd ((hX.out.below (hb1'.out _)).below hb5)
          have hO5 := hd ((hO.out.below (hb1'.out _)).below hb5)
          have hS5 := hd (((hSep.out.below (hb1'.out _)).below hb5).snoc (by simp; omega) (Nat.le_refl _) (fun g hg => by left; have := (hO.out.lt g hg).2; simp; omega) hr6)
          rw [← hst] at hS5
          have hG5 := hd (grownBy_trans (grownBy_trans hG.out (below_grownBy (hb1'.out _) (some (w.heap.size + 1 + 1))) (.inl rfl)) (below_grownBy hb5 (some (w.heap.size + 1 + 1))) (.inl rfl))
          replace hb5 := hd hb5
          replace hr5 := hd hr5
          replace hr6 := hd hr6
          replace hst := hd hst
          replace hzW := hd hzW
          have hrl2 : rws.length ≤ 1000000 := by rw [hrl.out]; exact hll
          generalize (leastK p 0).parts.length = l5 at *
          generalize (leastK p 0).most = l1 at *
          generalize (leastK p 0).name = l2 at *
          generalize (leastK p 0).no = l3 at *
          generalize (leastK p 0).must = l4 at *
          generalize p.no = pn at *
          have hXa := hd (hX5.out.below (below_a1 w5 (a := .cells #[.int .i64 l1, .string l2, .int .i64 pn, .bool l4, .slice a5 l5 c5] 93)))
          have hOa := hd (hO5.out.below (below_a1 w5 (a := .cells #[.int .i64 l1, .string l2, .int .i64 pn, .bool l4, .slice a5 l5 c5] 93)))
          have y4 := hXa.out.1 4 _ rfl
          have y4b := fun o' => keepCell (below_a1 _ (a := o')) y4
          have q2a := keepCell (below_a1 w5 (a := .cells #[.int .i64 l1, .string l2, .int .i64 l3, .bool l4, .slice a5 l5 c5] 93)) q2
          go_wp2_with (at_builtin; refine wpList_appOwn rfl (.tmp 29) (.tmp 31) 91 rfl (w.heap.size + 3) 93 i0 _ 5 64 Try.underlying91 Hi.out Hz0.out Hz1.out Hz2.out rfl (by decide) _ rws [[.int .i64 l1, .string l2, .int .i64 pn, .bool l4, .slice a5 l5 c5]] rfl (hOa.out.below (below_a1 _)) _ 1 1 rfl rfl (one_row rfl) (cells_new1 _ _ _ _) rowV_one (by omega) (by decide) (by first | omega | exact Nat.le_refl _ | (simp; done) | (simp; omega)) ?_; intro s6 w6 ho6 hga hva; obtain ⟨a6, c6, rfl, hjk⟩ := ho6.sl; clear hjk; rw [List.length_append, List.length_singleton] at *; have hX6 := hd ((hXa.out.below (below_a1 _)).grown hga (by intro e; have := (hO5.out.lt _ e.symm).1; omega)); have y6 := hX6.out.1 4 _ rfl; have r6 := hX6.out.2.1 4; have hga := hd hga; have hva := hd hva; have ho6 := hd ho6; clear y4 y4b q2a q2)
          have hne6 : ∀ g, (Value.slice a6 (rws.length + 1) c6).ownBlock = some g → w.heap.size + 3 ≤ g := fun g hg => (ho6.out.lt g hg).1
          have hX7 := hd (hX6.out.set (i := 4) (by simp) (.slice a6 (rws.length + 1) c6))
          have hO7 := hd (ho6.out.kept (grownBy_setCell w6 ⟨w.heap.size + 1 + 1, 4, none⟩ (.slice a6 (rws.length + 1) c6)) (.inr (fun e => by have : w.heap.size + 3 ≤ w.heap.size + 1 + 1 := hne6 _ e; omega)))
          have hS7 := hd ((((hS5.out.below (below_a1 _)).below (below_a1 _)).grown (Gr.app hga.out hva.out)).set (c := w.heap.size + 1 + 1) (k := 4) (u := .slice a6 (rws.length + 1) c6) (by omega))
          have hG7 := hd (grownBy_trans (grownBy_trans (grownBy_trans hG5.out (below_grownBy (below_a2 w5 (a := _) (b := _)) (some (w.heap.size + 1 + 1))) (.inl rfl)) hga.out (.inr (fun g hg => by have := (hO5.out.lt g hg).1; have := hzW.out; omega))) (grownBy_setCell w6 ⟨w.heap.size + 1 + 1, 4, none⟩ (.slice a6 (rws.length + 1) c6)) (.inl rfl))
          go_wp2_with fail
          go_roundw
          case rel => exact ⟨j + 1, .slice a6 (rws.length + 1) c6, _, by omega, by go_num, hX7, hO7, hS7, hG7⟩
          case measure => simp [intOf]; omega
      · obtain rfl : j = ps.length := by omega
        have hltI : ¬ (ps.length : Int) < (ps.length : Int) := by omega
        rw [List.take_length] at hSep
        have hSepr := hSep
        have hXr4 := hd (hXr.out.grown hG.out (fun e => by have : w.heap.size + 1 = w.heap.size + 1 + 1 := Option.some.inj e; omega))
        have y0 := hX.out.1 0 _ rfl; have y1 := hX.out.1 1 _ rfl; have y2 := hX.out.1 2 _ rfl; have y3 := hX.out.1 3 _ rfl; have y4 := hX.out.1 4 _ rfl
        have z0 := hXr4.out.1 0 _ rfl; have rz0 := hXr4.out.2.1 0; have z1 := hXr4.out.1 1 _ rfl; have rz1 := hXr4.out.2.1 1; have z2 := hXr4.out.1 2 _ rfl; have rz2 := hXr4.out.2.1 2; have z3 := hXr4.out.1 3 _ rfl; have rz3 := hXr4.out.2.1 3; have z4 := hXr4.out.1 4 _ rfl; have rz4 := hXr4.out.2.1 4
        obtain ⟨aS, cS, rfl, _⟩ := hO.out.sl
        go_wp2_with fail
        have hGf := grownBy_setCells (w.heap.size + 1) [.int .i64 0, .string ⟨#[]⟩, .int .i64 0, .bool hb0, .slice aS rws.length cS] wo 0
        have hrp := hd (hSepr.out.rep (B := w.heap.size + 3) (Nat.le_refl _))
        have hxs := hd (XSl.own hO.out (fun g hg => (hO.out.lt g hg).2))
        have hsm := hd (show Same wo (setCells wo (w.heap.size + 1) 0 [.int .i64 0, .string ⟨#[]⟩, .int .i64 0, .bool hb0, .slice aS rws.length cS]) (w.heap.size + 3) wo.heap.size from Same.grown hGf (Nat.le_refl _) (fun g hg => by cases hg; left; omega))
        have hfin := hd (hmk.out (setCells wo (w.heap.size + 1) 0 [.int .i64 0, .string ⟨#[]⟩, .int .i64 0, .bool hb0, .slice aS rws.length cS]) w.heap.size (.slice aS rws.length cS) rws (fun _ => (show RepXs HV 5 _ (w.heap.size + 3) _ _ _ from RepXs.mk _ _ hSepr.out.1 (fun j h1 h2 => by obtain ⟨lo, hi, q1, q2, _, q4⟩ := hSepr.out.2 j h1 h2; exact RepX.same (fun b g1 g2 o => hsm.out b (by omega) (by omega) o) (Nat.le_refl _) (Nat.le_refl _) _ _ (q4.wide q1 q2))) |> fun h => RepXs.mk _ _ hSepr.out.1 (fun j h1 h2 => ((RepXs.get _ _ h).2 j h1 h2).wide (by omega) (by have := hGf.size; exact this))) (fun h => absurd rfl h) (hxs.out.same hsm.out (by omega) hGf.size))
        have hbelow := hd (show Below w.heap.size w (setCells wo (w.heap.size + 1) 0 [.int .i64 0, .string ⟨#[]⟩, .int .i64 0, .bool hb0, .slice aS rws.length cS]) from by
          have h1 : Below w.heap.size w wo := hbd.out.grown hG.out (by omega) (fun g hg => by cases hg; omega)
          exact h1.grown hGf h1.size (fun g hg => by cases hg; omega))
        refine bodyPost_ret (v := .agg #[.int .i64 0, .string ⟨#[]⟩, .int .i64 0, .bool hb0, .slice aS rws.length cS]) (by simp [results, Try.results66, go_sem, z0, z1, z2, z3, z4]) rfl ⟨[.int .i64 0, .string ⟨#[]⟩, .int .i64 0, .bool hb0, .slice aS rws.length cS], rfl, hfin.out, hbelow.out⟩
  · have h5b : (o == 5) = false := by simpa using h5
    replace h5 := hd h5
    go_enter Try.func66, Try.ntmps66
    go_wp2_with fail
    refine (hch.out _).mono ?_
    rintro e w2 ⟨rfl, rfl⟩
    go_upto_region 2 with (fail)
    generalize ((w.alloc (.cells #[.int .i64 o, .string nm, .int .i64 no, .bool mu, .int .i64 mo, .slice a ps.length c] 74)).alloc (.cells #[.int .i64 0, .string ⟨#[]⟩, .int .i64 0, .bool false, .slice none 0 0] 93)).alloc (.cells #[.int .i64 0, .string ⟨#[]⟩, .int .i64 0, .bool hb0, .slice none 0 0] 93) = wo at *
    have x0 := hXt.out.1 0 _ rfl
    obtain ⟨rws, hrn⟩ : ∃ rws : List (List Value), rws = [] := ⟨_, rfl⟩
    obtain ⟨s, hs0⟩ : ∃ s : Value, s = .slice none 0 0 := ⟨_, rfl⟩
    have hO := hd (show Own wo (w.heap.size + 3) 93 5 s rws from by rw [hs0, hrn]; exact Own.nil)
    have hX := hd (show BoxN wo (w.heap.size + 1 + 1) [.int .i64 0, .string ⟨#[]⟩, .int .i64 0, .bool hb0, s] from by rw [hs0]; exact hXo.out)
    have hG := hd (grownBy_refl wo (some (w.heap.size + 1 + 1)))
    have hXr4 := hXr
    replace hrn := hd hrn
    clear hs0
    have y0 := hX.out.1 0 _ rfl; have y1 := hX.out.1 1 _ rfl; have y2 := hX.out.1 2 _ rfl; have y3 := hX.out.1 3 _ rfl; have y4 := hX.out.1 4 _ rfl
    have z0 := hXr4.out.1 0 _ rfl; have rz0 := hXr4.out.2.1 0; have z1 := hXr4.out.1 1 _ rfl; have rz1 := hXr4.out.2.1 1; have z2 := hXr4.out.1 2 _ rfl; have rz2 := hXr4.out.2.1 2; have z3 := hXr4.out.1 3 _ rfl; have rz3 := hXr4.out.2.1 3; have z4 := hXr4.out.1 4 _ rfl; have rz4 := hXr4.out.2.1 4
    obtain ⟨aS, cS, rfl, _⟩ := hO.out.sl
    go_wp2_with fail
    have hGf := grownBy_setCells (w.heap.size + 1) [.int .i64 0, .string ⟨#[]⟩, .int .i64 0, .bool hb0, .slice aS rws.length cS] wo 0
    have hxs := hd (XSl.own hO.out (fun g hg => (hO.out.lt g hg).2))
    have hsm := hd (show Same wo (setCells wo (w.heap.size + 1) 0 [.int .i64 0, .string ⟨#[]⟩, .int .i64 0, .bool hb0, .slice aS rws.length cS]) (w.heap.size + 3) wo.heap.size from Same.grown hGf (Nat.le_refl _) (fun g hg => by cases hg; left; omega))
    have hfin := hd (hmk.out (setCells wo (w.heap.size + 1) 0 [.int .i64 0, .string ⟨#[]⟩, .int .i64 0, .bool hb0, .slice aS rws.length cS]) w.heap.size (.slice aS rws.length cS) rws (fun h => absurd h h5.out) (fun _ => hrn.out) (hxs.out.same hsm.out (by omega) hGf.size))
    have hbelow := hd (show Below w.heap.size w (setCells wo (w.heap.size + 1) 0 [.int .i64 0, .string ⟨#[]⟩, .int .i64 0, .bool hb0, .slice aS rws.length cS]) from by
      have h1 : Below w.heap.size w wo := hbd.out.grown hG.out (by omega) (fun g hg => by cases hg; omega)
      exact h1.grown hGf h1.size (fun g hg => by cases hg; omega))
    refine bodyPost_ret (v := .agg #[.int .i64 0, .string ⟨#[]⟩, .int .i64 0, .bool hb0, .slice aS rws.length cS]) (by simp [results, Try.results66, go_sem, z0, z1, z2, z3, z4]) rfl ⟨[.int .i64 0, .string ⟨#[]⟩, .int .i64 0, .bool hb0, .slice aS rws.length cS], rfl, hfin.out, hbelow.out⟩
end Go.Proofs.Ytobahkjbadamhaa

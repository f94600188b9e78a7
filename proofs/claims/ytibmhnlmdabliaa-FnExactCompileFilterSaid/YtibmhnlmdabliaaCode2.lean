/- CompileFilter of the program and of the reference. -/
import Derived.Test.YtibmhnlmdabliaaCodeS
import Derived.IntWalk
namespace Go.Proofs.Ytibmhnlmdabliaa
open Go.RowKit
set_option linter.unusedVariables false
set_option maxRecDepth 100000
def codeL (l : List DWant) : List DInstr := comp l l.length (l.length - 1) [] ++ [iEnd]
def codeR (l : List DWant) : List DInstr := if goodFilter l then codeL l else []
theorem codeR_len (l : List DWant) : (codeR l).length ≤ 1000000 := by
  rw [codeR]
  split
  · rename_i h
    have := code_short h
    rw [codeL, List.length_append]; simp; omega
  · simp
theorem codeL_len {l : List DWant} (h : goodFilter l = true) : (codeL l).length ≤ 60 := by
  have := code_short h
  rw [codeL, List.length_append]; simp; omega
set_option maxHeartbeats 1600000 in
theorem CompileFilter_i (l : List DWant) (v : Value) (w : World) (hl : l.length ≤ 1000000000) (h : Sl w v 6 (l.map DWant.enc)) (b : Bool) (hb : goodFilter l = b) (r : List DInstr) (hr : codeR l = r) :
    Calls Try.prog 23 #[.agg #[v]] w (AggbPost 100 6 (r.map DInstr.enc) b w) := by
  have c1 := hd (fun v w h => GoodFilter_i l v w (by omega) h b hb)
  have hS := hd h
  cases b with
  | false =>
    have hrf := hd (show r = [] by rw [← hr, codeR, hb]; rfl)
    obtain ⟨a0, c0, rfl, _⟩ := h
    simp only [List.length_map] at hS ⊢
    clear hb hr
    go_enter Try.func23, Try.ntmps23
    go_wp2_with fail
    refine (c1.out _ _ (hS.out.mono (below_a2 _))).mono ?_
    rintro e w2 ⟨rfl, hb2⟩
    have hx2 := Box1.below (b := w.heap.size + 1) (v := .slice none 0 0) ⟨by go_simp, by go_simp⟩ hb2
    have Q1 := hx2.1; have Q2 := hx2.2
    have hB := hd ((below_a2 w).next hb2)
    clear hb2 hx2
    go_wp2_with fail
    refine bodyPost_ret (v := .tuple #[.agg #[.slice none 0 0], .bool false]) (by simp [results, Try.results23, go_sem, Q1]) rfl ⟨_, none, rfl, by rw [hrf.out]; exact OwnR.nil, ?_⟩
    exact hB.out.setCell (by simp) _
  | true =>
    obtain ⟨hn1, hn2⟩ := good_len hb
    have hok := hd (good_all hb)
    have hrt := hd (show r = codeL l by rw [← hr, codeR, hb]; rfl)
    have hsh := codeL_len hb
    have hcl : codeL l = comp l l.length (l.length - 1) [] ++ [iEnd] := rfl
    rcases h.open with ⟨a1, k1, rfl, hrr⟩ | ⟨b1, o1, c0, rfl, hrr, C1⟩
    · exfalso; have : l = [] := by simpa using hrr
      subst this; simp at hn1
    have hp20 : 2 ^ (l.length + 1) ≤ 2 ^ 21 := Nat.pow_le_pow_right (by omega) (by omega)
    have cc := hd (fun w2 (hb2 : Below (w.heap.size + 2) ((w.alloc (.cells #[.slice (some ⟨b1, o1, none⟩) l.length c0] 28)).alloc (.cells #[.slice none 0 0] 37)) w2) => compile_i l w.heap.size b1 o1 c0 (w.heap.size + 2) hok.out hn2 l.length (l.length - 1) [] (.slice none 0 0) w2 (by omega) hn2 (by omega) (by simp; omega) (by omega) (by have := C1.1; omega) (by have := hb2.size; simp at this; omega)
      (by rw [hb2.cell (by simp)]; go_simp) (by have hbb : Below w.heap.size w w2 := (below_a2 w).trans (hb2.mono (by omega)); exact C1.mono hbb) Own.nil)
    have hidx : (((l.length - 1 : Nat)) : Int) = (l.length : Int) - 1 := by omega
    rw [hidx] at cc
    have hw1 : IntKind.i64.wrap ((l.length : Int) - 1) = (l.length : Int) - 1 := IntWalk.i64_in _ (by omega)
    have hn1I : (1 : Int) ≤ l.length := by omega
    obtain ⟨i0, hi, hz0, hz1, hz2⟩ := info_parts infoInstr
    have Hi := hd hi; have Hz0 := hd hz0; have Hz1 := hd hz1; have Hz2 := hd hz2
    clear hi hz0 hz1 hz2
    have hone := hd (DInstr.enc_one [iEnd])
    have hrows := hd (show (comp l l.length (l.length - 1) []).map DInstr.enc ++ [iEnd.enc] = (codeL l).map DInstr.enc by rw [hcl, map_snoc])
    have hcl2 : (codeL l).length = (comp l l.length (l.length - 1) []).length + 1 := by rw [hcl, List.length_append]; rfl
    generalize codeL l = R at *
    generalize comp l l.length (l.length - 1) [] = R0 at *
    clear hb hr hcl hidx hrr h
    simp only [List.length_map] at hS ⊢
    replace hcl2 := hd hcl2
    go_enter Try.func23, Try.ntmps23
    go_wp2_with fail
    refine (c1.out _ _ (hS.out.mono (below_a2 _))).mono ?_
    rintro e w2 ⟨rfl, hb2⟩
    have q0 := keepCell hb2 (show World.cell? _ ⟨w.heap.size, 0, none⟩ = some (.slice (some ⟨b1, o1, none⟩) l.length c0) by go_simp)
    have hx2 := hd (Box1.below (b := w.heap.size + 1) (v := .slice none 0 0) ⟨by go_simp, by go_simp⟩ hb2)
    have hB := hd ((below_a2 w).next hb2)
    have hz2 : w.heap.size + 2 ≤ w2.heap.size := by have := hb2.size; simp at this; omega
    have cc2 := hd (cc.out w2 (hb2.mono (by simp)))
    clear hb2
    go_wp2_with fail
    refine cc2.out.mono ?_
    rintro e w3 ⟨v3, rfl, ho3, hG3⟩
    have hB3 := hd (hG3.below (B := w.heap.size + 2) (by omega) (by intro g hg; cases hg))
    have hz3 := hG3.1.size
    have hx3 := hd (show Box1 w3 (w.heap.size + 1) (.slice none 0 0) from ⟨by rw [hB3.out.cell (by simp)]; exact hx2.out.1, by rw [hB3.out.frozen (by simp)]; exact hx2.out.2⟩)
    have hBB := hd (show Below w.heap.size w w3 from hB.out.trans (hB3.out.mono (by omega)))
    replace ho3 := hd ho3
    clear hG3
    go_upto_region 4 with (at_builtin; refine wpList_appOwn rfl (.tmp 13) (.tmp 15) 35 rfl (w.heap.size + 2) 100 i0 _ 6 56 Try.underlying35 Hi.out Hz0.out Hz1.out Hz2.out rfl (by decide) _ (R0.map DInstr.enc) [iEnd.enc] rfl (ho3.out.below (below_a1 _)) _ 1 1 rfl rfl (one_row rfl) (cells_new _ _ _) hone.out (by rw [List.length_map]; have := hcl2.out; omega) (by decide) (by first | omega | exact Nat.le_refl _ | (simp; done) | (simp; omega)) ?_; intro v4 w4 ho4 hg4 hv4; have hx4 := hd ((hx3.out.below (below_a1 _)).grown hg4 (by intro e; have := (ho3.out.lt _ e.symm).1; omega)); have hB4 := hd ((hBB.out.next (below_a1 _)).grown hg4 (by simp; omega) (by intro g hg; have := (ho3.out.lt g hg).1; omega)); rw [hrows.out] at ho4; obtain ⟨a4, c4, rfl, _⟩ := ho4.sl; rw [List.length_map] at ho4 ⊢; have Q1 := hx4.out.1; have Q2 := hx4.out.2; replace ho4 := hd ho4; clear hg4 hv4)
    have hle : ¬ (60 : Int) < (R.length : Int) := by omega
    go_wp2_with fail
    refine bodyPost_ret (v := .tuple #[.agg #[.slice a4 R.length c4], .bool true]) (by simp [results, Try.results23, go_sem, Q1]) rfl ⟨.slice a4 R.length c4, (Value.slice a4 R.length c4).ownBlock, rfl, ?_, ?_⟩
    · rw [hrt.out]; exact (((ho4.out.weaken (by omega)).kept (grownBy_setCell _ _ _) (own_ne (B := w.heap.size + 1) (fun k hk => by have := (ho4.out.lt k hk).1; omega) (Nat.le_refl _))).r)
    · exact hB4.out.setCell (by simp) _
set_option maxHeartbeats 1600000 in
theorem CompileFilter_s (l : List DWant) (v : Value) (w : World) (hl : l.length ≤ 1000000000) (h : Sl w v 6 (l.map DWant.enc)) (b : Bool) (hb : goodFilter l = b) (r : List DInstr) (hr : codeR l = r) :
    Calls Try.prog 22 #[.agg #[v]] w (AggbPost 100 6 (r.map DInstr.enc) b w) := by
  have c1 := hd (fun v w h => GoodFilter_s l v w (by omega) h b hb)
  have hS := hd h
  cases b with
  | false =>
    have hrf := hd (show r = [] by rw [← hr, codeR, hb]; rfl)
    obtain ⟨a0, c0, rfl, _⟩ := h
    simp only [List.length_map] at hS ⊢
    clear hb hr
    go_enter Try.func22, Try.ntmps22
    go_wp2_with fail
    refine (c1.out _ _ (hS.out.mono (below_a2 _))).mono ?_
    rintro e w2 ⟨rfl, hb2⟩
    have hx2 := Box1.below (b := w.heap.size + 1) (v := .slice none 0 0) ⟨by go_simp, by go_simp⟩ hb2
    have Q1 := hx2.1; have Q2 := hx2.2
    have hB := hd ((below_a2 w).next hb2)
    clear hb2 hx2
    go_wp2_with fail
    refine bodyPost_ret (v := .tuple #[.agg #[.slice none 0 0], .bool false]) (by simp [results, Try.results22, go_sem, Q1]) rfl ⟨_, none, rfl, by rw [hrf.out]; exact OwnR.nil, ?_⟩
    exact hB.out.setCell (by simp) _
  | true =>
    obtain ⟨hn1, hn2⟩ := good_len hb
    have hok := hd (good_all hb)
    have hrt := hd (show r = codeL l by rw [← hr, codeR, hb]; rfl)
    have hsh := codeL_len hb
    have hcl : codeL l = comp l l.length (l.length - 1) [] ++ [iEnd] := rfl
    rcases h.open with ⟨a1, k1, rfl, hrr⟩ | ⟨b1, o1, c0, rfl, hrr, C1⟩
    · exfalso; have : l = [] := by simpa using hrr
      subst this; simp at hn1
    have hp20 : 2 ^ (l.length + 1) ≤ 2 ^ 21 := Nat.pow_le_pow_right (by omega) (by omega)
    have cc := hd (fun w2 (hb2 : Below (w.heap.size + 2) ((w.alloc (.cells #[.slice (some ⟨b1, o1, none⟩) l.length c0] 28)).alloc (.cells #[.slice none 0 0] 37)) w2) => compile_s l b1 o1 c0 (w.heap.size + 2) hok.out hn2 l.length (l.length - 1) [] (.slice none 0 0) w2 (by omega) hn2 (by omega) (by simp; omega) (by have := C1.1; omega) (by have := hb2.size; simp at this; omega)
      (by have hbb : Below w.heap.size w w2 := (below_a2 w).trans (hb2.mono (by omega)); exact C1.mono hbb) Own.nil)
    have hidx : (((l.length - 1 : Nat)) : Int) = (l.length : Int) - 1 := by omega
    rw [hidx] at cc
    have hw1 : IntKind.i64.wrap ((l.length : Int) - 1) = (l.length : Int) - 1 := IntWalk.i64_in _ (by omega)
    have hn1I : (1 : Int) ≤ l.length := by omega
    obtain ⟨i0, hi, hz0, hz1, hz2⟩ := info_parts infoInstr
    have Hi := hd hi; have Hz0 := hd hz0; have Hz1 := hd hz1; have Hz2 := hd hz2
    clear hi hz0 hz1 hz2
    have hone := hd (DInstr.enc_one [iEnd])
    have hrows := hd (show (comp l l.length (l.length - 1) []).map DInstr.enc ++ [iEnd.enc] = (codeL l).map DInstr.enc by rw [hcl, map_snoc])
    have hcl2 : (codeL l).length = (comp l l.length (l.length - 1) []).length + 1 := by rw [hcl, List.length_append]; rfl
    generalize codeL l = R at *
    generalize comp l l.length (l.length - 1) [] = R0 at *
    clear hb hr hcl hidx hrr h
    simp only [List.length_map] at hS ⊢
    replace hcl2 := hd hcl2
    go_enter Try.func22, Try.ntmps22
    go_wp2_with fail
    refine (c1.out _ _ (hS.out.mono (below_a2 _))).mono ?_
    rintro e w2 ⟨rfl, hb2⟩
    have q0 := keepCell hb2 (show World.cell? _ ⟨w.heap.size, 0, none⟩ = some (.slice (some ⟨b1, o1, none⟩) l.length c0) by go_simp)
    have hx2 := hd (Box1.below (b := w.heap.size + 1) (v := .slice none 0 0) ⟨by go_simp, by go_simp⟩ hb2)
    have hB := hd ((below_a2 w).next hb2)
    have hz2 : w.heap.size + 2 ≤ w2.heap.size := by have := hb2.size; simp at this; omega
    have cc2 := hd (cc.out w2 (hb2.mono (by simp)))
    clear hb2
    go_wp2_with fail
    refine cc2.out.mono ?_
    rintro e w3 ⟨v3, rfl, ho3, hG3⟩
    have hB3 := hd (hG3.below (B := w.heap.size + 2) (by omega) (by intro g hg; cases hg))
    have hz3 := hG3.1.size
    have hx3 := hd (show Box1 w3 (w.heap.size + 1) (.slice none 0 0) from ⟨by rw [hB3.out.cell (by simp)]; exact hx2.out.1, by rw [hB3.out.frozen (by simp)]; exact hx2.out.2⟩)
    have hBB := hd (show Below w.heap.size w w3 from hB.out.trans (hB3.out.mono (by omega)))
    replace ho3 := hd ho3
    clear hG3
    go_wp2_with (at_builtin; refine wpList_appOwn rfl (.tmp 13) (.tmp 15) 35 rfl (w.heap.size + 2) 100 i0 _ 6 56 Try.underlying35 Hi.out Hz0.out Hz1.out Hz2.out rfl (by decide) _ (R0.map DInstr.enc) [iEnd.enc] rfl (ho3.out.below (below_a1 _)) _ 1 1 rfl rfl (one_row rfl) (cells_new _ _ _) hone.out (by rw [List.length_map]; have := hcl2.out; omega) (by decide) (by first | omega | exact Nat.le_refl _ | (simp; done) | (simp; omega)) ?_; intro v4 w4 ho4 hg4 hv4; have hx4 := hd ((hx3.out.below (below_a1 _)).grown hg4 (by intro e; have := (ho3.out.lt _ e.symm).1; omega)); have hB4 := hd ((hBB.out.next (below_a1 _)).grown hg4 (by simp; omega) (by intro g hg; have := (ho3.out.lt g hg).1; omega)); rw [hrows.out] at ho4; obtain ⟨a4, c4, rfl, _⟩ := ho4.sl; rw [List.length_map] at ho4 ⊢; have Q1 := hx4.out.1; have Q2 := hx4.out.2; replace ho4 := hd ho4; clear hg4 hv4)
    refine bodyPost_ret (v := .tuple #[.agg #[.slice a4 R.length c4], .bool true]) (by simp [results, Try.results22, go_sem, Q1]) rfl ⟨.slice a4 R.length c4, (Value.slice a4 R.length c4).ownBlock, rfl, ?_, ?_⟩
    · rw [hrt.out]; exact (((ho4.out.weaken (by omega)).kept (grownBy_setCell _ _ _) (own_ne (B := w.heap.size + 1) (fun k hk => by have := (ho4.out.lt k hk).1; omega) (Nat.le_refl _))).r)
    · exact hB4.out.setCell (by simp) _
end Go.Proofs.Ytibmhnlmdabliaa

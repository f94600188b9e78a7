/- The code of a filter: of the reference. -/
import Derived.Test.YtibmhnlmdabliaaCode
namespace Go.Proofs.Ytibmhnlmdabliaa
open Go.RowKit
set_option linter.unusedVariables false
set_option maxRecDepth 100000
set_option maxHeartbeats 6400000 in
theorem compile_s (l : List DWant) (b1 o1 c B : Nat) (hok : okAll l) (hl : l.length ≤ 20) :
    ∀ (n k : Nat) (out : List DInstr) (v : Value) (w : World), k < n → n ≤ 20 → k < l.length → out.length + 2 ^ (n + 1) ≤ 10000000 → b1 < B → B ≤ w.heap.size → Cells w b1 o1 6 (l.map DWant.enc) → Own w B 100 6 v (out.map DInstr.enc) →
      Calls Try.prog 71 #[.agg #[.slice (some ⟨b1, o1, none⟩) l.length c], .int .i64 k, v] w (GrPost B 100 6 ((comp l n k out).map DInstr.enc) v w) := by
  have hok := hd hok
  intro n
  induction n with
  | zero => intro k out v w h; omega
  | succ n ih =>
    intro k out v w hkn hn hk hsz hb1 hB C hO
    have ih := hd ih
    have hC := hd C
    have hO' := hd hO
    have hkI : (k : Int) < (l.length : Int) := by omega
    have hwc := hd (want_cases (hok.out k hk))
    have hrec := comp_at (n := n) hk out
    have hp2 : 2 ^ (n + 1 + 1) = 2 * 2 ^ (n + 1) := by rw [Nat.pow_succ]; omega
    have hp1 : 2 ≤ 2 ^ (n + 1) := by have := Nat.one_le_two_pow (n := n); rw [Nat.pow_succ]; omega
    have hbd := hd (comp_bound l n)
    obtain ⟨i0, hi, hz0, hz1, hz2⟩ := info_parts infoInstr
    have Hi := hd hi; have Hz0 := hd hz0; have Hz1 := hd hz1; have Hz2 := hd hz2
    clear hi hz0 hz1 hz2
    have hbF := hd (below_a1 w (a := (.cells #[.slice (some ⟨b1, o1, none⟩) l.length c] 28)))
    have hxF := hd (show BoxN (w.alloc (.cells #[.slice (some ⟨b1, o1, none⟩) l.length c] 28)) w.heap.size [.slice (some ⟨b1, o1, none⟩) l.length c] from BoxN.new w [.slice (some ⟨b1, o1, none⟩) l.length c] _)
    have hsF : (w.alloc (.cells #[.slice (some ⟨b1, o1, none⟩) l.length c] 28)).heap.size = w.heap.size + 1 := by simp
    obtain ⟨w0, hw0⟩ : ∃ w0, w0 = w := ⟨_, rfl⟩
    obtain ⟨V, hV⟩ : ∃ V, V = w.alloc (.cells #[.slice (some ⟨b1, o1, none⟩) l.length c] 28) := ⟨_, rfl⟩
    have hbF' : Below w.heap.size w V := by rw [hV]; exact hbF.out
    have pf := (show BoxN V w.heap.size _ from by rw [hV]; exact hxF.out).1 0 _ rfl
    have hsV : V.heap.size = w.heap.size + 1 := by rw [hV]; exact hsF
    obtain ⟨f0, f1, f2, f3, f4, f5⟩ := Cells.rowWant l k hk (hC.out.mono hbF')
    clear hbF hxF hsF hw0 hO
    replace hV := hd hV
    replace hbF := hd hbF'
    clear hbF'
    generalize l[k] = x at *
    generalize hR : comp l (n + 1) k out = R at *
    have hcs : x.kind = 6 ∨ x.kind = 7 ∨ x.kind = 8 ∨ x.kind < 6 := by rcases hwc.out with h | h | h | h <;> omega
    have hx4 := hd (show BoxN (V.alloc (.cells #[.int .i64 x.kind, .int .i64 x.no, .int .i64 x.num, .string x.text, .int .i64 x.a, .int .i64 x.b] 91)) V.heap.size x.enc from BoxN.new V x.enc _)
    have hb4 := hd (hbF.out.next (below_a1 V (a := (.cells #[.int .i64 x.kind, .int .i64 x.no, .int .i64 x.num, .string x.text, .int .i64 x.a, .int .i64 x.b] 91))))
    have pf' := keepCell (below_a1 V (a := (.cells #[.int .i64 x.kind, .int .i64 x.no, .int .i64 x.num, .string x.text, .int .i64 x.a, .int .i64 x.b] 91))) pf
    have hsW : (V.alloc (.cells #[.int .i64 x.kind, .int .i64 x.no, .int .i64 x.num, .string x.text, .int .i64 x.a, .int .i64 x.b] 91)).heap.size = w.heap.size + 2 := by simp; omega
    rw [hsV] at hx4
    replace hrec := hd hrec
    replace hR := hd hR
    go_enter Try.func71, Try.ntmps71
    go_upto_region 1 with (fail)
    rw [← hV.out]
    clear hV
    go_upto_region 2 with (fail)
    have p0 := hx4.out.1 0 _ rfl; have p1 := hx4.out.1 1 _ rfl; have p2 := hx4.out.1 2 _ rfl; have p3 := hx4.out.1 3 _ rfl; have p4 := hx4.out.1 4 _ rfl; have p5 := hx4.out.1 5 _ rfl
    generalize V.alloc (.cells #[.int .i64 x.kind, .int .i64 x.no, .int .i64 x.num, .string x.text, .int .i64 x.a, .int .i64 x.b] 91) = W at *
    clear f0 f1 f2 f3 f4 f5 pf C hR
    have hnoF := hd (hO'.out.no (b := w.heap.size) (.inr (Nat.le_refl _)))
    have hno := hd (hO'.out.no (b := w.heap.size + 1) (.inr (by omega)))
    have hOW := hd (hO'.out.below hb4.out)
    have hBW : B ≤ W.heap.size := by omega
    have hCW := hd (hC.out.mono hb4.out)
    have hG0 := hd (Gr.of_below (v := v) hb4.out)
    clear hO' hC
    rcases hcs with hc | hc | hc | hc
    · obtain ⟨ha0, hab, hbk2⟩ : 0 ≤ x.a ∧ x.a < x.b ∧ x.b < (k : Int) := by rcases hwc.out with h | h | h | h <;> omega
      obtain ⟨ma, hma⟩ := Int.eq_ofNat_of_zero_le ha0
      obtain ⟨mb, hmb⟩ := Int.eq_ofNat_of_zero_le (show 0 ≤ x.b by omega)
      have g8 : (x.kind == 8) = false := by simp; omega
      have g6 : (x.kind == 6) = true := by simp; exact hc
      have g7 : (x.kind == 7) = false := by simp; omega
      have hz := hrec.out
      rw [if_neg (by omega), if_pos (by omega), hma, hmb, hc] at hz
      simp only [Int.toNat_natCast] at hz
      change _ = (comp l n mb (comp l n ma out ++ [iJump 0 0])).set (comp l n ma out).length (iJump 0 ((comp l n mb (comp l n ma out ++ [iJump 0 0])).length : Int)) at hz
      replace hz := hd hz
      rw [hma] at p4
      rw [hmb] at p5
      have b1' := hbd.out ma out
      have b2' := hbd.out mb (comp l n ma out ++ [iJump 0 0])
      rw [List.length_append, List.length_singleton] at b2'
      have b3' := comp_ge l n mb (comp l n ma out ++ [iJump 0 0])
      rw [List.length_append, List.length_singleton] at b3'
      have hat := hd (show (comp l n mb (comp l n ma out ++ [iJump 0 0]))[(comp l n ma out).length]? = some (iJump 0 0) from by rw [comp_pre _ _ _ _ _ (by rw [List.length_append, List.length_singleton]; omega)]; simp)
      have ca := hd (ih.out ma out v W (by omega) (by omega) (by omega) (by omega) hb1 hBW hCW.out hOW.out)
      have cb := hd (fun v w hB q2 => ih.out mb (comp l n ma out ++ [iJump 0 0]) v w (by omega) (by omega) (by omega) (by rw [List.length_append, List.length_singleton]; omega) hb1 hB q2)
      generalize hR2 : comp l n mb (comp l n ma out ++ [iJump 0 0]) = R2 at *
      generalize comp l n ma out = R1 at *
      have hwr : RowKit.wrap64 (x.kind - 6) = 0 := by rw [hc]; unfold RowKit.wrap64; omega
      clear hR2 hmb hma hc hab ha0 hbk2
      go_wp2_with fail
      refine ca.out.mono ?_
      rintro e w5 ⟨v5, rfl, ho5, hG5⟩
      replace hG5 := hd hG5
      replace p0 := hG5.out.kept p0 hno.out
      replace p1 := hG5.out.kept p1 hno.out
      replace p2 := hG5.out.kept p2 hno.out
      replace p3 := hG5.out.kept p3 hno.out
      replace p4 := hG5.out.kept p4 hno.out
      replace p5 := hG5.out.kept p5 hno.out
      replace pf' := hG5.out.kept pf' hnoF.out
      have hno5 := hd (hG5.out.ne (by omega) hno.out)
      have hnoF5 := hd (hG5.out.ne (by omega) hnoF.out)
      have hz5 := hG5.out.1.size
      have hC5 := hd (hCW.out.kept hG5.out.1 (fun e => hOW.out.no (.inl hb1) e.symm))
      have hGa := hd (hG0.out.trans hG5.out)
      obtain ⟨a5, c5, rfl, _⟩ := ho5.sl
      simp only [List.length_map] at ho5 hno5 hnoF5 hGa ⊢
      replace ho5 := hd ho5
      go_wp2_with (at_builtin; refine wpList_appOwn rfl (.tmp 36) (.tmp 41) 35 rfl B 100 i0 _ 6 56 Try.underlying35 Hi.out Hz0.out Hz1.out Hz2.out rfl (by decide) _ ((R1).map DInstr.enc) [(iJump 0 0).enc] rfl (ho5.out.below (below_a1 _)) _ 1 1 rfl rfl (one_row rfl) (cells_new _ _ _) (DInstr.enc_one [(iJump 0 0)]) (by simp only [List.length_map]; omega) (by decide) (by first | omega | exact Nat.le_refl _ | (simp; done) | (simp; omega)) ?_; intro v6 w6 ho6 hg6 hv6; have hG6 := hd ((Gr.of_below (v := Value.slice a5 R1.length c5) (below_a1 w5)).trans (Gr.app hg6 hv6)); have hz6 := hG6.out.1.size; have p06 := hG6.out.kept p0 hno5.out; have p16 := hG6.out.kept p1 hno5.out; have p26 := hG6.out.kept p2 hno5.out; have p36 := hG6.out.kept p3 hno5.out; have p46 := hG6.out.kept p4 hno5.out; have p56 := hG6.out.kept p5 hno5.out; have pf6 := hG6.out.kept pf' hnoF5.out; have hno6 := hd (hG6.out.ne (by omega) hno5.out); have hnoF6 := hd (hG6.out.ne (by omega) hnoF5.out); have hC6 := hd (hC5.out.kept hG6.out.1 (fun e => ho5.out.no (.inl hb1) e.symm)); have hGb := hd (hGa.out.trans hG6.out); rw [map_snoc] at ho6; obtain ⟨g6, c6, rfl, hBg6, hgz6⟩ := ho6.addr (ne_nil (enc_at (i := R1.length) (x := iJump 0 0) (by simp))); simp only [List.length_map, List.length_append, List.length_singleton] at ho6 ⊢; replace ho6 := hd ho6; clear hg6 hv6 p0 p1 p2 p3 p4 p5 pf')
      refine (cb.out _ w6 (by omega) hC6.out ho6.out).mono ?_
      rintro e w8 ⟨v8, rfl, ho8, hG8⟩
      have hz8 := hG8.1.size
      have hGd := hd (hGb.out.trans hG8)
      clear hG8
      obtain ⟨g8', c8, rfl, hBg8, hgz8⟩ := ho8.addr (ne_nil (enc_at hat.out))
      simp only [List.length_map] at ho8 ⊢
      obtain ⟨hk1, hk2⟩ := ho8.cell (i := R1.length) (j := 5) (r := (iJump 0 0).enc) (u := .int .i64 0) (enc_at hat.out) rfl
      obtain ⟨hst1, hst2⟩ := ho8.store (i := R1.length) (j := 5) (r := (iJump 0 0).enc) (enc_at hat.out) (by decide) (.int .i64 (R2.length : Int))
      rw [set_to] at hst1
      have hG9 := hd (show Gr w8 (.slice (some ⟨g8', 0, none⟩) R2.length c8) (w8.setCell ⟨g8', R1.length * 6 + 5, none⟩ (.int .i64 (R2.length : Int))) (.slice (some ⟨g8', 0, none⟩) R2.length c8) from ⟨hst2, .inl rfl⟩)
      have hidx2 : (R1.length : Int) < (R2.length : Int) := by omega
      replace hst1 := hd hst1
      replace ho8 := hd ho8
      clear hst2
      go_wp2_with fail
      go_ret
      exact ⟨_, rfl, by rw [hz.out]; exact hst1.out, hGd.out.trans hG9.out⟩
    · obtain ⟨ha0, hab, hbk2⟩ : 0 ≤ x.a ∧ x.a < x.b ∧ x.b < (k : Int) := by rcases hwc.out with h | h | h | h <;> omega
      obtain ⟨ma, hma⟩ := Int.eq_ofNat_of_zero_le ha0
      obtain ⟨mb, hmb⟩ := Int.eq_ofNat_of_zero_le (show 0 ≤ x.b by omega)
      have g8 : (x.kind == 8) = false := by simp; omega
      have g6 : (x.kind == 6) = false := by simp; omega
      have g7 : (x.kind == 7) = true := by simp; exact hc
      have hz := hrec.out
      rw [if_neg (by omega), if_pos (by omega), hma, hmb, hc] at hz
      simp only [Int.toNat_natCast] at hz
      change _ = (comp l n mb (comp l n ma out ++ [iJump 1 0])).set (comp l n ma out).length (iJump 1 ((comp l n mb (comp l n ma out ++ [iJump 1 0])).length : Int)) at hz
      replace hz := hd hz
      rw [hma] at p4
      rw [hmb] at p5
      have b1' := hbd.out ma out
      have b2' := hbd.out mb (comp l n ma out ++ [iJump 1 0])
      rw [List.length_append, List.length_singleton] at b2'
      have b3' := comp_ge l n mb (comp l n ma out ++ [iJump 1 0])
      rw [List.length_append, List.length_singleton] at b3'
      have hat := hd (show (comp l n mb (comp l n ma out ++ [iJump 1 0]))[(comp l n ma out).length]? = some (iJump 1 0) from by rw [comp_pre _ _ _ _ _ (by rw [List.length_append, List.length_singleton]; omega)]; simp)
      have ca := hd (ih.out ma out v W (by omega) (by omega) (by omega) (by omega) hb1 hBW hCW.out hOW.out)
      have cb := hd (fun v w hB q2 => ih.out mb (comp l n ma out ++ [iJump 1 0]) v w (by omega) (by omega) (by omega) (by rw [List.length_append, List.length_singleton]; omega) hb1 hB q2)
      generalize hR2 : comp l n mb (comp l n ma out ++ [iJump 1 0]) = R2 at *
      generalize comp l n ma out = R1 at *
      have hwr : RowKit.wrap64 (x.kind - 6) = 1 := by rw [hc]; unfold RowKit.wrap64; omega
      clear hR2 hmb hma hc hab ha0 hbk2
      go_wp2_with fail
      refine ca.out.mono ?_
      rintro e w5 ⟨v5, rfl, ho5, hG5⟩
      replace hG5 := hd hG5
      replace p0 := hG5.out.kept p0 hno.out
      replace p1 := hG5.out.kept p1 hno.out
      replace p2 := hG5.out.kept p2 hno.out
      replace p3 := hG5.out.kept p3 hno.out
      replace p4 := hG5.out.kept p4 hno.out
      replace p5 := hG5.out.kept p5 hno.out
      replace pf' := hG5.out.kept pf' hnoF.out
      have hno5 := hd (hG5.out.ne (by omega) hno.out)
      have hnoF5 := hd (hG5.out.ne (by omega) hnoF.out)
      have hz5 := hG5.out.1.size
      have hC5 := hd (hCW.out.kept hG5.out.1 (fun e => hOW.out.no (.inl hb1) e.symm))
      have hGa := hd (hG0.out.trans hG5.out)
      obtain ⟨a5, c5, rfl, _⟩ := ho5.sl
      simp only [List.length_map] at ho5 hno5 hnoF5 hGa ⊢
      replace ho5 := hd ho5
      go_wp2_with (at_builtin; refine wpList_appOwn rfl (.tmp 36) (.tmp 41) 35 rfl B 100 i0 _ 6 56 Try.underlying35 Hi.out Hz0.out Hz1.out Hz2.out rfl (by decide) _ ((R1).map DInstr.enc) [(iJump 1 0).enc] rfl (ho5.out.below (below_a1 _)) _ 1 1 rfl rfl (one_row rfl) (cells_new _ _ _) (DInstr.enc_one [(iJump 1 0)]) (by simp only [List.length_map]; omega) (by decide) (by first | omega | exact Nat.le_refl _ | (simp; done) | (simp; omega)) ?_; intro v6 w6 ho6 hg6 hv6; have hG6 := hd ((Gr.of_below (v := Value.slice a5 R1.length c5) (below_a1 w5)).trans (Gr.app hg6 hv6)); have hz6 := hG6.out.1.size; have p06 := hG6.out.kept p0 hno5.out; have p16 := hG6.out.kept p1 hno5.out; have p26 := hG6.out.kept p2 hno5.out; have p36 := hG6.out.kept p3 hno5.out; have p46 := hG6.out.kept p4 hno5.out; have p56 := hG6.out.kept p5 hno5.out; have pf6 := hG6.out.kept pf' hnoF5.out; have hno6 := hd (hG6.out.ne (by omega) hno5.out); have hnoF6 := hd (hG6.out.ne (by omega) hnoF5.out); have hC6 := hd (hC5.out.kept hG6.out.1 (fun e => ho5.out.no (.inl hb1) e.symm)); have hGb := hd (hGa.out.trans hG6.out); rw [map_snoc] at ho6; obtain ⟨g6, c6, rfl, hBg6, hgz6⟩ := ho6.addr (ne_nil (enc_at (i := R1.length) (x := iJump 1 0) (by simp))); simp only [List.length_map, List.length_append, List.length_singleton] at ho6 ⊢; replace ho6 := hd ho6; clear hg6 hv6 p0 p1 p2 p3 p4 p5 pf')
      refine (cb.out _ w6 (by omega) hC6.out ho6.out).mono ?_
      rintro e w8 ⟨v8, rfl, ho8, hG8⟩
      have hz8 := hG8.1.size
      have hGd := hd (hGb.out.trans hG8)
      clear hG8
      obtain ⟨g8', c8, rfl, hBg8, hgz8⟩ := ho8.addr (ne_nil (enc_at hat.out))
      simp only [List.length_map] at ho8 ⊢
      obtain ⟨hk1, hk2⟩ := ho8.cell (i := R1.length) (j := 5) (r := (iJump 1 0).enc) (u := .int .i64 0) (enc_at hat.out) rfl
      obtain ⟨hst1, hst2⟩ := ho8.store (i := R1.length) (j := 5) (r := (iJump 1 0).enc) (enc_at hat.out) (by decide) (.int .i64 (R2.length : Int))
      rw [set_to] at hst1
      have hG9 := hd (show Gr w8 (.slice (some ⟨g8', 0, none⟩) R2.length c8) (w8.setCell ⟨g8', R1.length * 6 + 5, none⟩ (.int .i64 (R2.length : Int))) (.slice (some ⟨g8', 0, none⟩) R2.length c8) from ⟨hst2, .inl rfl⟩)
      have hidx2 : (R1.length : Int) < (R2.length : Int) := by omega
      replace hst1 := hd hst1
      replace ho8 := hd ho8
      clear hst2
      go_wp2_with fail
      go_ret
      exact ⟨_, rfl, by rw [hz.out]; exact hst1.out, hGd.out.trans hG9.out⟩
    · obtain ⟨ha0, hab⟩ : 0 ≤ x.a ∧ x.a < (k : Int) := by rcases hwc.out with h | h | h | h <;> omega
      obtain ⟨ma, hma⟩ := Int.eq_ofNat_of_zero_le ha0
      have g8 : (x.kind == 8) = true := by simpa using hc
      have hz := hrec.out
      rw [if_pos hc, hma] at hz
      simp only [Int.toNat_natCast] at hz
      replace hz := hd hz
      rw [hma] at p4
      have b1' := hbd.out ma out
      have ca := hd (ih.out ma out v W (by omega) (by omega) (by omega) (by omega) hb1 hBW hCW.out hOW.out)
      generalize comp l n ma out = R1 at *
      clear hma hc hab ha0
      go_wp2_with fail
      refine ca.out.mono ?_
      rintro e w5 ⟨v5, rfl, ho5, hG5⟩
      have hz5 := hG5.1.size
      have hGa := hd (hG0.out.trans hG5)
      replace ho5 := hd ho5
      clear hG5
      go_wp2_with (at_builtin; refine wpList_appOwn rfl (.tmp 22) (.tmp 24) 35 rfl B 100 i0 _ 6 56 Try.underlying35 Hi.out Hz0.out Hz1.out Hz2.out rfl (by decide) _ ((R1).map DInstr.enc) [iFlip.enc] rfl (ho5.out.below (below_a1 _)) _ 1 1 rfl rfl (one_row rfl) (cells_new _ _ _) (DInstr.enc_one [iFlip]) (by simp only [List.length_map]; omega) (by decide) (by first | omega | exact Nat.le_refl _ | (simp; done) | (simp; omega)) ?_; intro v6 w6 ho6 hg6 hv6)
      go_ret
      exact ⟨_, rfl, by rw [hz.out, ← map_snoc]; exact ho6, hGa.out.trans ((Gr.of_below (v := v5) (below_a1 w5)).trans (Gr.app hg6 hv6))⟩
    · have g6 : (x.kind == 6) = false := by simp; omega
      have g7 : (x.kind == 7) = false := by simp; omega
      have g8 : (x.kind == 8) = false := by simp; omega
      have hz := hrec.out
      rw [if_neg (by omega), if_neg (by omega)] at hz
      replace hz := hd hz
      replace hsW := hd hsW
      clear hc
      go_wp2_with (first
        | (at_builtin; refine wpList_appOwn rfl (.tmp 55) (.tmp 59) 35 rfl B 100 i0 _ 6 56 Try.underlying35 Hi.out Hz0.out Hz1.out Hz2.out rfl (by decide) _ ((out).map DInstr.enc) [(iSeek x.no).enc] rfl (hOW.out.below (below_a1 _)) _ 1 1 rfl rfl (one_row rfl) (cells_new _ _ _) (DInstr.enc_one [(iSeek x.no)]) (by simp only [List.length_map]; omega) (by decide) (by first | omega | exact Nat.le_refl _ | (simp; done) | (simp; omega)) ?_; intro v6 w6 ho6 hg6 hv6; have hG6 := hd ((Gr.of_below (v := v) (below_a1 W)).trans (Gr.app hg6 hv6)); have hz6 := hG6.out.1.size; replace p0 := hG6.out.kept p0 hno.out; replace p1 := hG6.out.kept p1 hno.out; replace p2 := hG6.out.kept p2 hno.out; replace p3 := hG6.out.kept p3 hno.out; replace p4 := hG6.out.kept p4 hno.out; replace p5 := hG6.out.kept p5 hno.out; rw [map_snoc] at ho6; replace ho6 := hd ho6; clear hg6 hv6)
        | (at_builtin; refine wpList_appOwn rfl (.tmp 61) (.tmp 69) 35 rfl B 100 i0 _ 6 56 Try.underlying35 Hi.out Hz0.out Hz1.out Hz2.out rfl (by decide) _ ((out ++ [iSeek x.no]).map DInstr.enc) [(iTest x).enc] rfl (ho6.out.below (below_a1 _)) _ 1 1 rfl rfl (one_row rfl) (cells_new _ _ _) (DInstr.enc_one [(iTest x)]) (by simp only [List.length_map, List.length_append, List.length_singleton]; omega) (by decide) (by first | omega | exact Nat.le_refl _ | (simp; done) | (simp; omega)) ?_; intro v7 w7 ho7 hg7 hv7))
      go_ret
      exact ⟨_, rfl, by rw [hz.out, show out ++ [iSeek x.no, iTest x] = (out ++ [iSeek x.no]) ++ [iTest x] by simp, ← map_snoc]; exact ho7, hG0.out.trans (hG6.out.trans ((Gr.of_below (v := v6) (below_a1 w6)).trans (Gr.app hg7 hv7)))⟩
end Go.Proofs.Ytibmhnlmdabliaa

/- The code of a filter: compile of the program. -/
import Derived.Test.YtibmhnlmdabliaaCodeM
import Derived.Test.YtibmhnlmdabliaaGr
namespace Go.Proofs.Ytibmhnlmdabliaa
open Go.RowKit
set_option linter.unusedVariables false
set_option maxRecDepth 100000
theorem DInstr.enc_one (l : List DInstr) : ∀ u ∈ (l.map DInstr.enc).flatten, u.oneCell' = true := by
  intro u hu
  obtain ⟨r, hr, hu⟩ := List.mem_flatten.1 hu
  obtain ⟨x, _, rfl⟩ := List.mem_map.1 hr
  simp only [DInstr.enc, List.mem_cons, List.not_mem_nil, or_false] at hu
  rcases hu with rfl | rfl | rfl | rfl | rfl | rfl <;> rfl
theorem two_rows {r1 r2 : List Value} {sz : Nat} (h1 : r1.length = sz) (h2 : r2.length = sz) : ∀ x ∈ [r1, r2], x.length = sz := by
  intro x hx
  simp at hx
  rcases hx with rfl | rfl
  · exact h1
  · exact h2
theorem comp_pre (l : List DWant) : ∀ (n k : Nat) (out : List DInstr) (i : Nat), i < out.length → (comp l n k out)[i]? = out[i]? := by
  intro n
  induction n with
  | zero => intro k out i h; rfl
  | succ n ih =>
    intro k out i h
    cases hk : l[k]? with
    | none => simp only [comp, hk]
    | some x =>
      simp only [comp, hk]
      have hle : ∀ (k : Nat) (o : List DInstr), o.length ≤ (comp l n k o).length := by
        intro k o
        by_cases h0 : o.length = 0
        · omega
        · have := ih k o (o.length - 1) (by omega)
          rw [List.getElem?_eq_getElem (show o.length - 1 < o.length by omega)] at this
          have := (List.getElem?_eq_some_iff.1 this).1
          omega
      have h1 := hle x.a.toNat out
      split
      · rw [List.getElem?_append_left (by omega)]; exact ih _ _ _ h
      · split
        · rw [List.getElem?_set_ne (by omega), ih _ _ _ (by rw [List.length_append]; omega), List.getElem?_append_left (by omega)]; exact ih _ _ _ h
        · rw [List.getElem?_append_left (by omega)]
theorem comp_ge (l : List DWant) (n k : Nat) (o : List DInstr) : o.length ≤ (comp l n k o).length := by
  by_cases h0 : o.length = 0
  · omega
  · have := comp_pre l n k o (o.length - 1) (by omega)
    rw [List.getElem?_eq_getElem (show o.length - 1 < o.length by omega)] at this
    have := (List.getElem?_eq_some_iff.1 this).1
    omega
theorem map_snoc (l : List DInstr) (x : DInstr) : l.map DInstr.enc ++ [x.enc] = (l ++ [x]).map DInstr.enc := by rw [List.map_append]; rfl
theorem map_snoc2 (l : List DInstr) (x y : DInstr) : l.map DInstr.enc ++ [x.enc, y.enc] = (l ++ [x, y]).map DInstr.enc := by rw [List.map_append]; rfl
theorem set_num (l : List DInstr) : ((l ++ [iJump 0 0]).map DInstr.enc).set l.length ((iJump 0 0).enc.set 3 (.int .i64 1)) = (l ++ [iJump 1 0]).map DInstr.enc := by
  rw [List.map_append, List.set_append_right _ _ (by rw [List.length_map]; exact Nat.le_refl _), List.length_map, Nat.sub_self, List.map_append]; rfl
theorem set_to (l : List DInstr) (i : Nat) (n z : Int) : (l.map DInstr.enc).set i ((iJump n 0).enc.set 5 (.int .i64 z)) = (l.set i (iJump n z)).map DInstr.enc := by
  rw [List.map_set]; rfl
theorem enc_at {l : List DInstr} {i : Nat} {x : DInstr} (h : l[i]? = some x) : (l.map DInstr.enc)[i]? = some x.enc := by rw [List.getElem?_map, h]; rfl
theorem ne_nil {α : Type} {l : List α} {i : Nat} {x : α} (h : l[i]? = some x) : l ≠ [] := by intro e; rw [e] at h; simp at h
set_option maxHeartbeats 6400000 in
theorem compile_i (l : List DWant) (bk b1 o1 c B : Nat) (hok : okAll l) (hl : l.length ≤ 20) :
    ∀ (n k : Nat) (out : List DInstr) (v : Value) (w : World), k < n → n ≤ 20 → k < l.length → out.length + 2 ^ (n + 1) ≤ 10000000 → bk < B → b1 < B → B ≤ w.heap.size → w.cell? ⟨bk, 0, none⟩ = some (.slice (some ⟨b1, o1, none⟩) l.length c) → Cells w b1 o1 6 (l.map DWant.enc) → Own w B 100 6 v (out.map DInstr.enc) →
      Calls Try.prog 72 #[.pointer (some ⟨bk, 0, none⟩), v, .int .i64 k] w (GrPost B 100 6 ((comp l n k out).map DInstr.enc) v w) := by
  have hok := hd hok
  intro n
  induction n with
  | zero => intro k out v w h; omega
  | succ n ih =>
    intro k out v w hkn hn hk hsz hbk hb1 hB q C hO
    have ih := hd ih
    have hC := hd C
    have hO' := hd hO
    have hkI : (k : Int) < (l.length : Int) := by omega
    have hwc := hd (want_cases (hok.out k hk))
    have hrec := comp_at (n := n) hk out
    have hp2 : 2 ^ (n + 1 + 1) = 2 * 2 ^ (n + 1) := by rw [Nat.pow_succ]; omega
    have hp1 : 2 ≤ 2 ^ (n + 1) := by have := Nat.one_le_two_pow (n := n); rw [Nat.pow_succ]; omega
    have hbd := hd (comp_bound l n)
    obtain ⟨i0, hi, hz0, hz1, hz2⟩ := info_parts infoInstr
    have Hi := hd hi; have Hz0 := hd hz0; have Hz1 := hd hz1; have Hz2 := hd hz2
    clear hi hz0 hz1 hz2
    obtain ⟨f0, f1, f2, f3, f4, f5⟩ := Cells.rowWant l k hk C
    generalize l[k] = x at *
    generalize comp l (n + 1) k out = R at *
    have hcs : x.kind = 6 ∨ x.kind = 7 ∨ x.kind = 8 ∨ x.kind < 6 := by rcases hwc.out with h | h | h | h <;> omega
    have hx4 := hd (show BoxN (w.alloc (.cells #[.int .i64 x.kind, .int .i64 x.no, .int .i64 x.num, .string x.text, .int .i64 x.a, .int .i64 x.b] 91)) w.heap.size x.enc from BoxN.new w x.enc _)
    have hb4 := hd (below_a1 w (a := (.cells #[.int .i64 x.kind, .int .i64 x.no, .int .i64 x.num, .string x.text, .int .i64 x.a, .int .i64 x.b] 91)))
    have hsW : (w.alloc (.cells #[.int .i64 x.kind, .int .i64 x.no, .int .i64 x.num, .string x.text, .int .i64 x.a, .int .i64 x.b] 91)).heap.size = w.heap.size + 1 := by simp
    have hqW := hd (keepCell hb4.out q)
    replace hrec := hd hrec
    go_enter Try.func72, Try.ntmps72
    go_upto_region 2 with (fail)
    have p0 := hx4.out.1 0 _ rfl; have p1 := hx4.out.1 1 _ rfl; have p2 := hx4.out.1 2 _ rfl; have p3 := hx4.out.1 3 _ rfl; have p4 := hx4.out.1 4 _ rfl; have p5 := hx4.out.1 5 _ rfl
    generalize w.alloc (.cells #[.int .i64 x.kind, .int .i64 x.no, .int .i64 x.num, .string x.text, .int .i64 x.a, .int .i64 x.b] 91) = W at *
    clear f0 f1 f2 f3 f4 f5 q C hO
    have hno := hd (hO'.out.no (b := w.heap.size) (.inr (Nat.le_refl _)))
    have hOW := hd (hO'.out.below hb4.out)
    have hBW : B ≤ W.heap.size := by omega
    have hCW := hd (hC.out.mono hb4.out)
    have hG0 := hd (Gr.of_below (v := v) hb4.out)
    clear hO' hC
    rcases hcs with hc | hc | hc | hc
    · obtain ⟨ha0, hab, hbk2⟩ : 0 ≤ x.a ∧ x.a < x.b ∧ x.b < (k : Int) := by rcases hwc.out with h | h | h | h <;> omega
      obtain ⟨ma, hma⟩ := Int.eq_ofNat_of_zero_le ha0
      obtain ⟨mb, hmb⟩ := Int.eq_ofNat_of_zero_le (show 0 ≤ x.b by omega)
      have g8 : (x.kind == 8) = false := by simp; omega
      have g6 : (x.kind == 6) = true := by simp; exact hc
      have g7 : (x.kind == 7) = false := by simp; omega
      have hz := hrec.out
      rw [if_neg (by omega), if_pos (by omega), hma, hmb, hc] at hz
      simp only [Int.toNat_natCast] at hz
      change _ = (comp l n mb (comp l n ma out ++ [iJump 0 0])).set (comp l n ma out).length (iJump 0 ((comp l n mb (comp l n ma out ++ [iJump 0 0])).length : Int)) at hz
      replace hz := hd hz
      rw [hma] at p4
      rw [hmb] at p5
      have b1' := hbd.out ma out
      have b2' := hbd.out mb (comp l n ma out ++ [iJump 0 0])
      rw [List.length_append, List.length_singleton] at b2'
      have b3' := comp_ge l n mb (comp l n ma out ++ [iJump 0 0])
      rw [List.length_append, List.length_singleton] at b3'
      have hat := hd (show (comp l n mb (comp l n ma out ++ [iJump 0 0]))[(comp l n ma out).length]? = some (iJump 0 0) from by rw [comp_pre _ _ _ _ _ (by rw [List.length_append, List.length_singleton]; omega)]; simp)
      have ca := hd (ih.out ma out v W (by omega) (by omega) (by omega) (by omega) hbk hb1 hBW hqW.out hCW.out hOW.out)
      have cb := hd (fun v w hB q1 q2 => ih.out mb (comp l n ma out ++ [iJump 0 0]) v w (by omega) (by omega) (by omega) (by rw [List.length_append, List.length_singleton]; omega) hbk hb1 hB q1 q2)
      generalize hR2 : comp l n mb (comp l n ma out ++ [iJump 0 0]) = R2 at *
      generalize comp l n ma out = R1 at *
      clear hR2 hmb hma hc hab ha0 hbk2
      go_wp2_with fail
      refine ca.out.mono ?_
      rintro e w5 ⟨v5, rfl, ho5, hG5⟩
      replace hG5 := hd hG5
      replace p0 := hG5.out.kept p0 hno.out
      replace p1 := hG5.out.kept p1 hno.out
      replace p2 := hG5.out.kept p2 hno.out
      replace p3 := hG5.out.kept p3 hno.out
      replace p4 := hG5.out.kept p4 hno.out
      replace p5 := hG5.out.kept p5 hno.out
      have hno5 := hd (hG5.out.ne (by omega) hno.out)
      have hz5 := hG5.out.1.size
      have hq5 := hd (hG5.out.kept hqW.out (hOW.out.no (.inl hbk)))
      have hC5 := hd (hCW.out.kept hG5.out.1 (fun e => hOW.out.no (.inl hb1) e.symm))
      have hGa := hd (hG0.out.trans hG5.out)
      obtain ⟨a5, c5, rfl, _⟩ := ho5.sl
      simp only [List.length_map] at ho5 hno5 hGa ⊢
      replace ho5 := hd ho5
      go_wp2_with (at_builtin; refine wpList_appOwn rfl (.tmp 38) (.tmp 40) 35 rfl B 100 i0 _ 6 56 Try.underlying35 Hi.out Hz0.out Hz1.out Hz2.out rfl (by decide) _ ((R1).map DInstr.enc) [(iJump 0 0).enc] rfl (ho5.out.below (below_a1 _)) _ 1 1 rfl rfl (one_row rfl) (cells_new _ _ _) (DInstr.enc_one [(iJump 0 0)]) (by simp only [List.length_map]; omega) (by decide) (by first | omega | exact Nat.le_refl _ | (simp; done) | (simp; omega)) ?_; intro v6 w6 ho6 hg6 hv6; have hG6 := hd ((Gr.of_below (v := Value.slice a5 R1.length c5) (below_a1 w5)).trans (Gr.app hg6 hv6)); have hz6 := hG6.out.1.size; have p06 := hG6.out.kept p0 hno5.out; have p16 := hG6.out.kept p1 hno5.out; have p26 := hG6.out.kept p2 hno5.out; have p36 := hG6.out.kept p3 hno5.out; have p46 := hG6.out.kept p4 hno5.out; have p56 := hG6.out.kept p5 hno5.out; have hno6 := hd (hG6.out.ne (by omega) hno5.out); have hq6 := hd (hG6.out.kept hq5.out (ho5.out.no (.inl hbk))); have hC6 := hd (hC5.out.kept hG6.out.1 (fun e => ho5.out.no (.inl hb1) e.symm)); have hGb := hd (hGa.out.trans hG6.out); rw [map_snoc] at ho6; obtain ⟨g6, c6, rfl, hBg6, hgz6⟩ := ho6.addr (ne_nil (enc_at (i := R1.length) (x := iJump 0 0) (by simp))); simp only [List.length_map, List.length_append, List.length_singleton] at ho6 ⊢; replace ho6 := hd ho6; clear hg6 hv6 p0 p1 p2 p3 p4 p5)
      go_wp2_with fail
      refine (cb.out _ w6 (by omega) hq6.out hC6.out ho6.out).mono ?_
      rintro e w8 ⟨v8, rfl, ho8, hG8⟩
      have hz8 := hG8.1.size
      have hGd := hd (hGb.out.trans hG8)
      clear hG8
      obtain ⟨g8', c8, rfl, hBg8, hgz8⟩ := ho8.addr (ne_nil (enc_at hat.out))
      simp only [List.length_map] at ho8 ⊢
      obtain ⟨hk1, hk2⟩ := ho8.cell (i := R1.length) (j := 5) (r := (iJump 0 0).enc) (u := .int .i64 0) (enc_at hat.out) rfl
      obtain ⟨hst1, hst2⟩ := ho8.store (i := R1.length) (j := 5) (r := (iJump 0 0).enc) (enc_at hat.out) (by decide) (.int .i64 (R2.length : Int))
      rw [set_to] at hst1
      have hG9 := hd (show Gr w8 (.slice (some ⟨g8', 0, none⟩) R2.length c8) (w8.setCell ⟨g8', R1.length * 6 + 5, none⟩ (.int .i64 (R2.length : Int))) (.slice (some ⟨g8', 0, none⟩) R2.length c8) from ⟨hst2, .inl rfl⟩)
      have hidx2 : (R1.length : Int) < (R2.length : Int) := by omega
      replace hst1 := hd hst1
      replace ho8 := hd ho8
      clear hst2
      go_wp2_with fail
      go_ret
      exact ⟨_, rfl, by rw [hz.out]; exact hst1.out, hGd.out.trans hG9.out⟩
    · obtain ⟨ha0, hab, hbk2⟩ : 0 ≤ x.a ∧ x.a < x.b ∧ x.b < (k : Int) := by rcases hwc.out with h | h | h | h <;> omega
      obtain ⟨ma, hma⟩ := Int.eq_ofNat_of_zero_le ha0
      obtain ⟨mb, hmb⟩ := Int.eq_ofNat_of_zero_le (show 0 ≤ x.b by omega)
      have g8 : (x.kind == 8) = false := by simp; omega
      have g6 : (x.kind == 6) = false := by simp; omega
      have g7 : (x.kind == 7) = true := by simp; exact hc
      have hz := hrec.out
      rw [if_neg (by omega), if_pos (by omega), hma, hmb, hc] at hz
      simp only [Int.toNat_natCast] at hz
      change _ = (comp l n mb (comp l n ma out ++ [iJump 1 0])).set (comp l n ma out).length (iJump 1 ((comp l n mb (comp l n ma out ++ [iJump 1 0])).length : Int)) at hz
      replace hz := hd hz
      rw [hma] at p4
      rw [hmb] at p5
      have b1' := hbd.out ma out
      have b2' := hbd.out mb (comp l n ma out ++ [iJump 1 0])
      rw [List.length_append, List.length_singleton] at b2'
      have b3' := comp_ge l n mb (comp l n ma out ++ [iJump 1 0])
      rw [List.length_append, List.length_singleton] at b3'
      have hat := hd (show (comp l n mb (comp l n ma out ++ [iJump 1 0]))[(comp l n ma out).length]? = some (iJump 1 0) from by rw [comp_pre _ _ _ _ _ (by rw [List.length_append, List.length_singleton]; omega)]; simp)
      have ca := hd (ih.out ma out v W (by omega) (by omega) (by omega) (by omega) hbk hb1 hBW hqW.out hCW.out hOW.out)
      have cb := hd (fun v w hB q1 q2 => ih.out mb (comp l n ma out ++ [iJump 1 0]) v w (by omega) (by omega) (by omega) (by rw [List.length_append, List.length_singleton]; omega) hbk hb1 hB q1 q2)
      generalize hR2 : comp l n mb (comp l n ma out ++ [iJump 1 0]) = R2 at *
      generalize comp l n ma out = R1 at *
      clear hR2 hmb hma hc hab ha0 hbk2
      go_wp2_with fail
      refine ca.out.mono ?_
      rintro e w5 ⟨v5, rfl, ho5, hG5⟩
      replace hG5 := hd hG5
      replace p0 := hG5.out.kept p0 hno.out
      replace p1 := hG5.out.kept p1 hno.out
      replace p2 := hG5.out.kept p2 hno.out
      replace p3 := hG5.out.kept p3 hno.out
      replace p4 := hG5.out.kept p4 hno.out
      replace p5 := hG5.out.kept p5 hno.out
      have hno5 := hd (hG5.out.ne (by omega) hno.out)
      have hz5 := hG5.out.1.size
      have hq5 := hd (hG5.out.kept hqW.out (hOW.out.no (.inl hbk)))
      have hC5 := hd (hCW.out.kept hG5.out.1 (fun e => hOW.out.no (.inl hb1) e.symm))
      have hGa := hd (hG0.out.trans hG5.out)
      obtain ⟨a5, c5, rfl, _⟩ := ho5.sl
      simp only [List.length_map] at ho5 hno5 hGa ⊢
      replace ho5 := hd ho5
      go_upto_region 10 with (at_builtin; refine wpList_appOwn rfl (.tmp 38) (.tmp 40) 35 rfl B 100 i0 _ 6 56 Try.underlying35 Hi.out Hz0.out Hz1.out Hz2.out rfl (by decide) _ ((R1).map DInstr.enc) [(iJump 0 0).enc] rfl (ho5.out.below (below_a1 _)) _ 1 1 rfl rfl (one_row rfl) (cells_new _ _ _) (DInstr.enc_one [(iJump 0 0)]) (by simp only [List.length_map]; omega) (by decide) (by first | omega | exact Nat.le_refl _ | (simp; done) | (simp; omega)) ?_; intro v6 w6 ho6 hg6 hv6; have hG6 := hd ((Gr.of_below (v := Value.slice a5 R1.length c5) (below_a1 w5)).trans (Gr.app hg6 hv6)); have hz6 := hG6.out.1.size; have p06 := hG6.out.kept p0 hno5.out; have p16 := hG6.out.kept p1 hno5.out; have p26 := hG6.out.kept p2 hno5.out; have p36 := hG6.out.kept p3 hno5.out; have p46 := hG6.out.kept p4 hno5.out; have p56 := hG6.out.kept p5 hno5.out; have hno6 := hd (hG6.out.ne (by omega) hno5.out); have hq6 := hd (hG6.out.kept hq5.out (ho5.out.no (.inl hbk))); have hC6 := hd (hC5.out.kept hG6.out.1 (fun e => ho5.out.no (.inl hb1) e.symm)); have hGb := hd (hGa.out.trans hG6.out); rw [map_snoc] at ho6; obtain ⟨g6, c6, rfl, hBg6, hgz6⟩ := ho6.addr (ne_nil (enc_at (i := R1.length) (x := iJump 0 0) (by simp))); simp only [List.length_map, List.length_append, List.length_singleton] at ho6 ⊢; replace ho6 := hd ho6; clear hg6 hv6 p0 p1 p2 p3 p4 p5)
      have hcell := ho6.out.cell (i := R1.length) (j := 3) (r := (iJump 0 0).enc) (u := .int .i64 0) (enc_at (by simp)) rfl
      obtain ⟨hst1, hst2⟩ := ho6.out.store (i := R1.length) (j := 3) (r := (iJump 0 0).enc) (enc_at (by simp)) (by decide) (.int .i64 1)
      rw [set_num] at hst1
      obtain ⟨hk1, hk2⟩ := hcell
      have hG7 := hd (show Gr w6 (.slice (some ⟨g6, 0, none⟩) (R1.length + 1) c6) (w6.setCell ⟨g6, R1.length * 6 + 3, none⟩ (.int .i64 1)) (.slice (some ⟨g6, 0, none⟩) (R1.length + 1) c6) from ⟨hst2, .inl rfl⟩)
      have p07 := hG7.out.kept p06 hno6.out
      have p17 := hG7.out.kept p16 hno6.out
      have p27 := hG7.out.kept p26 hno6.out
      have p37 := hG7.out.kept p36 hno6.out
      have p47 := hG7.out.kept p46 hno6.out
      have p57 := hG7.out.kept p56 hno6.out
      have hq7 := hd (hG7.out.kept hq6.out (ho6.out.no (.inl hbk)))
      have hC7 := hd (hC6.out.kept hG7.out.1 (fun e => ho6.out.no (.inl hb1) e.symm))
      have hno7 := hd (hG7.out.ne (by omega) hno6.out)
      have hGc := hd (hGb.out.trans hG7.out)
      have hz7 := hG7.out.1.size
      replace hst1 := hd hst1
      have hidx : (R1.length : Int) < ((R1.length + 1 : Nat) : Int) := by omega
      clear hst2 p16 p26 p36
      go_wp2_with fail
      clear hk1 hk2 p06 p46 p56
      generalize w6.setCell ⟨g6, R1.length * 6 + 3, none⟩ (.int .i64 1) = w7 at *
      refine (cb.out _ w7 (by omega) hq7.out hC7.out hst1.out).mono ?_
      rintro e w8 ⟨v8, rfl, ho8, hG8⟩
      have hz8 := hG8.1.size
      have hGd := hd (hGc.out.trans hG8)
      clear hG8
      obtain ⟨g8', c8, rfl, hBg8, hgz8⟩ := ho8.addr (ne_nil (enc_at hat.out))
      simp only [List.length_map] at ho8 ⊢
      obtain ⟨hk1, hk2⟩ := ho8.cell (i := R1.length) (j := 5) (r := (iJump 1 0).enc) (u := .int .i64 0) (enc_at hat.out) rfl
      obtain ⟨hst1, hst2⟩ := ho8.store (i := R1.length) (j := 5) (r := (iJump 1 0).enc) (enc_at hat.out) (by decide) (.int .i64 (R2.length : Int))
      rw [set_to] at hst1
      have hG9 := hd (show Gr w8 (.slice (some ⟨g8', 0, none⟩) R2.length c8) (w8.setCell ⟨g8', R1.length * 6 + 5, none⟩ (.int .i64 (R2.length : Int))) (.slice (some ⟨g8', 0, none⟩) R2.length c8) from ⟨hst2, .inl rfl⟩)
      have hidx2 : (R1.length : Int) < (R2.length : Int) := by omega
      replace hst1 := hd hst1
      replace ho8 := hd ho8
      clear hst2
      go_wp2_with fail
      go_ret
      exact ⟨_, rfl, by rw [hz.out]; exact hst1.out, hGd.out.trans hG9.out⟩
    · obtain ⟨ha0, hab⟩ : 0 ≤ x.a ∧ x.a < (k : Int) := by rcases hwc.out with h | h | h | h <;> omega
      obtain ⟨ma, hma⟩ := Int.eq_ofNat_of_zero_le ha0
      have g8 : (x.kind == 8) = true := by simpa using hc
      have hz := hrec.out
      rw [if_pos hc, hma] at hz
      simp only [Int.toNat_natCast] at hz
      replace hz := hd hz
      rw [hma] at p4
      have b1' := hbd.out ma out
      have ca := hd (ih.out ma out v W (by omega) (by omega) (by omega) (by omega) hbk hb1 hBW hqW.out hCW.out hOW.out)
      generalize comp l n ma out = R1 at *
      clear hma hc hab ha0
      go_wp2_with fail
      refine ca.out.mono ?_
      rintro e w5 ⟨v5, rfl, ho5, hG5⟩
      have hz5 := hG5.1.size
      have hGa := hd (hG0.out.trans hG5)
      replace ho5 := hd ho5
      clear hG5
      go_wp2_with (at_builtin; refine wpList_appOwn rfl (.tmp 24) (.tmp 26) 35 rfl B 100 i0 _ 6 56 Try.underlying35 Hi.out Hz0.out Hz1.out Hz2.out rfl (by decide) _ ((R1).map DInstr.enc) [iFlip.enc] rfl (ho5.out.below (below_a1 _)) _ 1 1 rfl rfl (one_row rfl) (cells_new _ _ _) (DInstr.enc_one [iFlip]) (by simp only [List.length_map]; omega) (by decide) (by first | omega | exact Nat.le_refl _ | (simp; done) | (simp; omega)) ?_; intro v6 w6 ho6 hg6 hv6)
      go_ret
      exact ⟨_, rfl, by rw [hz.out, ← map_snoc]; exact ho6, hGa.out.trans ((Gr.of_below (v := v5) (below_a1 w5)).trans (Gr.app hg6 hv6))⟩
    · have g6 : (x.kind == 6) = false := by simp; omega
      have g7 : (x.kind == 7) = false := by simp; omega
      have g8 : (x.kind == 8) = false := by simp; omega
      have hz := hrec.out
      rw [if_neg (by omega), if_neg (by omega)] at hz
      replace hz := hd hz
      replace hsW := hd hsW
      clear hc
      go_wp2_with (at_builtin; refine wpList_appOwn rfl (.tmp 61) (.tmp 72) 35 rfl B 100 i0 _ 6 56 Try.underlying35 Hi.out Hz0.out Hz1.out Hz2.out rfl (by decide) _ ((out).map DInstr.enc) [(iSeek x.no).enc, (iTest x).enc] rfl (hOW.out.below (below_a1 _)) _ 2 2 rfl rfl (two_rows rfl rfl) (cells_new2 _ (iSeek x.no).enc (iTest x).enc _) (DInstr.enc_one [(iSeek x.no), (iTest x)]) (by simp only [List.length_map]; omega) (by decide) (by first | omega | exact Nat.le_refl _ | (simp; done) | (simp; omega)) ?_; intro v6 w6 ho6 hg6 hv6)
      go_ret
      exact ⟨_, rfl, by rw [hz.out, ← map_snoc2]; exact ho6, hG0.out.trans ((Gr.of_below (v := v) (below_a1 W)).trans (Gr.app hg6 hv6))⟩
end Go.Proofs.Ytibmhnlmdabliaa

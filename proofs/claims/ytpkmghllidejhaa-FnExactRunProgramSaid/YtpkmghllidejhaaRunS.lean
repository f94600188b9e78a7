/- RunProgram of the reference. -/
import Derived.Test.YtpkmghllidejhaaRunI
namespace Go.Proofs.Ytpkmghllidejhaa
open Go.RowKit
set_option linter.unusedVariables false
set_option maxRecDepth 100000
set_option maxHeartbeats 6400000 in
theorem run_s (l : List DInstr) (fs : List DField) (a : Option Addr) (c : Nat) (u : Value) (w : World) (hok : okProg l) (hn1 : 1 ≤ l.length) (hn2 : l.length ≤ 60) (hpl : fs.length ≤ 40) (hs : ∀ p ∈ fs, p.data.size ≤ 1000000000000) (ht : ∀ x ∈ l, x.text.size ≤ 1000000000000)
    (hW : Sl w (.slice a l.length c) 6 (l.map DInstr.enc)) (hP : Sl w u 4 (fs.map DField.enc)) (r : Bool × Int) (hr : runP l fs l.length 0 false (-1) 0 = r) :
    Calls Try.prog 104 #[.agg #[.slice a l.length c], u] w (fun e w' => e = .returned (.tuple #[.bool r.1, .int .i64 r.2]) ∧ Below w.heap.size w w') := by
  have hR := hd hr
  have hok := hd hok
  have hs := hd hs
  have ht := hd ht
  have hP' := hd hP
  obtain ⟨_, _, hav, hrr⟩ := hW
  rw [List.length_map] at hav
  cases hav
  replace hrr := hd hrr
  clear hr hP
  have hq0 := hd (show ((w.alloc (.cells #[.slice a l.length c] 45)).alloc (.cells #[.int .i64 0, .int .i64 0, .int .i64 0, .string ⟨#[]⟩] 99)).cell? ⟨w.heap.size, 0, none⟩ = some (.slice a l.length c) by go_simp)
  have hB0 := hd (below_a2 w (a := .cells #[.slice a l.length c] 45) (b := .cells #[.int .i64 0, .int .i64 0, .int .i64 0, .string ⟨#[]⟩] 99))
  have ho0 := hd (show ((w.alloc (.cells #[.slice a l.length c] 45)).alloc (.cells #[.int .i64 0, .int .i64 0, .int .i64 0, .string ⟨#[]⟩] 99)).ownsRow (w.heap.size + 1) 99 4 (.slice (some ⟨w.heap.size + 1, 0, none⟩) 1 1) 1 (DField.enc ⟨0, 0, 0, ⟨#[]⟩⟩) from by
    have := World.ownsRow_lit (base := w.heap.size + 1) (e := 99) (size := 4) (w.alloc (.cells #[.slice a l.length c] 45)) #[.int .i64 0, .int .i64 0, .int .i64 0, .string ⟨#[]⟩] 1 (by simp) (by decide) rfl
    rw [World.size_alloc] at this
    exact this)
  go_enter Try.func104, Try.ntmps104
  go_upto_region 6 with (fail)
  generalize (w.alloc (.cells #[.slice a l.length c] 45)).alloc (.cells #[.int .i64 0, .int .i64 0, .int .i64 0, .string ⟨#[]⟩] 99) = w1 at *
  go_loopw [6, 8, 9, 10] (fun f6 f8 f9 f10 wr => ∃ (k n : Nat) (fl hb : Bool) (p st : Int) (y : DField), f6 = .bool fl ∧ f8 = .bool hb ∧ f9 = .int .i64 st ∧ f10 = .int .i64 k ∧ k < l.length ∧ l.length - k ≤ n ∧ -1 ≤ p ∧ p < fs.length ∧ 0 ≤ st ∧ st ≤ k ∧ Hd (hb = decide (0 ≤ p)) ∧ Hd (0 ≤ p → y = fs.getD p.toNat default) ∧ Hd (runP l fs n k fl p st = r) ∧ Hd (wr.ownsRow (w.heap.size + 1) 99 4 (.slice (some ⟨w.heap.size + 1, 0, none⟩) 1 1) 1 y.enc) ∧ Hd (wr.cell? ⟨w.heap.size, 0, none⟩ = some (.slice a l.length c)) ∧ Hd (Below w.heap.size w wr)) (fun _ _ _ i _ => l.length - (intOf i).toNat)
  case atStart => exact ⟨0, l.length, false, false, -1, 0, ⟨0, 0, 0, ⟨#[]⟩⟩, rfl, rfl, rfl, rfl, by omega, by omega, by omega, by omega, by omega, by omega, (by decide : false = decide ((0 : Int) ≤ -1)), fun h => by omega, hR, ho0, hq0, hB0⟩
  case round =>
    obtain ⟨k, n, fl, hb, p, st, y, rfl, rfl, rfl, rfl, hk, hkn, hp0, hp1, hs0, hs1, hhb, hy, hrun, hown, hqo, hbl⟩ := hrel
    obtain ⟨wo, rfl⟩ : ∃ wo : World, wo = wr := ⟨_, rfl⟩
    have hkI : (k : Int) < (l.length : Int) := by omega
    obtain ⟨m, rfl⟩ : ∃ m, n = m + 1 := ⟨n - 1, by omega⟩
    obtain ⟨b1, o1, rfl, C1⟩ := rows_at hrr.out (k := k) (by rw [List.length_map]; exact hk)
    obtain ⟨f0, f1, f2, f3, f4, f5⟩ := Cells.rowInstr l k hk (C1.mono hbl.out)
    have qo := hqo.out
    have hce := hd (code_end hok.out hk)
    have htx := ht.out l[k] (List.getElem_mem hk)
    rw [runP_at hk] at hrun
    generalize l[k] = x at *
    have hx4 := hd (show BoxN (wo.alloc (.cells #[.int .i64 x.code, .int .i64 x.kind, .int .i64 x.no, .int .i64 x.num, .string x.text, .int .i64 x.to] 127)) wo.heap.size x.enc from BoxN.new wo x.enc _)
    have hb4 := hd (hbl.out.next (below_a1 wo (a := .cells #[.int .i64 x.code, .int .i64 x.kind, .int .i64 x.no, .int .i64 x.num, .string x.text, .int .i64 x.to] 127)))
    have hq4 := hd (keepCell (below_a1 wo (a := .cells #[.int .i64 x.code, .int .i64 x.kind, .int .i64 x.no, .int .i64 x.num, .string x.text, .int .i64 x.to] 127)) qo)
    have ho4 := hd (ownsRow_below0 hown.out (below_a1 wo (a := .cells #[.int .i64 x.code, .int .i64 x.kind, .int .i64 x.no, .int .i64 x.num, .string x.text, .int .i64 x.to] 127)))
    go_upto_region 7 with (fail)
    have p0 := hx4.out.1 0 _ rfl; have p1 := hx4.out.1 1 _ rfl; have p2 := hx4.out.1 2 _ rfl; have p3 := hx4.out.1 3 _ rfl; have p4 := hx4.out.1 4 _ rfl; have p5 := hx4.out.1 5 _ rfl
    generalize wo.alloc (.cells #[.int .i64 x.code, .int .i64 x.kind, .int .i64 x.no, .int .i64 x.num, .string x.text, .int .i64 x.to] 127) = W at *
    clear f0 f1 f2 f3 f4 f5 qo
    have hszW := hb4.out.size
    rcases hce.out with ⟨hc, hk1⟩ | ⟨hc, hk1, hto0, hto1⟩ | hc
    · rcases hc with hc | hc | hc
      · have g1 : (x.code == 1) = true := by simpa using hc
        have hrun2 := hd (show runP l fs m (k + 1) fl (fidx (noIs x.no) fs) (st + 1) = r by rw [← hrun.out, if_pos hc])
        have hfb := fidx_bd (noIs x.no) fs
        have ci := hd (seek_s fs x.no u W hpl (hP'.out.mono hb4.out))
        clear hc hrun
        go_wp2_with fail
        refine ci.out.mono ?_
        rintro e w5 ⟨y5, rfl, hy5, hb5⟩
        have hB5 := hd (hb4.out.next hb5)
        have hq5 := hd (keepCell hb5 hq4.out)
        have ho5 := hd (ownsRow_below0 ho4.out hb5)
        replace hy5 := hd hy5
        obtain ⟨b5, hb5e⟩ : ∃ b5, decide (0 ≤ fidx (noIs x.no) fs) = b5 := ⟨_, rfl⟩
        rw [hb5e]
        replace hb5e := hd hb5e.symm
        generalize fidx (noIs x.no) fs = z at *
        clear hb5
        have z0 : w5.cell? ⟨w.heap.size + 1, 0, none⟩ = some (.int .i64 y.no) := by rw [ho5.out.cellAt 0 (by omega)]; rfl
        have z1 : w5.cell? ⟨w.heap.size + 1, 1, none⟩ = some (.int .i64 y.kind) := by rw [ho5.out.cellAt 1 (by omega)]; rfl
        have z2 : w5.cell? ⟨w.heap.size + 1, 2, none⟩ = some (.int .i64 y.num) := by rw [ho5.out.cellAt 2 (by omega)]; rfl
        have z3 : w5.cell? ⟨w.heap.size + 1, 3, none⟩ = some (.string y.data) := by rw [ho5.out.cellAt 3 (by omega)]; rfl
        have r0 := ho5.out.frozenAt 0
        have r1 := ho5.out.frozenAt 1
        have r2 := ho5.out.frozenAt 2
        have r3 := ho5.out.frozenAt 3
        have hst := ownsRow_setCells y5.enc w5 _ 0 ho5.out
        have hst1 := hd (show (setCells w5 (w.heap.size + 1) 0 y5.enc).ownsRow (w.heap.size + 1) 99 4 (.slice (some ⟨w.heap.size + 1, 0, none⟩) 1 1) 1 y5.enc from hst.1)
        have hst2 := hd (hst.2.cell hq5.out (fun e => by simp only [Option.some.injEq] at e; omega))
        have hst3 := hd (hB5.out.grown hst.2 (by have := hB5.out.size; omega) (by intro g e; cases e; omega))
        clear hst
        go_wp2_with fail
        go_roundw
        case rel => exact ⟨k + 1, m, fl, b5, z, st + 1, y5, rfl, rfl, rfl, by go_num, by omega, by omega, by omega, by omega, by omega, by omega, hb5e, hy5, hrun2, hst1, hst2, hst3⟩
        case measure => simp [intOf]; omega
      · have g1 : (x.code == 1) = false := by simp; omega
        have g2 : (x.code == 2) = true := by simpa using hc
        cases hb with
        | true =>
          have hpn : 0 ≤ p := by have := hhb.out; simpa using this.symm
          have hy2 := hy.out hpn
          obtain ⟨i, hi⟩ := Int.eq_ofNat_of_zero_le hpn
          have hip : i < fs.length := by omega
          have hyg : y = fs[i] := by rw [hy2, hi, List.getD_eq_getElem?_getD]; simp [hip]
          have hsy : y.data.size ≤ 1000000000000 := by rw [hyg]; exact hs.out fs[i] (List.getElem_mem hip)
          have hrun2 := hd (show runP l fs m (k + 1) (isB y x.kind x.num x.text) p (st + 1) = r by
            rw [← hrun.out, if_neg (show ¬ x.code = 1 by omega), if_pos hc, testAt, ← hy2]
            simp [hpn])
          have cf := hd (fun w => test_s x y w hsy htx)
          generalize isB y x.kind x.num x.text = z at *
          have z0 : W.cell? ⟨w.heap.size + 1, 0, none⟩ = some (.int .i64 y.no) := by rw [ho4.out.cellAt 0 (by omega)]; rfl
          have z1 : W.cell? ⟨w.heap.size + 1, 1, none⟩ = some (.int .i64 y.kind) := by rw [ho4.out.cellAt 1 (by omega)]; rfl
          have z2 : W.cell? ⟨w.heap.size + 1, 2, none⟩ = some (.int .i64 y.num) := by rw [ho4.out.cellAt 2 (by omega)]; rfl
          have z3 : W.cell? ⟨w.heap.size + 1, 3, none⟩ = some (.string y.data) := by rw [ho4.out.cellAt 3 (by omega)]; rfl
          replace hy2 := hd hy2
          replace hyg := hd hyg
          replace hi := hd hi
          clear hc hrun
          go_wp2_with fail
          refine (cf.out _).mono ?_
          rintro e w5 ⟨rfl, hb5⟩
          have hB5 := hd (hb4.out.next hb5)
          have hq5 := hd (keepCell hb5 hq4.out)
          have ho5 := hd (ownsRow_below0 ho4.out hb5)
          clear hb5
          go_wp2_with fail
          go_roundw
          case rel => exact ⟨k + 1, m, z, true, p, st + 1, y, rfl, rfl, rfl, by go_num, by omega, by omega, by omega, by omega, by omega, by omega, hhb, hy, hrun2, ho5, hq5, hB5⟩
          case measure => simp [intOf]; omega
        | false =>
          have hpnB : decide (0 ≤ p) = false := hhb.out.symm
          have hrun2 := hd (show runP l fs m (k + 1) false p (st + 1) = r by rw [← hrun.out, if_neg (show ¬ x.code = 1 by omega), if_pos hc, testAt, hpnB]; rfl)
          clear hc hrun hpnB
          go_wp2_with fail
          go_roundw
          case rel => exact ⟨k + 1, m, false, false, p, st + 1, y, rfl, rfl, rfl, by go_num, by omega, by omega, by omega, by omega, by omega, by omega, hhb, hy, hrun2, ho4, hq4, hb4⟩
          case measure => simp [intOf]; omega
      · have g1 : (x.code == 1) = false := by simp; omega
        have g2 : (x.code == 2) = false := by simp; omega
        have g3 : (x.code == 3) = false := by simp; omega
        have g4 : (x.code == 4) = true := by simpa using hc
        have hrun2 := hd (show runP l fs m (k + 1) (!fl) p (st + 1) = r by rw [← hrun.out, if_neg (by omega), if_neg (by omega), if_neg (by omega), if_pos hc])
        clear hc hrun
        go_wp2_with fail
        go_roundw
        case rel => exact ⟨k + 1, m, !fl, hb, p, st + 1, y, rfl, rfl, rfl, by go_num, by omega, by omega, by omega, by omega, by omega, by omega, hhb, hy, hrun2, ho4, hq4, hb4⟩
        case measure => simp [intOf]; omega
    · have g1 : (x.code == 1) = false := by simp; omega
      have g2 : (x.code == 2) = false := by simp; omega
      have g3 : (x.code == 3) = true := by simpa using hc
      have hrun2 := hd (show runP l fs m (if (fl == (x.num == 1)) = true then x.to.toNat else k + 1) fl p (st + 1) = r by rw [← hrun.out, if_neg (show ¬ x.code = 1 by omega), if_neg (show ¬ x.code = 2 by omega), if_pos hc])
      obtain ⟨t, hto⟩ := Int.eq_ofNat_of_zero_le (show 0 ≤ x.to by omega)
      rw [hto] at hrun2 p5 hto0 hto1
      clear hc hrun hce
      cases hnum : (x.num == 1) <;> cases fl
      all_goals rw [hnum] at hrun2
      · go_wp2_with fail
        go_roundw
        case rel => exact ⟨t, m, false, hb, p, st + 1, y, rfl, rfl, rfl, rfl, by omega, by omega, by omega, by omega, by omega, by omega, hhb, hy, hrun2, ho4, hq4, hb4⟩
        case measure => simp [intOf]; omega
      · go_wp2_with fail
        go_roundw
        case rel => exact ⟨k + 1, m, true, hb, p, st + 1, y, rfl, rfl, rfl, by go_num, by omega, by omega, by omega, by omega, by omega, by omega, hhb, hy, hrun2, ho4, hq4, hb4⟩
        case measure => simp [intOf]; omega
      · go_wp2_with fail
        go_roundw
        case rel => exact ⟨k + 1, m, false, hb, p, st + 1, y, rfl, rfl, rfl, by go_num, by omega, by omega, by omega, by omega, by omega, by omega, hhb, hy, hrun2, ho4, hq4, hb4⟩
        case measure => simp [intOf]; omega
      · go_wp2_with fail
        go_roundw
        case rel => exact ⟨t, m, true, hb, p, st + 1, y, rfl, rfl, rfl, rfl, by omega, by omega, by omega, by omega, by omega, by omega, hhb, hy, hrun2, ho4, hq4, hb4⟩
        case measure => simp [intOf]; omega
    · have g1 : (x.code == 1) = false := by simp; omega
      have g2 : (x.code == 2) = false := by simp; omega
      have g3 : (x.code == 3) = false := by simp; omega
      have g4 : (x.code == 4) = false := by simp; omega
      have hres := hd (show r = (fl, st + 1) by rw [← hrun.out, if_neg (by omega), if_neg (by omega), if_neg (by omega), if_neg (by omega)])
      clear hc hrun hce
      go_wp2_with fail
      go_ret2
      exact ⟨by rw [hres.out]; rfl, hb4.out⟩
set_option maxHeartbeats 1600000 in
theorem RunProgram_s (l : List DInstr) (s : ByteArray) (v : Value) (w : World) (hl : l.length ≤ 1000000000) (hs : s.size ≤ 1048576) (ht : ∀ x ∈ l, x.text.size ≤ 1048576) (h : Sl w v 6 (l.map DInstr.enc)) (r : Bool × Int) (hr : runR l s.data.toList = r) (o : Bool) (ho : runOk l s.data.toList = o) :
    Calls Try.prog 42 #[.agg #[v], .string s] w (RunPost r o w) := by
  have c1 := hd (fun w => fields5_s s w hs)
  obtain ⟨g1, hg1⟩ : ∃ g, rfB s.data.toList = g := ⟨_, rfl⟩
  obtain ⟨g2, hg2⟩ : ∃ g, goodProg l = g := ⟨_, rfl⟩
  have c2 := hd (fun v w h => GoodProgram_s l v w (by omega) h g2 hg2)
  have hS := hd h
  obtain ⟨a0, k0, rfl, _⟩ := h
  simp only [List.length_map] at hS ⊢
  rw [hg1] at c1
  have hos := hd (show o = (g1 && g2) by rw [← ho, runOk, hg1, hg2])
  have hrs := hd (show r = if (g1 && g2) then runP l (rfF s.data.toList) l.length 0 false (-1) 0 else (false, 0) by rw [← hr, runR, runOk, hg1, hg2])
  have hpl := rfF_len s.data.toList
  have hsm := hd (rfF_small2 s.data.toList)
  have ht := hd (fun x (hx : x ∈ l) => Nat.le_trans (ht x hx) (show 1048576 ≤ 1000000000000 by omega))
  clear hr ho hg1
  by_cases hgg : g1 = true ∧ g2 = true
  · obtain ⟨rfl, rfl⟩ := hgg
    obtain ⟨hn1, hn2⟩ := prog_len hg2
    have hok := hd (prog_all hg2)
    have hR := hd (show runP l (rfF s.data.toList) l.length 0 false (-1) 0 = r by rw [hrs.out]; rfl)
    clear hg2 hrs
    go_enter Try.func42, Try.ntmps42
    go_wp2_with fail
    refine (c1.out _).mono ?_
    rintro e w2 ⟨v2, rfl, ho2, hb2⟩
    have q0 := keepCell hb2 (show World.cell? _ ⟨w.heap.size, 0, none⟩ = some (.slice a0 l.length k0) by go_simp)
    have hB := hd ((below_a1 w).next hb2)
    replace ho2 := hd ho2
    clear hb2
    go_wp2_with fail
    refine (c2.out _ _ (hS.out.mono hB.out)).mono ?_
    rintro e w3 ⟨rfl, hb3⟩
    have hB3 := hd (hB.out.next hb3)
    have q3 := keepCell hb3 q0
    have ho3 := hd (ho2.out.below hb3)
    clear hb3 q0
    go_wp2_with fail
    refine (run_s l (rfF s.data.toList) a0 k0 v2 w3 hok.out hn1 hn2 hpl hsm.out ht.out (hS.out.mono hB3.out) ho3.out.sl r hR.out).mono ?_
    rintro e w4 ⟨rfl, hb4⟩
    have hB4 := hd (hB3.out.next hb4)
    clear hb4
    go_wp2_with fail
    go_ret3
    exact ⟨by rw [hos.out]; rfl, hB4.out⟩
  · have hof := hd (show o = false by rw [hos.out]; cases g1 <;> cases g2 <;> simp at hgg ⊢)
    have hrf := hd (show r = (false, 0) by rw [hrs.out]; cases g1 <;> cases g2 <;> simp at hgg ⊢)
    clear hg2 hrs hos
    cases g1 <;> cases g2
    all_goals (try (exfalso; simp at hgg; done))
    all_goals
      clear hgg
      go_enter Try.func42, Try.ntmps42
      go_wp2_with fail
      refine (c1.out _).mono ?_
      rintro e w2 ⟨v2, rfl, ho2, hb2⟩
      have q0 := keepCell hb2 (show World.cell? _ ⟨w.heap.size, 0, none⟩ = some (.slice a0 l.length k0) by go_simp)
      have hB := hd ((below_a1 w).next hb2)
      replace ho2 := hd ho2
      clear hb2
      go_wp2_with fail
      refine (c2.out _ _ (hS.out.mono hB.out)).mono ?_
      rintro e w3 ⟨rfl, hb3⟩
      have hB3 := hd (hB.out.next hb3)
      clear hb3
      go_wp2_with fail
      go_ret3
      exact ⟨by rw [hof.out, hrf.out]; rfl, hB3.out⟩
theorem small_instrs {l : List DInstr} (h : SmallInstr 1048576 l.length l) : ∀ x ∈ l, x.text.size ≤ 1048576 := by
  intro x hx
  obtain ⟨i, hi, rfl⟩ := List.mem_iff_getElem.1 hx
  have := h i hi hi
  omega
end Go.Proofs.Ytpkmghllidejhaa

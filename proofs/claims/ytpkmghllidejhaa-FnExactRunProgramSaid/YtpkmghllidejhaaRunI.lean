/- RunProgram of the program. -/
import Derived.Test.YtpkmghllidejhaaRun
import Derived.StillTailTactics
namespace Go.Proofs.Ytpkmghllidejhaa
open Go.RowKit
set_option linter.unusedVariables false
set_option maxRecDepth 100000
def noIsP (n : Int) (p : DPlaced) : Bool := noIs n p.f
theorem fidx_map (n : Int) (l : List DPlaced) : fidx (noIs n) (l.map (·.f)) = fidx (noIsP n) l := by
  rw [fidx, fidx, List.findIdx_map, List.length_map]; rfl
theorem run_cl (n : Int) (p : DPlaced) (bk : Nat) (w : World) (q2 : w.cell? ⟨bk, 2, none⟩ = some (.int .i64 n)) :
    Calls Try.prog 106 #[.agg #[.int .i64 p.f.no, .int .i64 p.f.kind, .int .i64 p.f.num, .string p.f.data, .int .i64 p.at_], .pointer (some ⟨bk, 0, none⟩)] w (BoolPost (noIsP n p) w) := by
  have a2 := fun o => keepCell (below_a1 w (a := o)) q2
  have hI := hd (show noIsP n p = (p.f.no == n) from rfl)
  clear q2
  go_enter Try.func106, Try.ntmps106
  go_wp2_with fail
  go_ret
  exact ⟨by rw [hI.out]; rfl, below_a1 _⟩
set_option maxHeartbeats 800000 in
theorem ix_run (cv : Value) (p : DPlaced → Bool) (l : List DPlaced) (v : Value) (w : World) (hl : l.length ≤ 1000000000000) (h : Sl w v 5 (l.map DPlaced.enc))
    (hp : ∀ x ∈ l, ∀ w', Below w.heap.size w w' → Calls Try.prog 106 #[.agg #[.int .i64 x.f.no, .int .i64 x.f.kind, .int .i64 x.f.num, .string x.f.data, .int .i64 x.at_], cv] w' (BoolPost (p x) w')) :
    Calls Try.prog 105 #[v, .func (.func 106) #[] #[cv]] w (IntPost (fidx p l) w) := by
  replace hp := hd hp
  rcases h.open with ⟨a1, c1, rfl, hr⟩ | ⟨b1, o1, c1, rfl, hr, C1⟩
  · obtain rfl : l = [] := by simpa using hr
    go_enter Try.func105, Try.ntmps105
    go_wp2
    go_loopw [8] (fun i wr => i = .int .i64 0 ∧ wr = w) (fun _ _ => 0)
    case atStart => exact ⟨rfl, rfl⟩
    case round =>
      obtain ⟨rfl, rfl⟩ := hrel
      go_wp2_with fail
      go_ret
      exact ⟨rfl, Below.refl _ _⟩
  · clear h
    simp only [List.length_map]
    go_enter Try.func105, Try.ntmps105
    go_wp2
    go_loopw [8] (fun i wr => ∃ k : Nat, k ≤ l.length ∧ i = .int .i64 k ∧ Hd (fidx_from p l k) ∧ Hd (Below w.heap.size w wr)) (fun i _ => l.length - (intOf i).toNat)
    case atStart => exact ⟨0, Nat.zero_le _, rfl, fidx_zero p l, Below.refl _ _⟩
    case round =>
      obtain ⟨k, hk, rfl, hfx, hbl⟩ := hrel
      by_cases hlt : k < l.length
      · obtain ⟨f0, f1, f2, f3, f4⟩ := Cells.rowPlaced l k hlt (C1.mono hbl.out)
        cases hpx : p l[k] with
        | true =>
          replace hpx := hd hpx
          go_wp2_with fail
          refine (hp.out l[k] (List.getElem_mem hlt) _ hbl.out).mono ?_
          rw [hpx.out]
          rintro e w2 ⟨rfl, hb⟩
          have hb2 := hd (hbl.out.next hb)
          clear hb
          go_wp2_with fail
          go_ret
          exact ⟨ret_int (fidx_hit hlt hfx.out hpx.out).symm, hb2.out⟩
        | false =>
          replace hpx := hd hpx
          go_wp2_with fail
          refine (hp.out l[k] (List.getElem_mem hlt) _ hbl.out).mono ?_
          rw [hpx.out]
          rintro e w2 ⟨rfl, hb⟩
          have hb2 := hd (hbl.out.next hb)
          clear hb
          go_wp2_with fail
          go_roundw
          case rel => exact ⟨k + 1, by omega, by go_num, fidx_step hlt hfx.out hpx.out, hb2⟩
          case measure => simp [intOf]; omega
      · go_wp2_with fail
        go_ret
        exact ⟨ret_int (fidx_none (by omega) hfx.out).symm, hbl.out⟩
def RunPost (r : Bool × Int) (b : Bool) (w : World) (e : Ending) (w' : World) : Prop := e = .returned (.tuple #[.bool r.1, .int .i64 r.2, .bool b]) ∧ Below w.heap.size w w'
def runOk (l : List DInstr) (s : List UInt8) : Bool := rfB s && goodProg l
def runR (l : List DInstr) (s : List UInt8) : Bool × Int := if runOk l s then runP l (rfF s) l.length 0 false (-1) 0 else (false, 0)
theorem rfF_small2 (l : List UInt8) : ∀ x ∈ rfF l, x.data.size ≤ 1000000000000 := fun x hx => Nat.le_trans (small_of (rfF_ok l) (rfF_flat l) x hx) (by omega)
theorem ret_bib {a a' : Bool} {n n' : Int} {b b' : Bool} (h : a = a') (h2 : n = n') (h' : b = b') : Ending.returned (.tuple #[.bool a, .int .i64 n, .bool b]) = .returned (.tuple #[.bool a', .int .i64 n', .bool b']) := by rw [h, h2, h']
set_option maxHeartbeats 6400000 in
theorem RunProgram_i (l : List DInstr) (s : ByteArray) (v : Value) (w : World) (hl : l.length ≤ 1000000000) (hs : s.size ≤ 1048576) (ht : ∀ x ∈ l, x.text.size ≤ 1048576) (h : Sl w v 6 (l.map DInstr.enc)) (r : Bool × Int) (hr : runR l s.data.toList = r) (o : Bool) (ho : runOk l s.data.toList = o) :
    Calls Try.prog 43 #[.agg #[v], .string s] w (RunPost r o w) := by
  have c1 := hd (fun w => rising_i s w hs)
  obtain ⟨g1, hg1⟩ : ∃ g, rfB s.data.toList = g := ⟨_, rfl⟩
  obtain ⟨g2, hg2⟩ : ∃ g, goodProg l = g := ⟨_, rfl⟩
  have c2 := hd (fun v w h => GoodProgram_i l v w (by omega) h g2 hg2)
  have hS := hd h
  obtain ⟨a0, k0, rfl, _⟩ := h
  simp only [List.length_map] at hS ⊢
  rw [hg1] at c1
  have hos := hd (show o = (g1 && g2) by rw [← ho, runOk, hg1, hg2])
  have hrs := hd (show r = if (g1 && g2) then runP l (rfF s.data.toList) l.length 0 false (-1) 0 else (false, 0) by rw [← hr, runR, runOk, hg1, hg2])
  have hpl := rfL_len s.data.toList
  have hsm := hd (rfF_small2 s.data.toList)
  have ht := hd (fun x (hx : x ∈ l) => Nat.le_trans (ht x hx) (show 1048576 ≤ 1000000000000 by omega))
  have hmp := hd (rfF_map s.data.toList)
  clear hr ho hg1
  cases g1 with
  | false =>
    clear hg2
    go_enter Try.func43, Try.ntmps43
    go_wp2_with fail
    refine (c1.out _).mono ?_
    rintro e w2 ⟨v2, rfl, ho2, hb2⟩
    have hB := hd ((below_a1 w).next hb2)
    replace ho2 := hd ho2
    clear hb2
    go_wp2_with fail
    go_ret3
    exact ⟨by rw [hos.out, hrs.out]; rfl, hB.out⟩
  | true =>
    cases g2 with
    | false =>
      clear hg2
      go_enter Try.func43, Try.ntmps43
      go_wp2_with fail
      refine (c1.out _).mono ?_
      rintro e w2 ⟨v2, rfl, ho2, hb2⟩
      have q0 := keepCell hb2 (show World.cell? _ ⟨w.heap.size, 0, none⟩ = some (.slice a0 l.length k0) by go_simp)
      have hB := hd ((below_a1 w).next hb2)
      replace ho2 := hd ho2
      clear hb2
      go_wp2_with fail
      refine (c2.out _ _ (hS.out.mono hB.out)).mono ?_
      rintro e w3 ⟨rfl, hb3⟩
      have hB3 := hd (hB.out.next hb3)
      clear hb3
      go_wp2_with fail
      go_ret3
      exact ⟨by rw [hos.out, hrs.out]; rfl, hB3.out⟩
    | true =>
      obtain ⟨hn1, hn2⟩ := prog_len hg2
      have hok := hd (prog_all hg2)
      have hR := hd (show runP l (rfF s.data.toList) l.length 0 false (-1) 0 = r by rw [hrs.out]; rfl)
      clear hg2 hrs
      rw [hmp.out] at hR hsm
      generalize rfL s.data.toList = pl at *
      clear hmp
      go_enter Try.func43, Try.ntmps43
      go_wp2_with fail
      refine (c1.out _).mono ?_
      rintro e w2 ⟨v2, rfl, ho2, hb2⟩
      have q0 := keepCell hb2 (show World.cell? _ ⟨w.heap.size, 0, none⟩ = some (.slice a0 l.length k0) by go_simp)
      have hB := hd ((below_a1 w).next hb2)
      replace ho2 := hd ho2
      clear hb2
      go_wp2_with fail
      refine (c2.out _ _ (hS.out.mono hB.out)).mono ?_
      rintro e w3 ⟨rfl, hb3⟩
      have hB3 := hd (hB.out.next hb3)
      have hq3 := hd (keepCell hb3 q0)
      have ho3 := hd (ho2.out.below hb3)
      have hS3 := hd (hS.out.mono hB3.out)
      clear hb3 q0 ho2
      obtain ⟨ap, kp, rfl, hrp⟩ := ho3.out.sl
      obtain ⟨_, _, hav, hrr⟩ := hS3.out
      rw [List.length_map] at hav
      cases hav
      replace hrr := hd hrr
      replace hrp := hd hrp
      simp only [List.length_map] at *
      have q3 := hq3.out
      go_wp2_with fail
      go_loopw [9, 10, 11, 12] (fun f9 f10 f11 f12 wr => ∃ (k n : Nat) (fl : Bool) (p st : Int), f9 = .bool fl ∧ f10 = .int .i64 p ∧ f11 = .int .i64 st ∧ f12 = .int .i64 k ∧ k < l.length ∧ l.length - k ≤ n ∧ -1 ≤ p ∧ p < pl.length ∧ 0 ≤ st ∧ st ≤ k ∧ Hd (runP l (pl.map (·.f)) n k fl p st = r) ∧ Hd (Below w3.heap.size w3 wr)) (fun _ _ _ i _ => l.length - (intOf i).toNat)
      case atStart => exact ⟨0, l.length, false, -1, 0, rfl, rfl, rfl, rfl, by omega, by omega, by omega, by omega, by omega, by omega, hR, Below.refl _ _⟩
      case round =>
        obtain ⟨k, n, fl, p, st, rfl, rfl, rfl, rfl, hk, hkn, hp0, hp1, hs0, hs1, hrun, hbl⟩ := hrel
        obtain ⟨wo, rfl⟩ : ∃ wo : World, wo = wr := ⟨_, rfl⟩
        have hkI : (k : Int) < (l.length : Int) := by omega
        obtain ⟨m, rfl⟩ : ∃ m, n = m + 1 := ⟨n - 1, by omega⟩
        obtain ⟨b1, o1, rfl, C1⟩ := rows_at hrr.out (k := k) (by rw [List.length_map]; exact hk)
        obtain ⟨f0, f1, f2, f3, f4, f5⟩ := Cells.rowInstr l k hk (C1.mono hbl.out)
        have qo := keepCell hbl.out q3
        have hce := hd (code_end hok.out hk)
        have htx := ht.out l[k] (List.getElem_mem hk)
        rw [runP_at hk] at hrun
        generalize l[k] = x at *
        have hx4 := hd (show BoxN (wo.alloc (.cells #[.int .i64 x.code, .int .i64 x.kind, .int .i64 x.no, .int .i64 x.num, .string x.text, .int .i64 x.to] 127)) wo.heap.size x.enc from BoxN.new wo x.enc _)
        have hb4 := hd (hbl.out.next (below_a1 wo (a := .cells #[.int .i64 x.code, .int .i64 x.kind, .int .i64 x.no, .int .i64 x.num, .string x.text, .int .i64 x.to] 127)))
        go_upto_region 8 with (fail)
        have p0 := hx4.out.1 0 _ rfl; have p1 := hx4.out.1 1 _ rfl; have p2 := hx4.out.1 2 _ rfl; have p3 := hx4.out.1 3 _ rfl; have p4 := hx4.out.1 4 _ rfl; have p5 := hx4.out.1 5 _ rfl
        generalize wo.alloc (.cells #[.int .i64 x.code, .int .i64 x.kind, .int .i64 x.no, .int .i64 x.num, .string x.text, .int .i64 x.to] 127) = W at *
        clear f0 f1 f2 f3 f4 f5 qo
        rcases hce.out with ⟨hc, hk1⟩ | ⟨hc, hk1, hto0, hto1⟩ | hc
        · rcases hc with hc | hc | hc
          · have g1 : (x.code == 1) = true := by simpa using hc
            have hrun2 := hd (show runP l (pl.map (·.f)) m (k + 1) fl (fidx (noIsP x.no) pl) (st + 1) = r by rw [← hrun.out, if_pos hc, fidx_map])
            have hfb := fidx_bd (noIsP x.no) pl
            have ci := hd (ix_run (.pointer (some ⟨wo.heap.size, 0, none⟩)) (noIsP x.no) pl (.slice ap pl.length kp) W (by omega) (by have := ho3.out.sl.mono hb4.out; exact this) (fun y hy w' hb => run_cl x.no y _ w' (keepCell hb p2)))
            clear hc hrun
            generalize fidx (noIsP x.no) pl = z at *
            go_wp2_with fail
            refine ci.out.mono ?_
            rintro e w5 ⟨rfl, hb5⟩
            have hB5 := hd (hb4.out.next hb5)
            clear hb5
            go_wp2_with fail
            go_roundw
            case rel => exact ⟨k + 1, m, fl, z, st + 1, rfl, rfl, rfl, by go_num, by omega, by omega, by omega, by omega, by omega, by omega, hrun2, hB5⟩
            case measure => simp [intOf]; omega
          · have g1 : (x.code == 1) = false := by simp; omega
            have g2 : (x.code == 2) = true := by simpa using hc
            by_cases hpn : 0 ≤ p
            · obtain ⟨i, hi⟩ := Int.eq_ofNat_of_zero_le hpn
              have hip : i < pl.length := by omega
              have hipI : (i : Int) < (pl.length : Int) := by omega
              obtain ⟨b2, o2, rfl, C2⟩ := rows_at hrp.out (k := i) (by rw [List.length_map]; exact hip)
              obtain ⟨e0, e1, e2, e3, _⟩ := Cells.rowPlaced pl i hip (C2.mono hb4.out)
              have hsy := hsm.out pl[i].f (List.mem_map_of_mem (List.getElem_mem hip))
              have hrun2 := hd (show runP l (pl.map (·.f)) m (k + 1) (isB pl[i].f x.kind x.num x.text) (i : Int) (st + 1) = r by
                rw [← hrun.out, if_neg (by omega), if_pos hc, testAt, hi, List.getD_eq_getElem?_getD]
                simp [hip])
              generalize pl[i] = y at *
              have cf := hd (fun w => fieldIs_i y.f x.kind x.num x.text w hsy htx)
              generalize isB y.f x.kind x.num x.text = z at *
              subst hi
              have hnl : ¬ (i : Int) < 0 := by omega
              have hmx : (if (i : Int) < 0 then (0 : Int) else (i : Int)) = (i : Int) := by rw [if_neg hnl]
              clear hc hrun
              go_wp2_with fail
              go_still_tail 15, (by kernel_rfl)
              change wpList _ _ _ _ _ W.drew
              go_wp2_with fail
              refine (cf.out _).mono ?_
              rintro e w5 ⟨rfl, hb5⟩
              have hB5 := hd (hb4.out.drew.next hb5)
              clear hb5
              go_wp2_with fail
              go_roundw
              case rel => exact ⟨k + 1, m, z, i, st + 1, rfl, rfl, rfl, by go_num, by omega, by omega, by omega, by omega, by omega, by omega, hrun2, hB5⟩
              case measure => simp [intOf]; omega
            · have hpnB : decide (0 ≤ p) = false := by simpa using hpn
              have hrun2 := hd (show runP l (pl.map (·.f)) m (k + 1) false p (st + 1) = r by rw [← hrun.out, if_neg (by omega), if_pos hc, testAt, hpnB]; rfl)
              clear hc hrun
              go_wp2_with fail
              go_region
              all_goals go_wp2_with fail
              all_goals go_roundw
              case rel => exact ⟨k + 1, m, false, p, st + 1, rfl, rfl, rfl, by go_num, by omega, by omega, by omega, by omega, by omega, by omega, hrun2, hb4.out.drew⟩
              case measure => simp [intOf]; omega
          · have g1 : (x.code == 1) = false := by simp; omega
            have g2 : (x.code == 2) = false := by simp; omega
            have g3 : (x.code == 3) = false := by simp; omega
            have g4 : (x.code == 4) = true := by simpa using hc
            have hrun2 := hd (show runP l (pl.map (·.f)) m (k + 1) (!fl) p (st + 1) = r by rw [← hrun.out, if_neg (by omega), if_neg (by omega), if_neg (by omega), if_pos hc])
            clear hc hrun
            go_wp2_with fail
            go_roundw
            case rel => exact ⟨k + 1, m, !fl, p, st + 1, rfl, rfl, rfl, by go_num, by omega, by omega, by omega, by omega, by omega, by omega, hrun2, hb4⟩
            case measure => simp [intOf]; omega
        · have g1 : (x.code == 1) = false := by simp; omega
          have g2 : (x.code == 2) = false := by simp; omega
          have g3 : (x.code == 3) = true := by simpa using hc
          have hrun2 := hd (show runP l (pl.map (·.f)) m (if (fl == (x.num == 1)) = true then x.to.toNat else k + 1) fl p (st + 1) = r by rw [← hrun.out, if_neg (show ¬ x.code = 1 by omega), if_neg (show ¬ x.code = 2 by omega), if_pos hc])
          obtain ⟨t, hto⟩ := Int.eq_ofNat_of_zero_le (show 0 ≤ x.to by omega)
          rw [hto] at hrun2 p5 hto0 hto1
          clear hc hrun hce
          cases hnum : (x.num == 1) <;> cases fl
          all_goals rw [hnum] at hrun2
          · go_wp2_with fail
            go_roundw
            case rel => exact ⟨t, m, false, p, st + 1, rfl, rfl, rfl, by first | rfl | (congr 1; omega), by omega, by omega, by omega, by omega, by omega, by omega, hrun2, hb4⟩
            case measure => simp [intOf]; omega
          · go_wp2_with fail
            go_roundw
            case rel => exact ⟨k + 1, m, true, p, st + 1, rfl, rfl, rfl, by go_num, by omega, by omega, by omega, by omega, by omega, by omega, hrun2, hb4⟩
            case measure => simp [intOf]; omega
          · go_wp2_with fail
            go_roundw
            case rel => exact ⟨k + 1, m, false, p, st + 1, rfl, rfl, rfl, by go_num, by omega, by omega, by omega, by omega, by omega, by omega, hrun2, hb4⟩
            case measure => simp [intOf]; omega
          · go_wp2_with fail
            go_roundw
            case rel => exact ⟨t, m, true, p, st + 1, rfl, rfl, rfl, by first | rfl | (congr 1; omega), by omega, by omega, by omega, by omega, by omega, by omega, hrun2, hb4⟩
            case measure => simp [intOf]; omega
        · have g1 : (x.code == 1) = false := by simp; omega
          have g2 : (x.code == 2) = false := by simp; omega
          have g3 : (x.code == 3) = false := by simp; omega
          have g4 : (x.code == 4) = false := by simp; omega
          have hres := hd (show r = (fl, st + 1) by rw [← hrun.out, if_neg (by omega), if_neg (by omega), if_neg (by omega), if_neg (by omega)])
          clear hc hrun hce
          go_wp2_with fail
          go_ret3
          exact ⟨by rw [hos.out, hres.out]; rfl, hB3.out.next hb4.out⟩
end Go.Proofs.Ytpkmghllidejhaa

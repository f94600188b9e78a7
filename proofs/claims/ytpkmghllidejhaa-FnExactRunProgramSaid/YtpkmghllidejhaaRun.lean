/- RunProgram: plain; the test of the reference. -/
import Derived.Test.YtpkmghllidejhaaSoS
import Derived.Test.YtpkmghllidejhaaViewM
import Derived.Test.YtpkmghllidejhaaProgram3
namespace Go.Proofs.Ytpkmghllidejhaa
open Go.RowKit
set_option linter.unusedVariables false
set_option maxRecDepth 100000
def okProg (l : List DInstr) : Prop := ∀ i (h : i < l.length), instrP l[i].code l[i].kind l[i].no l[i].num l[i].text l[i].to (i : Int) (l.length : Int)
theorem prog_all {l : List DInstr} (h : goodProg l = true) : okProg l := by
  intro i hi
  simp only [goodProg, Bool.and_eq_true, Bool.not_eq_true'] at h
  have := h.2
  rw [List.any_eq_false] at this
  have h2 := this (l[i], i) (by rw [← zi_get hi (by simpa using hi)]; exact List.getElem_mem _)
  simpa [instrBad] using h2
theorem prog_len {l : List DInstr} (h : goodProg l = true) : 1 ≤ l.length ∧ l.length ≤ 60 := by
  simp only [goodProg, Bool.and_eq_true, decide_eq_true_eq] at h
  exact h.1
def noIs (n : Int) (f : DField) : Bool := f.no == n
def testAt (fs : List DField) (pl : Int) (x : DInstr) : Bool := decide (0 ≤ pl) && isB (fs.getD pl.toNat default) x.kind x.num x.text
/-- What a program tells, from a place on, and how many were run. -/
def runP (l : List DInstr) (fs : List DField) : Nat → Nat → Bool → Int → Int → Bool × Int
  | 0, _, _, _, _ => (false, 0)
  | n + 1, k, fl, pl, st => match l[k]? with
    | none => (false, 0)
    | some x => if x.code = 1 then runP l fs n (k + 1) fl (fidx (noIs x.no) fs) (st + 1)
      else if x.code = 2 then runP l fs n (k + 1) (testAt fs pl x) pl (st + 1)
      else if x.code = 3 then runP l fs n (if (fl == (x.num == 1)) = true then x.to.toNat else k + 1) fl pl (st + 1)
      else if x.code = 4 then runP l fs n (k + 1) (!fl) pl (st + 1)
      else (fl, st + 1)
theorem runP_at {l : List DInstr} {fs : List DField} {n k : Nat} {fl : Bool} {pl st : Int} (h : k < l.length) : runP l fs (n + 1) k fl pl st =
    if l[k].code = 1 then runP l fs n (k + 1) fl (fidx (noIs l[k].no) fs) (st + 1)
      else if l[k].code = 2 then runP l fs n (k + 1) (testAt fs pl l[k]) pl (st + 1)
      else if l[k].code = 3 then runP l fs n (if (fl == (l[k].num == 1)) = true then l[k].to.toNat else k + 1) fl pl (st + 1)
      else if l[k].code = 4 then runP l fs n (k + 1) (!fl) pl (st + 1)
      else (fl, st + 1) := by
  rw [runP, List.getElem?_eq_getElem h]
theorem fidx_bd {α : Type} (p : α → Bool) (l : List α) : -1 ≤ fidx p l ∧ fidx p l < l.length := by
  rw [fidx]; split <;> omega
theorem code_end {l : List DInstr} (h : okProg l) {k : Nat} (hk : k < l.length) : ((l[k].code = 1 ∨ l[k].code = 2 ∨ l[k].code = 4) ∧ k + 1 < l.length) ∨ (l[k].code = 3 ∧ k + 1 < l.length ∧ (k : Int) < l[k].to ∧ l[k].to < l.length) ∨ l[k].code = 5 := by
  have := h k hk
  unfold instrP at this
  omega
set_option maxHeartbeats 3200000 in
theorem test_s (x : DInstr) (y : DField) (w : World) (hs : y.data.size ≤ 1000000000000) (ht : x.text.size ≤ 1000000000000) :
    Calls Try.prog 165 #[.agg #[.int .i64 x.code, .int .i64 x.kind, .int .i64 x.no, .int .i64 x.num, .string x.text, .int .i64 x.to], .agg #[.int .i64 y.no, .int .i64 y.kind, .int .i64 y.num, .string y.data]] w (BoolPost (isB y x.kind x.num x.text) w) := by
  obtain ⟨z, hz⟩ : ∃ z, isB y x.kind x.num x.text = z := ⟨_, rfl⟩
  have hI := hd (show z = (if x.kind = 1 then y.kind == 0 && y.num == x.num else if x.kind = 2 then y.kind == 0 && decide (y.num < x.num) else if x.kind = 3 then y.kind == 0 && decide (x.num < y.num) else if x.kind = 5 then !(y.kind == 0) && preB y.data x.text else true) by rw [← hz]; rfl)
  rw [hz]
  clear hz
  obtain ⟨xc, xk, xn, xu, xt, xo⟩ := x
  dsimp only at *
  have hcs : xk = 1 ∨ xk = 2 ∨ xk = 3 ∨ xk = 5 ∨ (¬ xk = 1 ∧ ¬ xk = 2 ∧ ¬ xk = 3 ∧ ¬ xk = 5) := by omega
  rcases hcs with rfl | rfl | rfl | rfl | ⟨h1, h2, h3, h5⟩
  · cases hk0 : (y.kind == 0) with
    | true =>
      rw [hk0] at hI
      go_enter Try.func165, Try.ntmps165
      go_wp2_with fail
      go_ret
      exact ⟨ret_bool (by rw [hI.out]; simp), below_a2 _⟩
    | false =>
      rw [hk0] at hI
      go_enter Try.func165, Try.ntmps165
      go_wp2_with fail
      go_ret
      exact ⟨ret_bool (by rw [hI.out]; simp), below_a2 _⟩
  · cases hk0 : (y.kind == 0) with
    | true =>
      rw [hk0] at hI
      go_enter Try.func165, Try.ntmps165
      go_wp2_with fail
      go_ret
      exact ⟨ret_bool (by rw [hI.out]; simp), below_a2 _⟩
    | false =>
      rw [hk0] at hI
      go_enter Try.func165, Try.ntmps165
      go_wp2_with fail
      go_ret
      exact ⟨ret_bool (by rw [hI.out]; simp), below_a2 _⟩
  · cases hk0 : (y.kind == 0) with
    | true =>
      rw [hk0] at hI
      go_enter Try.func165, Try.ntmps165
      go_wp2_with fail
      go_ret
      exact ⟨ret_bool (by rw [hI.out]; simp), below_a2 _⟩
    | false =>
      rw [hk0] at hI
      go_enter Try.func165, Try.ntmps165
      go_wp2_with fail
      go_ret
      exact ⟨ret_bool (by rw [hI.out]; simp), below_a2 _⟩
  · have hIr := hd (show z = (!(y.kind == 0) && preB y.data xt) by rw [hI]; simp)
    clear hI
    cases hk0 : (y.kind == 0) with
    | true =>
      rw [hk0] at hIr
      go_enter Try.func165, Try.ntmps165
      go_wp2_with fail
      go_quiet (fail)
      go_wp2_with fail
      go_ret
      exact ⟨ret_bool (by rw [hIr.out]; simp), below_drewN (below_a2 _) _⟩
    | false =>
      rw [hk0] at hIr
      by_cases hsz : xt.size ≤ y.data.size
      · have hszI : (xt.size : Int) ≤ (y.data.size : Int) := by omega
        have hpr := hd (show preB y.data xt = ((y.data.extract 0 xt.size).toList == xt.toList) by rw [preB]; simp [hsz])
        go_enter Try.func165, Try.ntmps165
        go_wp2_with fail
        go_quiet (fail)
        go_wp2_with fail
        go_ret
        exact ⟨ret_bool (by rw [hIr.out, hpr.out]; simp), below_drewN (below_a2 _) _⟩
      · have hszI : ¬ (xt.size : Int) ≤ (y.data.size : Int) := by omega
        have hpr := hd (show preB y.data xt = false by rw [preB]; simp [hsz])
        go_enter Try.func165, Try.ntmps165
        go_wp2_with fail
        go_quiet (fail)
        go_wp2_with fail
        go_ret
        exact ⟨ret_bool (by rw [hIr.out, hpr.out]; simp), below_drewN (below_a2 _) _⟩
  · have e1 : (xk == 1) = false := by simpa using h1
    have e2 : (xk == 2) = false := by simpa using h2
    have e3 : (xk == 3) = false := by simpa using h3
    have e5 : (xk == 5) = false := by simpa using h5
    have hIr := hd (show z = true by rw [hI.out, if_neg h1, if_neg h2, if_neg h3, if_neg h5])
    clear hI h1 h2 h3 h5
    go_enter Try.func165, Try.ntmps165
    go_wp2_with fail
    go_ret
    exact ⟨ret_bool (by rw [hIr.out]), below_a2 _⟩
/-- The first field with a number. -/
def SeekPost (fs : List DField) (n : Int) (w : World) (e : Ending) (w' : World) : Prop :=
  ∃ y : DField, e = .returned (.tuple #[.agg #[.int .i64 y.no, .int .i64 y.kind, .int .i64 y.num, .string y.data], .bool (decide (0 ≤ fidx (noIs n) fs))]) ∧ (0 ≤ fidx (noIs n) fs → y = fs.getD (fidx (noIs n) fs).toNat default) ∧ Below w.heap.size w w'
set_option maxHeartbeats 1600000 in
theorem seek_s (fs : List DField) (n : Int) (v : Value) (w : World) (hl : fs.length ≤ 40) (h : Sl w v 4 (fs.map DField.enc)) :
    Calls Try.prog 164 #[v, .int .i64 n] w (SeekPost fs n w) := by
  obtain ⟨a1, c1, rfl, hrr⟩ := h
  replace hrr := hd hrr
  simp only [List.length_map]
  go_enter Try.func164, Try.ntmps164
  go_wp2_with fail
  go_loopw [10] (fun i wr => ∃ k : Nat, k ≤ fs.length ∧ i = .int .i64 k ∧ Hd (fidx_from (noIs n) fs k) ∧ Hd (BoxN wr w.heap.size [.int .i64 0, .int .i64 0, .int .i64 0, .string ⟨#[]⟩]) ∧ Hd (Below w.heap.size w wr)) (fun i _ => fs.length - (intOf i).toNat)
  case atStart => exact ⟨0, Nat.zero_le _, rfl, fidx_zero _ _, BoxN.new w [.int .i64 0, .int .i64 0, .int .i64 0, .string ⟨#[]⟩] _, below_a1 _⟩
  case round =>
    obtain ⟨k, hk, rfl, hfx, hbx, hbl⟩ := hrel
    obtain ⟨wo, rfl⟩ : ∃ wo : World, wo = wr := ⟨_, rfl⟩
    by_cases hlt : k < fs.length
    · have hltI : (k : Int) < (fs.length : Int) := by omega
      obtain ⟨b1, o1, rfl, C1⟩ := rows_at hrr.out (k := k) (by rw [List.length_map]; omega)
      obtain ⟨f0, f1, f2, f3⟩ := Cells.rowField fs k hlt (C1.mono hbl.out)
      have hgd := hd (show fs.getD k default = fs[k] by rw [List.getD_eq_getElem?_getD, List.getElem?_eq_getElem hlt]; rfl)
      obtain ⟨q, hq⟩ : ∃ q, noIs n fs[k] = q := ⟨_, rfl⟩
      have hhit := hd (fun h => fidx_hit hlt hfx.out h)
      have hnext := hd (fun h => fidx_step hlt hfx.out h)
      generalize fs[k] = y at *
      have hy4 := hd (show BoxN (wo.alloc (.cells #[.int .i64 y.no, .int .i64 y.kind, .int .i64 y.num, .string y.data] 99)) wo.heap.size y.enc from BoxN.new wo y.enc _)
      have hb4 := hd (hbl.out.next (below_a1 wo (a := .cells #[.int .i64 y.no, .int .i64 y.kind, .int .i64 y.num, .string y.data] 99)))
      have hx4 := hd (hbx.out.below (below_a1 wo (a := .cells #[.int .i64 y.no, .int .i64 y.kind, .int .i64 y.num, .string y.data] 99)))
      go_upto_region 4 with (fail)
      have y0 := hy4.out.1 0 _ rfl; have y1 := hy4.out.1 1 _ rfl; have y2 := hy4.out.1 2 _ rfl; have y3 := hy4.out.1 3 _ rfl
      have z0 := hx4.out.1 0 _ rfl; have r0 := hx4.out.2.1 0; have z1 := hx4.out.1 1 _ rfl; have r1 := hx4.out.2.1 1; have z2 := hx4.out.1 2 _ rfl; have r2 := hx4.out.2.1 2; have z3 := hx4.out.1 3 _ rfl; have r3 := hx4.out.2.1 3
      generalize wo.alloc (.cells #[.int .i64 y.no, .int .i64 y.kind, .int .i64 y.num, .string y.data] 99) = w4 at *
      clear f0 f1 f2 f3
      cases q with
      | true =>
        have hnb : (y.no == n) = true := hq
        have hres := hd (hhit.out hq)
        clear hq
        go_wp2_with fail
        refine bodyPost_ret (v := .tuple #[.agg #[.int .i64 y.no, .int .i64 y.kind, .int .i64 y.num, .string y.data], .bool true]) (by simp [results, Try.results164, go_sem, z0, z1, z2, z3]) rfl ⟨y, by rw [hres.out]; simp, fun _ => by rw [hres.out, Int.toNat_natCast, hgd.out], ?_⟩
        exact ((((hb4.out.setCell (by simp) _).setCell (by simp) _).setCell (by simp) _).setCell (by simp) _)
      | false =>
        have hnb : (y.no == n) = false := hq
        have hst := hd (hnext.out hq)
        clear hq
        go_wp2_with fail
        go_roundw
        case rel => exact ⟨k + 1, by omega, by go_num, hst, hx4, hb4⟩
        case measure => simp [intOf]; omega
    · have hltI : ¬ (k : Int) < (fs.length : Int) := by omega
      have hres := hd (fidx_none (by omega) hfx.out)
      have z0 := hbx.out.1 0 _ rfl; have r0 := hbx.out.2.1 0; have z1 := hbx.out.1 1 _ rfl; have r1 := hbx.out.2.1 1; have z2 := hbx.out.1 2 _ rfl; have r2 := hbx.out.2.1 2; have z3 := hbx.out.1 3 _ rfl; have r3 := hbx.out.2.1 3
      go_wp2_with fail
      refine bodyPost_ret (v := .tuple #[.agg #[.int .i64 0, .int .i64 0, .int .i64 0, .string ⟨#[]⟩], .bool false]) (by simp [results, Try.results164, go_sem, z0, z1, z2, z3]) rfl ⟨⟨0, 0, 0, ⟨#[]⟩⟩, by rw [hres.out]; simp, fun h => by rw [hres.out] at h; omega, ?_⟩
      exact ((((hbl.out.setCell (by simp) _).setCell (by simp) _).setCell (by simp) _).setCell (by simp) _)
end Go.Proofs.Ytpkmghllidejhaa

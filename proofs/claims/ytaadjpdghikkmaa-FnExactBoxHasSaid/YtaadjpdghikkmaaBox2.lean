/- Boxes: covers, of the program and of the reference; BoxCovers. -/
import Derived.Test.YtaadjpdghikkmaaBox
import Derived.BigQuiet
import Derived.Deep.QuietTactic
namespace Go.Proofs.Ytaadjpdghikkmaa
open Go.RowKit
set_option linter.unusedVariables false
set_option maxRecDepth 100000

def covBad (x : DSide × DSide) : Bool := decide (x.2.lo < x.1.lo) || decide (x.1.hi < x.2.hi)
def covB (la lb : List DSide) : Bool := !(la.zip lb).any covBad
theorem cov_hit {la lb : List DSide} {k : Nat} (h1 : k < la.length) (h2 : k < lb.length) (h : covBad (la[k], lb[k]) = true) : covB la lb = false := by
  rw [covB, show (la.zip lb).any covBad = true from List.any_eq_true.2 ⟨(la[k], lb[k]), ?_, h⟩]; rfl
  rw [← List.getElem_zip (h := by simp; omega)]
  exact List.getElem_mem _
theorem cov_step {la lb : List DSide} {k : Nat} (h1 : k < la.length) (h2 : k < lb.length) (h : fidx_from covBad (la.zip lb) k) (hp : covBad (la[k], lb[k]) = false) : fidx_from covBad (la.zip lb) (k + 1) :=
  fidx_step (by simp; omega) h (by rw [List.getElem_zip]; exact hp)
theorem cov_none {la lb : List DSide} {k : Nat} (hk : (la.zip lb).length ≤ k) (h : fidx_from covBad (la.zip lb) k) : covB la lb = true := by
  rw [covB, show (la.zip lb).any covBad = false from ?_]; rfl
  rw [List.any_eq_false]; intro x hx
  obtain ⟨i, hi, rfl⟩ := List.getElem_of_mem hx
  rw [h i hi (by omega)]; simp

set_option maxHeartbeats 1600000 in
theorem covers_i (la lb : List DSide) (va vb : Value) (w : World) (hn : la.length = lb.length) (h0 : 0 < la.length) (hl : la.length ≤ 1000000000000) (ha : Sl w va 2 (la.map DSide.enc)) (hb : Sl w vb 2 (lb.map DSide.enc)) :
    Calls Try.prog 66 #[.agg #[va], .agg #[vb]] w (BoolPost (covB la lb) w) := by
  rcases ha.open with ⟨a1, c1, rfl, hr⟩ | ⟨b1, o1, c1, rfl, hr, C1⟩
  · exfalso; have : la = [] := by simpa using hr
    subst this; simp at h0
  rcases hb.open with ⟨a2, c2, rfl, hr2⟩ | ⟨b2, o2, c2, rfl, _, C2⟩
  · exfalso; have : lb = [] := by simpa using hr2
    subst this; rw [List.length_nil] at hn; omega
  clear ha hb
  have hn' := hd hn
  simp only [List.length_map]
  rw [← hn]
  clear hn
  obtain ⟨W, hW⟩ : ∃ W, W = (w.alloc (.cells #[.slice (some ⟨b1, o1, none⟩) la.length c1] 29)).alloc (.cells #[.slice (some ⟨b2, o2, none⟩) la.length c2] 29) := ⟨_, rfl⟩
  have hW0 := hd (show Below w.heap.size w W by rw [hW]; exact below_a2 _)
  have hq1 := hd (show W.cell? ⟨w.heap.size, 0, none⟩ = some (.slice (some ⟨b1, o1, none⟩) la.length c1) by rw [hW]; go_simp)
  have hq2 := hd (show W.cell? ⟨w.heap.size + 1, 0, none⟩ = some (.slice (some ⟨b2, o2, none⟩) la.length c2) by rw [hW]; go_simp)
  replace hW := hd hW
  go_enter Try.func66, Try.ntmps66
  go_wp2
  rw [← hW.out]
  go_loopw [10] (fun i wr => ∃ k : Nat, k ≤ la.length ∧ i = .int .i64 k ∧ Hd (fidx_from covBad (la.zip lb) k) ∧ Hd (Below W.heap.size W wr)) (fun i _ => la.length - (intOf i).toNat)
  case atStart => exact ⟨0, Nat.zero_le _, rfl, fidx_zero _ _, Below.refl _ _⟩
  case round =>
    obtain ⟨k, hk, rfl, hfx, hbl⟩ := hrel
    have hbw := hd (hW0.out.next hbl.out)
    by_cases hlt : k < la.length
    · have hltI : (k : Int) < (la.length : Int) := by omega
      have hlt2 : k < lb.length := by rw [← hn'.out]; exact hlt
      obtain ⟨f0, f1⟩ := Cells.rowSide la k hlt (C1.mono hbw.out)
      obtain ⟨g0, g1⟩ := Cells.rowSide lb k hlt2 (C2.mono hbw.out)
      have q2 := keepCell hbl.out hq2.out
      generalize hx : la[k] = x at *
      generalize hy : lb[k] = y at *
      replace hx := hd hx
      replace hy := hd hy
      cases hp : covBad (x, y) with
      | true =>
        have hres := hd (cov_hit hlt hlt2 (by rw [hx.out, hy.out]; exact hp))
        by_cases d1 : y.lo < x.lo
        · clear hp
          go_wp2_with fail
          have e0 := keepCell (below_a1 wr (a := (.cells #[.int .i64 x.lo, .int .i64 x.hi] 88))) q2
          have e1 := keepCell (below_a1 wr (a := (.cells #[.int .i64 x.lo, .int .i64 x.hi] 88))) g0
          have e2 := keepCell (below_a1 wr (a := (.cells #[.int .i64 x.lo, .int .i64 x.hi] 88))) g1
          have e3 : (wr.alloc (.cells #[.int .i64 x.lo, .int .i64 x.hi] 88)).cell? ⟨wr.heap.size, 0, none⟩ = some (.int .i64 x.lo) := by go_simp
          have e4 : (wr.alloc (.cells #[.int .i64 x.lo, .int .i64 x.hi] 88)).cell? ⟨wr.heap.size, 1, none⟩ = some (.int .i64 x.hi) := by go_simp
          have hbl2 := hd (hbl.out.next (below_a1 wr (a := (.cells #[.int .i64 x.lo, .int .i64 x.hi] 88))))
          have hbw2 := hd (hbw.out.next (below_a1 wr (a := (.cells #[.int .i64 x.lo, .int .i64 x.hi] 88))))
          generalize wr.alloc (.cells #[.int .i64 x.lo, .int .i64 x.hi] 88) = W2 at e0 e1 e2 e3 e4 hbl2 hbw2 ⊢
          clear q2 g0 g1
          go_quiet (fail)
          go_wp2_with fail
          go_ret
          exact ⟨by rw [hres.out]; rfl, below_drewN hbw2.out _⟩
        · have d1' : decide (y.lo < x.lo) = false := by simpa using d1
          have d2' : x.hi < y.hi := by simp [covBad] at hp; omega
          clear d1 hp
          go_wp2_with fail
          have e0 := keepCell (below_a1 wr (a := (.cells #[.int .i64 x.lo, .int .i64 x.hi] 88))) q2
          have e1 := keepCell (below_a1 wr (a := (.cells #[.int .i64 x.lo, .int .i64 x.hi] 88))) g0
          have e2 := keepCell (below_a1 wr (a := (.cells #[.int .i64 x.lo, .int .i64 x.hi] 88))) g1
          have e3 : (wr.alloc (.cells #[.int .i64 x.lo, .int .i64 x.hi] 88)).cell? ⟨wr.heap.size, 0, none⟩ = some (.int .i64 x.lo) := by go_simp
          have e4 : (wr.alloc (.cells #[.int .i64 x.lo, .int .i64 x.hi] 88)).cell? ⟨wr.heap.size, 1, none⟩ = some (.int .i64 x.hi) := by go_simp
          have hbl2 := hd (hbl.out.next (below_a1 wr (a := (.cells #[.int .i64 x.lo, .int .i64 x.hi] 88))))
          have hbw2 := hd (hbw.out.next (below_a1 wr (a := (.cells #[.int .i64 x.lo, .int .i64 x.hi] 88))))
          generalize wr.alloc (.cells #[.int .i64 x.lo, .int .i64 x.hi] 88) = W2 at e0 e1 e2 e3 e4 hbl2 hbw2 ⊢
          clear q2 g0 g1
          go_quiet (fail)
          go_wp2_with fail
          go_ret
          exact ⟨by rw [hres.out]; rfl, below_drewN hbw2.out _⟩
      | false =>
        have h12 : ¬ (y.lo < x.lo) ∧ ¬ (x.hi < y.hi) := by simp [covBad] at hp; omega
        have d1 : decide (y.lo < x.lo) = false := by simp; omega
        have d2 : decide (x.hi < y.hi) = false := by simp; omega
        have hst := cov_step hlt hlt2 hfx.out (by rw [hx.out, hy.out]; exact hp)
        replace hst := hd hst
        clear h12 hp
        go_wp2_with fail
        have e0 := keepCell (below_a1 wr (a := (.cells #[.int .i64 x.lo, .int .i64 x.hi] 88))) q2
        have e1 := keepCell (below_a1 wr (a := (.cells #[.int .i64 x.lo, .int .i64 x.hi] 88))) g0
        have e2 := keepCell (below_a1 wr (a := (.cells #[.int .i64 x.lo, .int .i64 x.hi] 88))) g1
        have e3 : (wr.alloc (.cells #[.int .i64 x.lo, .int .i64 x.hi] 88)).cell? ⟨wr.heap.size, 0, none⟩ = some (.int .i64 x.lo) := by go_simp
        have e4 : (wr.alloc (.cells #[.int .i64 x.lo, .int .i64 x.hi] 88)).cell? ⟨wr.heap.size, 1, none⟩ = some (.int .i64 x.hi) := by go_simp
        have hbl2 := hd (hbl.out.next (below_a1 wr (a := (.cells #[.int .i64 x.lo, .int .i64 x.hi] 88))))
        have hbw2 := hd (hbw.out.next (below_a1 wr (a := (.cells #[.int .i64 x.lo, .int .i64 x.hi] 88))))
        generalize wr.alloc (.cells #[.int .i64 x.lo, .int .i64 x.hi] 88) = W2 at e0 e1 e2 e3 e4 hbl2 hbw2 ⊢
        clear q2 g0 g1
        go_quiet (fail)
        go_wp2_with fail
        go_roundw
        case rel => exact ⟨k + 1, by omega, by go_num, hst.out, below_drewN hbl2.out _⟩
        case measure => simp [intOf]; omega
    · have hres := hd (cov_none (by simp; omega) hfx.out)
      go_wp2_with fail
      go_ret
      exact ⟨by rw [hres.out]; rfl, hbw.out⟩
set_option maxHeartbeats 1600000 in
theorem covers_s (la lb : List DSide) (va vb : Value) (w : World) (hn : la.length = lb.length) (h0 : 0 < la.length) (hl : la.length ≤ 1000000000000) (ha : Sl w va 2 (la.map DSide.enc)) (hb : Sl w vb 2 (lb.map DSide.enc)) :
    Calls Try.prog 65 #[.agg #[va], .agg #[vb]] w (BoolPost (covB la lb) w) := by
  rcases ha.open with ⟨a1, c1, rfl, hr⟩ | ⟨b1, o1, c1, rfl, hr, C1⟩
  · exfalso; have : la = [] := by simpa using hr
    subst this; simp at h0
  rcases hb.open with ⟨a2, c2, rfl, hr2⟩ | ⟨b2, o2, c2, rfl, _, C2⟩
  · exfalso; have : lb = [] := by simpa using hr2
    subst this; rw [List.length_nil] at hn; omega
  clear ha hb
  have hn' := hd hn
  simp only [List.length_map]
  rw [← hn]
  clear hn
  obtain ⟨W, hW⟩ : ∃ W, W = (w.alloc (.cells #[.slice (some ⟨b1, o1, none⟩) la.length c1] 29)).alloc (.cells #[.slice (some ⟨b2, o2, none⟩) la.length c2] 29) := ⟨_, rfl⟩
  have hW0 := hd (show Below w.heap.size w W by rw [hW]; exact below_a2 _)
  have hq1 := hd (show W.cell? ⟨w.heap.size, 0, none⟩ = some (.slice (some ⟨b1, o1, none⟩) la.length c1) by rw [hW]; go_simp)
  have hq2 := hd (show W.cell? ⟨w.heap.size + 1, 0, none⟩ = some (.slice (some ⟨b2, o2, none⟩) la.length c2) by rw [hW]; go_simp)
  replace hW := hd hW
  go_enter Try.func65, Try.ntmps65
  go_wp2
  rw [← hW.out]
  go_loopw [10] (fun i wr => ∃ k : Nat, k ≤ la.length ∧ i = .int .i64 k ∧ Hd (fidx_from covBad (la.zip lb) k) ∧ Hd (Below W.heap.size W wr)) (fun i _ => la.length - (intOf i).toNat)
  case atStart => exact ⟨0, Nat.zero_le _, rfl, fidx_zero _ _, Below.refl _ _⟩
  case round =>
    obtain ⟨k, hk, rfl, hfx, hbl⟩ := hrel
    have hbw := hd (hW0.out.next hbl.out)
    by_cases hlt : k < la.length
    · have hltI : (k : Int) < (la.length : Int) := by omega
      have hlt2 : k < lb.length := by rw [← hn'.out]; exact hlt
      obtain ⟨f0, f1⟩ := Cells.rowSide la k hlt (C1.mono hbw.out)
      obtain ⟨g0, g1⟩ := Cells.rowSide lb k hlt2 (C2.mono hbw.out)
      have q1 := keepCell hbl.out hq1.out
      generalize hx : la[k] = x at *
      generalize hy : lb[k] = y at *
      replace hx := hd hx
      replace hy := hd hy
      cases hp : covBad (x, y) with
      | true =>
        have hres := hd (cov_hit hlt hlt2 (by rw [hx.out, hy.out]; exact hp))
        by_cases d1 : y.lo < x.lo
        · clear hp
          go_wp2_with fail
          have e0 := keepCell (below_a1 wr (a := (.cells #[.int .i64 y.lo, .int .i64 y.hi] 88))) q1
          have e1 := keepCell (below_a1 wr (a := (.cells #[.int .i64 y.lo, .int .i64 y.hi] 88))) f0
          have e2 := keepCell (below_a1 wr (a := (.cells #[.int .i64 y.lo, .int .i64 y.hi] 88))) f1
          have e3 : (wr.alloc (.cells #[.int .i64 y.lo, .int .i64 y.hi] 88)).cell? ⟨wr.heap.size, 0, none⟩ = some (.int .i64 y.lo) := by go_simp
          have e4 : (wr.alloc (.cells #[.int .i64 y.lo, .int .i64 y.hi] 88)).cell? ⟨wr.heap.size, 1, none⟩ = some (.int .i64 y.hi) := by go_simp
          have hbl2 := hd (hbl.out.next (below_a1 wr (a := (.cells #[.int .i64 y.lo, .int .i64 y.hi] 88))))
          have hbw2 := hd (hbw.out.next (below_a1 wr (a := (.cells #[.int .i64 y.lo, .int .i64 y.hi] 88))))
          generalize wr.alloc (.cells #[.int .i64 y.lo, .int .i64 y.hi] 88) = W2 at e0 e1 e2 e3 e4 hbl2 hbw2 ⊢
          clear q1 f0 f1
          go_quiet (fail)
          go_wp2_with fail
          go_ret
          exact ⟨by rw [hres.out]; rfl, below_drewN hbw2.out _⟩
        · have d1' : decide (y.lo < x.lo) = false := by simpa using d1
          have d2' : x.hi < y.hi := by simp [covBad] at hp; omega
          clear d1 hp
          go_wp2_with fail
          have e0 := keepCell (below_a1 wr (a := (.cells #[.int .i64 y.lo, .int .i64 y.hi] 88))) q1
          have e1 := keepCell (below_a1 wr (a := (.cells #[.int .i64 y.lo, .int .i64 y.hi] 88))) f0
          have e2 := keepCell (below_a1 wr (a := (.cells #[.int .i64 y.lo, .int .i64 y.hi] 88))) f1
          have e3 : (wr.alloc (.cells #[.int .i64 y.lo, .int .i64 y.hi] 88)).cell? ⟨wr.heap.size, 0, none⟩ = some (.int .i64 y.lo) := by go_simp
          have e4 : (wr.alloc (.cells #[.int .i64 y.lo, .int .i64 y.hi] 88)).cell? ⟨wr.heap.size, 1, none⟩ = some (.int .i64 y.hi) := by go_simp
          have hbl2 := hd (hbl.out.next (below_a1 wr (a := (.cells #[.int .i64 y.lo, .int .i64 y.hi] 88))))
          have hbw2 := hd (hbw.out.next (below_a1 wr (a := (.cells #[.int .i64 y.lo, .int .i64 y.hi] 88))))
          generalize wr.alloc (.cells #[.int .i64 y.lo, .int .i64 y.hi] 88) = W2 at e0 e1 e2 e3 e4 hbl2 hbw2 ⊢
          clear q1 f0 f1
          go_quiet (fail)
          go_wp2_with fail
          go_ret
          exact ⟨by rw [hres.out]; rfl, below_drewN hbw2.out _⟩
      | false =>
        have h12 : ¬ (y.lo < x.lo) ∧ ¬ (x.hi < y.hi) := by simp [covBad] at hp; omega
        have d1 : decide (y.lo < x.lo) = false := by simp; omega
        have d2 : decide (x.hi < y.hi) = false := by simp; omega
        have hst := cov_step hlt hlt2 hfx.out (by rw [hx.out, hy.out]; exact hp)
        replace hst := hd hst
        clear h12 hp
        go_wp2_with fail
        have e0 := keepCell (below_a1 wr (a := (.cells #[.int .i64 y.lo, .int .i64 y.hi] 88))) q1
        have e1 := keepCell (below_a1 wr (a := (.cells #[.int .i64 y.lo, .int .i64 y.hi] 88))) f0
        have e2 := keepCell (below_a1 wr (a := (.cells #[.int .i64 y.lo, .int .i64 y.hi] 88))) f1
        have e3 : (wr.alloc (.cells #[.int .i64 y.lo, .int .i64 y.hi] 88)).cell? ⟨wr.heap.size, 0, none⟩ = some (.int .i64 y.lo) := by go_simp
        have e4 : (wr.alloc (.cells #[.int .i64 y.lo, .int .i64 y.hi] 88)).cell? ⟨wr.heap.size, 1, none⟩ = some (.int .i64 y.hi) := by go_simp
        have hbl2 := hd (hbl.out.next (below_a1 wr (a := (.cells #[.int .i64 y.lo, .int .i64 y.hi] 88))))
        have hbw2 := hd (hbw.out.next (below_a1 wr (a := (.cells #[.int .i64 y.lo, .int .i64 y.hi] 88))))
        generalize wr.alloc (.cells #[.int .i64 y.lo, .int .i64 y.hi] 88) = W2 at e0 e1 e2 e3 e4 hbl2 hbw2 ⊢
        clear q1 f0 f1
        go_quiet (fail)
        go_wp2_with fail
        go_roundw
        case rel => exact ⟨k + 1, by omega, by go_num, hst.out, below_drewN hbl2.out _⟩
        case measure => simp [intOf]; omega
    · have hres := hd (cov_none (by simp; omega) hfx.out)
      go_wp2_with fail
      go_ret
      exact ⟨by rw [hres.out]; rfl, hbw.out⟩
end Go.Proofs.Ytaadjpdghikkmaa

/- Programs: GoodProgram and StepsOf, of the program and of the reference. -/
import Derived.Test.YtbjilpemckoioaaProgram2
import Derived.Deep.Cut
import Derived.Test.YtbjilpemckoioaaBases
namespace Go.Proofs.Ytbjilpemckoioaa
open Go.RowKit
set_option linter.unusedVariables false
set_option maxRecDepth 100000

def instrBad (n : Int) (x : DInstr × Nat) : Bool := !decide (instrP x.1.code x.1.kind x.1.no x.1.num x.1.text x.1.to (x.2 : Int) n)
def goodProg (l : List DInstr) : Bool := decide (1 ≤ l.length ∧ l.length ≤ 60) && !l.zipIdx.any (instrBad l.length)
theorem zi_get {α : Type} {l : List α} {k : Nat} (h : k < l.length) (h' : k < l.zipIdx.length) : l.zipIdx[k] = (l[k], k) := by simp
theorem zi_hit {α : Type} {l : List α} {k : Nat} {p : α × Nat → Bool} (h1 : k < l.length) (h : p (l[k], k) = true) : l.zipIdx.any p = true := by
  refine List.any_eq_true.2 ⟨(l[k], k), ?_, h⟩
  rw [← zi_get h1 (by simpa using h1)]
  exact List.getElem_mem _
theorem zi_step {α : Type} {l : List α} {k : Nat} {p : α × Nat → Bool} (h1 : k < l.length) (h : fidx_from p l.zipIdx k) (hp : p (l[k], k) = false) : fidx_from p l.zipIdx (k + 1) :=
  fidx_step (by simpa using h1) h (by rw [zi_get h1]; exact hp)
theorem any_none {α : Type} {l : List α} {k : Nat} {p : α → Bool} (hk : l.length ≤ k) (h : fidx_from p l k) : l.any p = false := by
  rw [List.any_eq_false]; intro x hx
  obtain ⟨i, hi, rfl⟩ := List.getElem_of_mem hx
  rw [h i hi (by omega)]; simp

set_option maxHeartbeats 1600000 in
theorem GoodProgram_i (l : List DInstr) (v : Value) (w : World) (hl : l.length ≤ 1000000000000) (h : Sl w v 6 (l.map DInstr.enc)) (b : Bool) (hb : goodProg l = b) :
    Calls Try.prog 71 #[.agg #[v]] w (BoolPost b w) := by
  have hbb := hd hb
  clear hb
  by_cases hn : 1 ≤ l.length ∧ l.length ≤ 60
  · rcases h.open with ⟨a1, c1, rfl, hr⟩ | ⟨b1, o1, c1, rfl, hr, C1⟩
    · exfalso; have : l = [] := by simpa using hr
      subst this; simp at hn
    clear h hr
    obtain ⟨hn1, hn2⟩ := hn
    simp only [List.length_map]
    obtain ⟨W, hW⟩ : ∃ W, W = (w.alloc (.cells #[.slice (some ⟨b1, o1, none⟩) l.length c1] 52)) := ⟨_, rfl⟩
    have hW0 := hd (show Below w.heap.size w W by rw [hW]; exact below_a1 _)
    have hq1 := hd (show W.cell? ⟨w.heap.size, 0, none⟩ = some (.slice (some ⟨b1, o1, none⟩) l.length c1) by rw [hW]; go_simp)
    have c0 := hd (fun w => within_i (l.length : Int) 1 60 w true (by simp; omega))
    replace hW := hd hW
    go_enter Try.func71, Try.ntmps71
    go_wp2_with (go_at_call 123; refine (c0.out _).mono ?_; rintro e w' ⟨rfl, rfl⟩)
    rw [← hW.out]
    go_loopw [13] (fun i wr => ∃ k : Nat, k ≤ l.length ∧ i = .int .i64 k ∧ Hd (fidx_from (instrBad l.length) l.zipIdx k) ∧ Hd (Below W.heap.size W wr)) (fun i _ => l.length - (intOf i).toNat)
    case atStart => exact ⟨0, Nat.zero_le _, rfl, fidx_zero _ _, Below.refl _ _⟩
    case round =>
      obtain ⟨k, hk, rfl, hfx, hbl⟩ := hrel
      have hbw := hd (hW0.out.next hbl.out)
      by_cases hlt : k < l.length
      · have hltI : (k : Int) < (l.length : Int) := by omega
        obtain ⟨f0, f1, f2, f3, f4, f5⟩ := Cells.rowInstr l k hlt (C1.mono hbw.out)
        have q1 := keepCell hbl.out hq1.out
        generalize hx : l[k] = x at *
        replace hx := hd hx
        obtain ⟨p, hp⟩ : ∃ p, instrBad l.length (x, k) = p := ⟨_, rfl⟩
        have c1 := hd (fun w => instrOK_i x.code x.kind x.no x.num x.text x.to (k : Int) (l.length : Int) w (by omega) (by omega) (by omega) (by omega))
        rw [show decide (instrP x.code x.kind x.no x.num x.text x.to (k : Int) (l.length : Int)) = !p by rw [← hp]; simp [instrBad]] at c1
        replace hp := hd hp
        go_upto_region 6 with (fail)
        have e0 := keepCell (below_a1 wr (a := (.cells #[.int .i64 x.code, .int .i64 x.kind, .int .i64 x.no, .int .i64 x.num, .string x.text, .int .i64 x.to] 119))) q1
        have hbl2 := hd (hbl.out.next (below_a1 wr (a := (.cells #[.int .i64 x.code, .int .i64 x.kind, .int .i64 x.no, .int .i64 x.num, .string x.text, .int .i64 x.to] 119))))
        have hbw2 := hd (hbw.out.next (below_a1 wr (a := (.cells #[.int .i64 x.code, .int .i64 x.kind, .int .i64 x.no, .int .i64 x.num, .string x.text, .int .i64 x.to] 119))))
        have g0 : (wr.alloc (.cells #[.int .i64 x.code, .int .i64 x.kind, .int .i64 x.no, .int .i64 x.num, .string x.text, .int .i64 x.to] 119)).cell? ⟨wr.heap.size, 0, none⟩ = some (.int .i64 x.code) := by go_simp
        have g1 : (wr.alloc (.cells #[.int .i64 x.code, .int .i64 x.kind, .int .i64 x.no, .int .i64 x.num, .string x.text, .int .i64 x.to] 119)).cell? ⟨wr.heap.size, 1, none⟩ = some (.int .i64 x.kind) := by go_simp
        have g2 : (wr.alloc (.cells #[.int .i64 x.code, .int .i64 x.kind, .int .i64 x.no, .int .i64 x.num, .string x.text, .int .i64 x.to] 119)).cell? ⟨wr.heap.size, 2, none⟩ = some (.int .i64 x.no) := by go_simp
        have g3 : (wr.alloc (.cells #[.int .i64 x.code, .int .i64 x.kind, .int .i64 x.no, .int .i64 x.num, .string x.text, .int .i64 x.to] 119)).cell? ⟨wr.heap.size, 3, none⟩ = some (.int .i64 x.num) := by go_simp
        have g4 : (wr.alloc (.cells #[.int .i64 x.code, .int .i64 x.kind, .int .i64 x.no, .int .i64 x.num, .string x.text, .int .i64 x.to] 119)).cell? ⟨wr.heap.size, 4, none⟩ = some (.string x.text) := by go_simp
        have g5 : (wr.alloc (.cells #[.int .i64 x.code, .int .i64 x.kind, .int .i64 x.no, .int .i64 x.num, .string x.text, .int .i64 x.to] 119)).cell? ⟨wr.heap.size, 5, none⟩ = some (.int .i64 x.to) := by go_simp
        generalize wr.alloc (.cells #[.int .i64 x.code, .int .i64 x.kind, .int .i64 x.no, .int .i64 x.num, .string x.text, .int .i64 x.to] 119) = W2 at e0 hbl2 hbw2 g0 g1 g2 g3 g4 g5 ⊢
        clear q1 f0 f1 f2 f3 f4 f5
        go_wp2_with fail
        refine (c1.out _).mono ?_
        rintro e w3 ⟨rfl, hb3⟩
        have hbl3 := hd (hbl2.out.next hb3)
        have hbw3 := hd (hbw2.out.next hb3)
        clear hb3 e0 g0 g1 g2 g3 g4 g5
        cases p with
        | true =>
          have hres := hd (show b = false by rw [← hbb.out, goodProg, zi_hit hlt (by rw [hx.out]; exact hp.out)]; simp)
          go_wp2_with fail
          go_ret
          exact ⟨by rw [hres.out]; rfl, hbw3.out⟩
        | false =>
          have hst := hd (zi_step hlt hfx.out (by rw [hx.out]; exact hp.out))
          go_wp2_with fail
          go_roundw
          case rel => exact ⟨k + 1, by omega, by go_num, hst.out, hbl3.out⟩
          case measure => simp [intOf]; omega
      · have hres := hd (show b = true by rw [← hbb.out, goodProg, any_none (by simp; omega) hfx.out]; simp; omega)
        go_wp2_with fail
        go_ret
        exact ⟨by rw [hres.out]; rfl, hbw.out⟩
  · have hres := hd (show b = false by rw [← hbb.out, goodProg]; simp; intro h1 h2; omega)
    obtain ⟨a1, c1, rfl, _⟩ := h
    simp only [List.length_map]
    have c0 := hd (fun w => within_i (l.length : Int) 1 60 w false (by simp; omega))
    clear hn
    go_enter Try.func71, Try.ntmps71
    go_wp2_with (go_at_call 123; refine (c0.out _).mono ?_; rintro e w' ⟨rfl, rfl⟩)
    go_ret
    exact ⟨by rw [hres.out]; rfl, below_a1 _⟩

set_option maxHeartbeats 1600000 in
theorem GoodProgram_s (l : List DInstr) (v : Value) (w : World) (hl : l.length ≤ 1000000000000) (h : Sl w v 6 (l.map DInstr.enc)) (b : Bool) (hb : goodProg l = b) :
    Calls Try.prog 68 #[.agg #[v]] w (BoolPost b w) := by
  have hbb := hd hb
  clear hb
  by_cases hn : 1 ≤ l.length ∧ l.length ≤ 60
  · rcases h.open with ⟨a1, c1, rfl, hr⟩ | ⟨b1, o1, c1, rfl, hr, C1⟩
    · exfalso; have : l = [] := by simpa using hr
      subst this; simp at hn
    clear h hr
    obtain ⟨hn1, hn2⟩ := hn
    simp only [List.length_map]
    obtain ⟨W, hW⟩ : ∃ W, W = (w.alloc (.cells #[.slice (some ⟨b1, o1, none⟩) l.length c1] 52)) := ⟨_, rfl⟩
    have hW0 := hd (show Below w.heap.size w W by rw [hW]; exact below_a1 _)
    have c0 := hd (fun w => within_s (l.length : Int) 1 60 w true (by simp; omega))
    replace hW := hd hW
    go_enter Try.func68, Try.ntmps68
    go_wp2_with (go_at_call 118; refine (c0.out _).mono ?_; rintro e w' ⟨rfl, rfl⟩)
    rw [← hW.out]
    go_loopw [15] (fun i wr => ∃ k : Nat, k ≤ l.length ∧ i = .int .i64 k ∧ Hd (fidx_from (instrBad l.length) l.zipIdx k) ∧ Hd (Below W.heap.size W wr)) (fun i _ => l.length - (intOf i).toNat)
    case atStart => exact ⟨0, Nat.zero_le _, rfl, fidx_zero _ _, Below.refl _ _⟩
    case round =>
      obtain ⟨k, hk, rfl, hfx, hbl⟩ := hrel
      have hbw := hd (hW0.out.next hbl.out)
      by_cases hlt : k < l.length
      · have hltI : (k : Int) < (l.length : Int) := by omega
        obtain ⟨f0, f1, f2, f3, f4, f5⟩ := Cells.rowInstr l k hlt (C1.mono hbw.out)
        generalize hx : l[k] = x at *
        replace hx := hd hx
        obtain ⟨q, hq⟩ : ∃ q, decide (instrSP x.code x.kind x.no x.num x.text x.to (k : Int) (l.length : Int)) = q := ⟨_, rfl⟩
        have c1 := hd (fun w => instr_s x.code x.kind x.no x.num x.text x.to (k : Int) (l.length : Int) w (by omega) (by omega) (by omega) (by omega))
        rw [hq] at c1
        replace hq := hd hq
        have hsame := hd (instr_same x.code x.kind x.no x.num x.text x.to (k : Int) (l.length : Int) (by omega) hltI)
        go_upto_region 7 with (fail)
        have hbl2 := hd (hbl.out.next (below_a1 wr (a := (.cells #[.int .i64 x.code, .int .i64 x.kind, .int .i64 x.no, .int .i64 x.num, .string x.text, .int .i64 x.to] 119))))
        have hbw2 := hd (hbw.out.next (below_a1 wr (a := (.cells #[.int .i64 x.code, .int .i64 x.kind, .int .i64 x.no, .int .i64 x.num, .string x.text, .int .i64 x.to] 119))))
        have g0 : (World.alloc wr (.cells #[.int .i64 x.code, .int .i64 x.kind, .int .i64 x.no, .int .i64 x.num, .string x.text, .int .i64 x.to] 119)).cell? ⟨wr.heap.size, 0, none⟩ = some (.int .i64 x.code) := by go_simp
        have g1 : (World.alloc wr (.cells #[.int .i64 x.code, .int .i64 x.kind, .int .i64 x.no, .int .i64 x.num, .string x.text, .int .i64 x.to] 119)).cell? ⟨wr.heap.size, 1, none⟩ = some (.int .i64 x.kind) := by go_simp
        have g2 : (World.alloc wr (.cells #[.int .i64 x.code, .int .i64 x.kind, .int .i64 x.no, .int .i64 x.num, .string x.text, .int .i64 x.to] 119)).cell? ⟨wr.heap.size, 2, none⟩ = some (.int .i64 x.no) := by go_simp
        have g3 : (World.alloc wr (.cells #[.int .i64 x.code, .int .i64 x.kind, .int .i64 x.no, .int .i64 x.num, .string x.text, .int .i64 x.to] 119)).cell? ⟨wr.heap.size, 3, none⟩ = some (.int .i64 x.num) := by go_simp
        have g4 : (World.alloc wr (.cells #[.int .i64 x.code, .int .i64 x.kind, .int .i64 x.no, .int .i64 x.num, .string x.text, .int .i64 x.to] 119)).cell? ⟨wr.heap.size, 4, none⟩ = some (.string x.text) := by go_simp
        have g5 : (World.alloc wr (.cells #[.int .i64 x.code, .int .i64 x.kind, .int .i64 x.no, .int .i64 x.num, .string x.text, .int .i64 x.to] 119)).cell? ⟨wr.heap.size, 5, none⟩ = some (.int .i64 x.to) := by go_simp
        generalize World.alloc wr (.cells #[.int .i64 x.code, .int .i64 x.kind, .int .i64 x.no, .int .i64 x.num, .string x.text, .int .i64 x.to] 119) = W2 at hbl2 hbw2 g0 g1 g2 g3 g4 g5 ⊢
        clear f0 f1 f2 f3 f4 f5
        go_wp2_with fail
        refine (c1.out _).mono ?_
        rintro e w3 ⟨rfl, hb3⟩
        have hbl3 := hd (hbl2.out.next hb3)
        have hbw3 := hd (hbw2.out.next hb3)
        have e0 := keepCell hb3 g0
        clear hb3 g0 g1 g2 g3 g4 g5
        cases q with
        | false =>
          have hp : instrBad l.length (x, k) = true := by
            have h1 := hq.out; have h2 := hsame.out
            simp only [decide_eq_false_iff_not] at h1
            simp only [instrBad, Bool.not_eq_true', decide_eq_false_iff_not]
            exact fun h => h1 (h2.2 h).1
          have hres := hd (show b = false by rw [← hbb.out, goodProg, zi_hit hlt (by rw [hx.out]; exact hp)]; simp)
          clear hp
          go_wp2_with fail
          go_ret
          exact ⟨by rw [hres.out]; rfl, hbw3.out⟩
        | true =>
          have h1 : instrSP x.code x.kind x.no x.num x.text x.to (k : Int) (l.length : Int) := by simpa using hq.out
          by_cases hlast : (k : Int) = (l.length : Int) - 1 ∧ ¬ x.code = 5
          · have hp : instrBad l.length (x, k) = true := by
              simp only [instrBad, Bool.not_eq_true', decide_eq_false_iff_not]
              exact fun h => (hsame.out.2 h).2 hlast
            have hres := hd (show b = false by rw [← hbb.out, goodProg, zi_hit hlt (by rw [hx.out]; exact hp)]; simp)
            have t1 : ((k : Int) == (l.length : Int) - 1) = true := by simpa using hlast.1
            have t2 : (x.code == 5) = false := by simpa using hlast.2
            clear hp h1 hlast
            go_wp2_with fail
            go_ret
            exact ⟨by rw [hres.out]; rfl, hbw3.out⟩
          · have hp : instrBad l.length (x, k) = false := by
              simp only [instrBad, Bool.not_eq_false', decide_eq_true_eq]
              exact hsame.out.1 ⟨h1, hlast⟩
            have hst := hd (zi_step hlt hfx.out (by rw [hx.out]; exact hp))
            clear hp h1
            by_cases t0 : (k : Int) = (l.length : Int) - 1
            · have t1 : ((k : Int) == (l.length : Int) - 1) = true := by simpa using t0
              have t2 : (x.code == 5) = true := by simp; omega
              clear hlast t0
              go_wp2_with fail
              go_roundw
              case rel => exact ⟨k + 1, by omega, by go_num, hst.out, hbl3.out⟩
              case measure => simp [intOf]; omega
            · have t1 : ((k : Int) == (l.length : Int) - 1) = false := by simpa using t0
              clear hlast t0
              go_wp2_with fail
              go_roundw
              case rel => exact ⟨k + 1, by omega, by go_num, hst.out, hbl3.out⟩
              case measure => simp [intOf]; omega
      · have hres := hd (show b = true by rw [← hbb.out, goodProg, any_none (by simp; omega) hfx.out]; simp; omega)
        go_wp2_with fail
        go_ret
        exact ⟨by rw [hres.out]; rfl, hbw.out⟩
  · have hres := hd (show b = false by rw [← hbb.out, goodProg]; simp; intro h1 h2; omega)
    obtain ⟨a1, c1, rfl, _⟩ := h
    simp only [List.length_map]
    have c0 := hd (fun w => within_s (l.length : Int) 1 60 w false (by simp; omega))
    clear hn
    go_enter Try.func68, Try.ntmps68
    go_wp2_with (go_at_call 118; refine (c0.out _).mono ?_; rintro e w' ⟨rfl, rfl⟩)
    go_ret
    exact ⟨by rw [hres.out]; rfl, below_a1 _⟩
end Go.Proofs.Ytbjilpemckoioaa

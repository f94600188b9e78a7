/- Fields that rise: risingFields of the program, l5Fields of the reference. -/
import Derived.Test.YtpkmghllidejhaaRead4
import Derived.Deep.QuietTactic
import Derived.BigQuiet
namespace Go.Proofs.Ytpkmghllidejhaa
open Go.RowKit
set_option linter.unusedVariables false
set_option maxRecDepth 100000

def nBad (ns : List Int) (i : Nat) : Bool := decide (0 < i) && decide (ns.getD i 0 ≤ ns.getD (i - 1) 0)
def risNB (ns : List Int) : Bool := (List.range ns.length).all fun i => !nBad ns i
theorem risN_true {ns : List Int} (h : ∀ i, i < ns.length → nBad ns i = false) : risNB ns = true := by
  rw [risNB, List.all_eq_true]
  intro i hi
  rw [h i (by simpa using hi)]; rfl
theorem risN_false {ns : List Int} {k : Nat} (hk : k < ns.length) (h : nBad ns k = true) : risNB ns = false := by
  rw [risNB, List.all_eq_false]
  exact ⟨k, by simpa using hk, by simp [h]⟩
theorem nBad_zero (ns : List Int) : nBad ns 0 = false := by simp [nBad]
theorem nBad_succ {ns : List Int} {j : Nat} (h : j + 1 < ns.length) : nBad ns (j + 1) = decide (ns[j + 1] ≤ ns[j]) := by
  rw [nBad, getD_lt h, Nat.add_sub_cancel, getD_lt (by omega)]; simp
def nosF (l : List DField) : List Int := l.map (·.no)
/-- Whether bytes are rising fields. -/
def rfB (l : List UInt8) : Bool := readB l && risNB (nosF (readFs l))
def rfL (l : List UInt8) : List DPlaced := if rfB l then readL l else []
def rfF (l : List UInt8) : List DField := if rfB l then readFs l else []
theorem rfF_map (l : List UInt8) : rfF l = (rfL l).map (·.f) := by rw [rfF, rfL]; split <;> simp [readFs]
theorem rfL_len (l : List UInt8) : (rfL l).length ≤ 40 := by
  rw [rfL]
  split
  · exact readL_len l
  · simp
theorem rfF_len (l : List UInt8) : (rfF l).length ≤ 40 := by rw [rfF_map, List.length_map]; exact rfL_len l
set_option maxHeartbeats 1600000 in
theorem rising_i (s : ByteArray) (w : World) (hs : s.size ≤ 1048576) :
    Calls Try.prog 77 #[.string s] w (OwnBPost 121 5 ((rfL s.data.toList).map DPlaced.enc) (rfB s.data.toList) w) := by
  have c1 := hd (fun w => readPlaced_i s w hs)
  have hlen := readL_len s.data.toList
  obtain ⟨b, hb⟩ : ∃ b, readB s.data.toList = b := ⟨_, rfl⟩
  have hB := hd (show rfB s.data.toList = (b && risNB ((readL s.data.toList).map (fun p => p.f.no))) by rw [rfB, hb, nosF, readFs, List.map_map]; rfl)
  have hL := hd (show rfL s.data.toList = if rfB s.data.toList then readL s.data.toList else [] from rfl)
  rw [hb] at c1
  generalize readL s.data.toList = l at *
  generalize rfB s.data.toList = rb at *
  generalize rfL s.data.toList = rl at *
  clear hb
  cases b with
  | false =>
    have hb2 := hd (show rb = false by rw [hB.out]; rfl)
    have hl2 := hd (show rl = [] by rw [hL.out, hb2.out]; rfl)
    go_enter Try.func77, Try.ntmps77
    go_wp2_with fail
    refine (c1.out _).mono ?_
    rintro e w2 ⟨v2, rfl, ho2, hb3⟩
    replace hb3 := hd hb3
    replace ho2 := hd ho2
    go_wp2_with fail
    go_ret2
    exact ⟨_, by rw [hb2.out]; rfl, by rw [hl2.out]; exact Own.nil, hb3.out⟩
  | true =>
    go_enter Try.func77, Try.ntmps77
    go_wp2_with fail
    refine (c1.out _).mono ?_
    rintro e w2 ⟨v2, rfl, ho2, hb3⟩
    obtain ⟨a1, k1, rfl, hrr⟩ := ho2.sl
    replace hb3 := hd hb3
    replace ho2 := hd ho2
    replace hrr := hd hrr
    simp only [List.length_map] at *
    go_wp2_with fail
    go_loopw [16] (fun i wr => ∃ k : Nat, k ≤ l.length ∧ i = .int .i64 k ∧ Hd (UpTo (nBad (l.map (fun p => p.f.no))) k) ∧ Hd (Below w2.heap.size w2 wr)) (fun i _ => l.length - (intOf i).toNat)
    case atStart => exact ⟨0, Nat.zero_le _, rfl, UpTo.zero _, Below.refl _ _⟩
    case round =>
      obtain ⟨k, hk, rfl, hup, hbl⟩ := hrel
      obtain ⟨wo, rfl⟩ : ∃ wo : World, wo = wr := ⟨_, rfl⟩
      by_cases hlt : k < l.length
      · have hltI : (k : Int) < (l.length : Int) := by omega
        cases k with
        | zero =>
          have hup2 := hd (hup.out.step (nBad_zero _))
          have h00 : decide ((0 : Int) < ((0 : Nat) : Int)) = false := by simp
          go_wp2_with fail
          go_region
          all_goals go_wp2_with fail
          all_goals go_roundw
          case rel => exact ⟨1, by omega, by go_num, hup2, hbl.out.drew⟩
          case measure => simp [intOf]; omega
        | succ j =>
          obtain ⟨b1, o1, rfl, C1⟩ := rows_at hrr.out (k := j) (by rw [List.length_map]; omega)
          obtain ⟨f0, _⟩ := Cells.rowPlaced l j (by omega) (C1.mono hbl.out)
          obtain ⟨g0, _⟩ := Cells.rowPlaced l (j + 1) hlt (C1.mono hbl.out)
          have hn := nBad_succ (ns := l.map (fun p => p.f.no)) (j := j) (by simpa using hlt)
          simp only [List.getElem_map] at hn
          generalize l[j] = x at *
          generalize l[j + 1] = y at *
          have hj0 : (0 : Int) < ((j + 1 : Nat) : Int) := by omega
          have hjw : IntKind.i64.wrap (((j + 1 : Nat) : Int) - 1) = (j : Int) := by rw [IntWalk.i64_in _ (by omega)]; omega
          have hjl : (j : Int) < (l.length : Int) := by omega
          by_cases hge : y.f.no ≤ x.f.no
          · have hb2 := hd (show rb = false by rw [hB.out, risN_false (by simpa using hlt) (by rw [hn]; simpa using hge)]; rfl)
            have hl2 := hd (show rl = [] by rw [hL.out, hb2.out]; rfl)
            clear hn
            go_wp2_with fail
            go_quiet (fail)
            go_wp2_with fail
            go_ret2
            exact ⟨_, by rw [hb2.out]; rfl, by rw [hl2.out]; exact Own.nil, hb3.out.next (below_drewN hbl.out _)⟩
          · have hup2 := hd (hup.out.step (by rw [hn]; simpa using hge))
            clear hn
            go_wp2_with fail
            go_quiet (fail)
            go_wp2_with fail
            go_roundw
            case rel => exact ⟨j + 1 + 1, by omega, by go_num, hup2, below_drewN hbl.out _⟩
            case measure => simp [intOf]; omega
      · have hltI : ¬ (k : Int) < (l.length : Int) := by omega
        have hb2 := hd (show rb = true by rw [hB.out, risN_true (fun i hi => hup.out i (by rw [List.length_map] at hi; omega))]; rfl)
        have hl2 := hd (show rl = l by rw [hL.out, hb2.out]; rfl)
        go_wp2_with fail
        go_ret2
        exact ⟨_, by rw [hb2.out]; rfl, by rw [hl2.out]; exact ho2.out.below hbl.out, hb3.out.next hbl.out⟩
end Go.Proofs.Ytpkmghllidejhaa

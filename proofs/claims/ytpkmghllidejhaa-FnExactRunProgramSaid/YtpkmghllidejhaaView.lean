/- l5Fields and l5Pick of the reference. -/
import Derived.Test.YtpkmghllidejhaaRis
import Derived.Deep.QuietTactic
import Derived.BigQuiet
namespace Go.Proofs.Ytpkmghllidejhaa
open Go.RowKit
set_option linter.unusedVariables false
set_option maxRecDepth 100000
set_option maxHeartbeats 1600000 in
theorem fields5_s (s : ByteArray) (w : World) (hs : s.size ≤ 1048576) :
    Calls Try.prog 73 #[.string s] w (OwnBPost 99 4 ((rfF s.data.toList).map DField.enc) (rfB s.data.toList) w) := by
  have c1 := hd (fun w => ReadFields_so s w hs _ rfl _ rfl)
  have hlen := readFs_len s.data.toList
  obtain ⟨b, hb⟩ : ∃ b, readB s.data.toList = b := ⟨_, rfl⟩
  have hB := hd (show rfB s.data.toList = (b && risNB ((readFs s.data.toList).map (·.no))) by rw [rfB, hb, nosF])
  have hL := hd (show rfF s.data.toList = if rfB s.data.toList then readFs s.data.toList else [] from rfl)
  rw [hb] at c1
  generalize readFs s.data.toList = l at *
  generalize rfB s.data.toList = rb at *
  generalize rfF s.data.toList = rl at *
  clear hb
  cases b with
  | false =>
    have hb2 := hd (show rb = false by rw [hB.out]; rfl)
    have hl2 := hd (show rl = [] by rw [hL.out, hb2.out]; rfl)
    go_enter Try.func73, Try.ntmps73
    go_wp2_with fail
    refine (c1.out _).mono ?_
    rintro e w2 ⟨v2, rfl, ho2, hb3⟩
    replace hb3 := hd hb3
    replace ho2 := hd ho2
    go_wp2_with fail
    go_ret2
    exact ⟨_, by rw [hb2.out]; rfl, by rw [hl2.out]; exact Own.nil, hb3.out⟩
  | true =>
    go_enter Try.func73, Try.ntmps73
    go_wp2_with fail
    refine (c1.out _).mono ?_
    rintro e w2 ⟨v2, rfl, ho2, hb3⟩
    obtain ⟨a1, k1, rfl, hrr⟩ := ho2.sl
    replace hb3 := hd hb3
    replace ho2 := hd ho2
    replace hrr := hd hrr
    simp only [List.length_map] at *
    go_wp2_with fail
    go_loopw [17] (fun i wr => ∃ k : Nat, k ≤ l.length ∧ i = .int .i64 k ∧ Hd (UpTo (nBad (l.map (·.no))) k) ∧ Hd (Below w2.heap.size w2 wr)) (fun i _ => l.length - (intOf i).toNat)
    case atStart => exact ⟨0, Nat.zero_le _, rfl, UpTo.zero _, Below.refl _ _⟩
    case round =>
      obtain ⟨k, hk, rfl, hup, hbl⟩ := hrel
      obtain ⟨wo, rfl⟩ : ∃ wo : World, wo = wr := ⟨_, rfl⟩
      by_cases hlt : k < l.length
      · have hltI : (k : Int) < (l.length : Int) := by omega
        obtain ⟨b1, o1, rfl, C1⟩ := rows_at hrr.out (k := k) (by rw [List.length_map]; omega)
        obtain ⟨f0, f1, f2, f3⟩ := Cells.rowField l k hlt (C1.mono hbl.out)
        cases k with
        | zero =>
          have hup2 := hd (hup.out.step (nBad_zero _))
          generalize l[0] = x at *
          have f00 : wo.cell? ⟨b1, o1, none⟩ = some (.int .i64 x.no) := by simpa using f0
          have f01 : wo.cell? ⟨b1, o1 + 1, none⟩ = some (.int .i64 x.kind) := by simpa using f1
          have f02 : wo.cell? ⟨b1, o1 + 2, none⟩ = some (.int .i64 x.num) := by simpa using f2
          have f03 : wo.cell? ⟨b1, o1 + 3, none⟩ = some (.string x.data) := by simpa using f3
          have h00 : decide ((0 : Int) < ((0 : Nat) : Int)) = false := by simp
          go_upto_region 7 with (fail)
          have hb4 := hd (hbl.out.next (below_a1 wo (a := .cells #[.int .i64 x.no, .int .i64 x.kind, .int .i64 x.num, .string x.data] 99)))
          go_region
          all_goals go_wp2_with fail
          all_goals go_roundw
          case rel => exact ⟨1, by omega, by go_num, hup2, hb4.out.drew⟩
          case measure => simp [intOf]; omega
        | succ j =>
          obtain ⟨g0, _⟩ := Cells.rowField l j (by omega) (C1.mono hbl.out)
          have hn := nBad_succ (ns := l.map (·.no)) (j := j) (by simpa using hlt)
          simp only [List.getElem_map] at hn
          generalize l[j] = x at *
          generalize l[j + 1] = y at *
          have hj0 : (0 : Int) < ((j + 1 : Nat) : Int) := by omega
          have hjw : IntKind.i64.wrap (((j + 1 : Nat) : Int) - 1) = (j : Int) := by rw [IntWalk.i64_in _ (by omega)]; omega
          have hjl : (j : Int) < (l.length : Int) := by omega
          have hb4 := hd (hbl.out.next (below_a1 wo (a := .cells #[.int .i64 y.no, .int .i64 y.kind, .int .i64 y.num, .string y.data] 99)))
          have hx4 := hd (show BoxN (wo.alloc (.cells #[.int .i64 y.no, .int .i64 y.kind, .int .i64 y.num, .string y.data] 99)) wo.heap.size y.enc from BoxN.new wo y.enc _)
          have hg4 := keepCell (below_a1 wo (a := .cells #[.int .i64 y.no, .int .i64 y.kind, .int .i64 y.num, .string y.data] 99)) g0
          go_upto_region 7 with (fail)
          have p0 := hx4.out.1 0 _ rfl
          generalize wo.alloc (.cells #[.int .i64 y.no, .int .i64 y.kind, .int .i64 y.num, .string y.data] 99) = w4 at *
          clear f0 f1 f2 f3 g0
          by_cases hge : y.no ≤ x.no
          · have hb2 := hd (show rb = false by rw [hB.out, risN_false (by simpa using hlt) (by rw [hn]; simpa using hge)]; rfl)
            have hl2 := hd (show rl = [] by rw [hL.out, hb2.out]; rfl)
            clear hn
            go_quiet (fail)
            go_wp2_with fail
            go_ret2
            exact ⟨_, by rw [hb2.out]; rfl, by rw [hl2.out]; exact Own.nil, hb3.out.next (below_drewN hb4.out _)⟩
          · have hup2 := hd (hup.out.step (by rw [hn]; simpa using hge))
            clear hn
            go_quiet (fail)
            go_wp2_with fail
            go_roundw
            case rel => exact ⟨j + 1 + 1, by omega, by go_num, hup2, below_drewN hb4.out _⟩
            case measure => simp [intOf]; omega
      · have hltI : ¬ (k : Int) < (l.length : Int) := by omega
        have hb2 := hd (show rb = true by rw [hB.out, risN_true (fun i hi => hup.out i (by rw [List.length_map] at hi; omega))]; rfl)
        have hl2 := hd (show rl = l by rw [hL.out, hb2.out]; rfl)
        go_wp2_with fail
        go_ret2
        exact ⟨_, by rw [hb2.out]; rfl, by rw [hl2.out]; exact ho2.out.below hbl.out, hb3.out.next hbl.out⟩
/-- The fields with one of some numbers. -/
def pick (nos : List Int) (want : Bool) (l : List DField) : List DField := l.filter fun f => hasB nos f.no == want
theorem pick_pos {nos : List Int} {q : Bool} {l : List DField} {j : Nat} (hj : j < l.length) (h : hasB nos l[j].no = q) : pick nos q (l.take (j + 1)) = pick nos q (l.take j) ++ [l[j]] := by
  rw [List.take_succ_eq_append_getElem hj, pick, List.filter_append]; simp [pick, h]
theorem pick_neg {nos : List Int} {q : Bool} {l : List DField} {j : Nat} (hj : j < l.length) (h : ¬ hasB nos l[j].no = q) : pick nos q (l.take (j + 1)) = pick nos q (l.take j) := by
  rw [List.take_succ_eq_append_getElem hj, pick, List.filter_append]; simp [pick, h]
theorem pick_len (nos : List Int) (q : Bool) (l : List DField) : (pick nos q l).length ≤ l.length := List.length_filter_le _ _
set_option maxHeartbeats 1600000 in
theorem pick_s (l : List DField) (nos : List Int) (q : Bool) (v u : Value) (w : World) (hl : l.length ≤ 1000000) (hn : nos.length ≤ 1000000000) (h : Sl w v 4 (l.map DField.enc)) (hu : Sl w u 1 (nos.map encI)) :
    Calls Try.prog 76 #[v, u, .bool q] w (OwnVPost 99 4 ((pick nos q l).map DField.enc) w) := by
  have hT := hd hu
  obtain ⟨a0, k0, rfl, hrr⟩ := h
  obtain ⟨a1, k1, rfl, _⟩ := hu
  replace hrr := hd hrr
  simp only [List.length_map] at *
  obtain ⟨i0, hi, hz0, hz1, hz2⟩ := info_parts infoField
  have Hi := hd hi; have Hz0 := hd hz0; have Hz1 := hd hz1; have Hz2 := hd hz2
  clear hi hz0 hz1 hz2
  go_enter Try.func76, Try.ntmps76
  go_wp2_with fail
  go_loopw [7, 12] (fun o i wr => ∃ k : Nat, k ≤ l.length ∧ i = .int .i64 k ∧ Hd (Own wr w.heap.size 99 4 o ((pick nos q (l.take k)).map DField.enc)) ∧ Hd (Below w.heap.size w wr)) (fun _ i _ => l.length - (intOf i).toNat)
  case atStart => exact ⟨0, Nat.zero_le _, rfl, Own.nil, Below.refl _ _⟩
  case round =>
    obtain ⟨k, hk, rfl, hown, hbl⟩ := hrel
    obtain ⟨wo, rfl⟩ : ∃ wo : World, wo = wr := ⟨_, rfl⟩
    by_cases hlt : k < l.length
    · have hltI : (k : Int) < (l.length : Int) := by omega
      obtain ⟨b1, o1, rfl, C1⟩ := rows_at hrr.out (k := k) (by rw [List.length_map]; omega)
      obtain ⟨f0, f1, f2, f3⟩ := Cells.rowField l k hlt (C1.mono hbl.out)
      have hpos := hd (fun h => pick_pos (nos := nos) (q := q) hlt h)
      have hneg := hd (fun h => pick_neg (nos := nos) (q := q) hlt h)
      have hpl := pick_len nos q (l.take k)
      rw [List.length_take] at hpl
      have hpl2 : (pick nos q (l.take k)).length ≤ 1000000 := by omega
      clear hpl
      generalize l[k] = x at *
      obtain ⟨p, hp⟩ : ∃ p, hasB nos x.no = p := ⟨_, rfl⟩
      have c3 := hd (fun w h => has_s nos x.no (.slice a1 nos.length k1) w (by omega) h p hp)
      replace hp := hd hp
      have hb4 := hd (hbl.out.next (below_a1 wo (a := .cells #[.int .i64 x.no, .int .i64 x.kind, .int .i64 x.num, .string x.data] 99)))
      have ho4 := hd (hown.out.below (below_a1 wo (a := .cells #[.int .i64 x.no, .int .i64 x.kind, .int .i64 x.num, .string x.data] 99)))
      have hx4 := hd (show BoxN (wo.alloc (.cells #[.int .i64 x.no, .int .i64 x.kind, .int .i64 x.num, .string x.data] 99)) wo.heap.size x.enc from BoxN.new wo x.enc _)
      go_upto_region 5 with (fail)
      have p0 := hx4.out.1 0 _ rfl; have p1 := hx4.out.1 1 _ rfl; have p2 := hx4.out.1 2 _ rfl; have p3 := hx4.out.1 3 _ rfl
      generalize wo.alloc (.cells #[.int .i64 x.no, .int .i64 x.kind, .int .i64 x.num, .string x.data] 99) = w4 at *
      have hsz4 := hb4.out.size
      clear f0 f1 f2 f3 hx4
      go_wp2_with fail
      refine (c3.out _ (hT.out.mono hb4.out)).mono ?_
      rintro e w3 ⟨rfl, rfl⟩
      by_cases hq : p = q
      · have hqb : (p == q) = true := by simpa using hq
        have hst := hd (hpos.out (by rw [hp.out]; exact hq))
        clear hq
        go_wp2_with (at_builtin; refine wpList_appOwn rfl (.tmp 22) (.tmp 24) 24 rfl w.heap.size 99 i0 _ 4 40 Try.underlying24 Hi.out Hz0.out Hz1.out Hz2.out rfl (by decide) _ ((pick nos q (l.take k)).map DField.enc) [DField.enc x] rfl (ho4.out.below (below_a1 _)) _ 1 1 rfl rfl (one_row rfl) (cells_new _ _ _) (DField.enc_one [x]) (by simp only [List.length_map]; omega) (by decide) (by first | omega | exact Nat.le_refl _ | (simp; done) | (simp; omega)) ?_; intro v5 w5 ho5 hga hva; have hb5 := hd ((hb4.out.next (below_a1 _)).grown hga (by first | omega | exact Nat.le_refl _ | (simp; done) | (simp; omega)) (fun g hg => (ho4.out.lt g hg).1)); replace ho5 := hd (own_snoc ho5); clear hga hva)
        go_roundw
        case rel => exact ⟨k + 1, by omega, by go_num, by rw [hst.out]; exact ho5.out, hb5⟩
        case measure => simp [intOf]; omega
      · have hqb : (p == q) = false := by simpa using hq
        have hst := hd (hneg.out (by rw [hp.out]; exact hq))
        clear hq
        go_wp2_with fail
        go_roundw
        case rel => exact ⟨k + 1, by omega, by go_num, by rw [hst.out]; exact ho4.out, hb4⟩
        case measure => simp [intOf]; omega
    · have hltI : ¬ (k : Int) < (l.length : Int) := by omega
      obtain rfl : k = l.length := by omega
      rw [List.take_length] at hown
      go_wp2_with fail
      go_ret
      exact ⟨_, rfl, hown.out, hbl.out⟩
end Go.Proofs.Ytpkmghllidejhaa

/- having, fieldsOf of the program. -/
import Derived.Test.YtbjilpemckoioaaReads
namespace Go.Proofs.Ytbjilpemckoioaa
open Go.RowKit
set_option linter.unusedVariables false
set_option maxRecDepth 100000
def pickP (nos : List Int) (nt : Bool) (l : List DPlaced) : List DPlaced := l.filter fun p => hasB nos p.f.no != nt
theorem pickP_pos {nos : List Int} {q : Bool} {l : List DPlaced} {j : Nat} (hj : j < l.length) (h : ¬ hasB nos l[j].f.no = q) : pickP nos q (l.take (j + 1)) = pickP nos q (l.take j) ++ [l[j]] := by
  rw [List.take_succ_eq_append_getElem hj, pickP, List.filter_append]; simp [pickP, h]
theorem pickP_neg {nos : List Int} {q : Bool} {l : List DPlaced} {j : Nat} (hj : j < l.length) (h : hasB nos l[j].f.no = q) : pickP nos q (l.take (j + 1)) = pickP nos q (l.take j) := by
  rw [List.take_succ_eq_append_getElem hj, pickP, List.filter_append]; simp [pickP, h]
theorem pickP_len (nos : List Int) (q : Bool) (l : List DPlaced) : (pickP nos q l).length ≤ l.length := List.length_filter_le _ _
theorem pickP_map (nos : List Int) (q : Bool) (l : List DPlaced) : (pickP nos q l).map (·.f) = pick nos (!q) (l.map (·.f)) := by
  induction l with
  | nil => rfl
  | cons x l ih =>
    rw [pickP, pick] at ih ⊢
    simp only [List.filter_cons, List.map_cons]
    rw [show (hasB nos x.f.no == !q) = (hasB nos x.f.no != q) by cases hasB nos x.f.no <;> cases q <;> rfl]
    split
    · rw [List.map_cons, ih]
    · exact ih
set_option maxHeartbeats 1600000 in
theorem having_i (l : List DPlaced) (nos : List Int) (q : Bool) (v u : Value) (w : World) (hl : l.length ≤ 1000000) (hn : nos.length ≤ 1000000000) (h : Sl w v 5 (l.map DPlaced.enc)) (hu : Sl w u 1 (nos.map encI)) :
    Calls Try.prog 92 #[v, u, .bool q] w (OwnVPost 143 5 ((pickP nos q l).map DPlaced.enc) w) := by
  have hT := hd hu
  obtain ⟨a0, k0, rfl, hrr⟩ := h
  obtain ⟨a1, k1, rfl, _⟩ := hu
  replace hrr := hd hrr
  simp only [List.length_map] at *
  obtain ⟨i0, hi, hz0, hz1, hz2⟩ := info_parts infoPlaced
  have Hi := hd hi; have Hz0 := hd hz0; have Hz1 := hd hz1; have Hz2 := hd hz2
  clear hi hz0 hz1 hz2
  go_enter Try.func92, Try.ntmps92
  go_wp2_with fail
  go_loopw [7, 13] (fun o i wr => ∃ k : Nat, k ≤ l.length ∧ i = .int .i64 k ∧ Hd (Own wr w.heap.size 143 5 o ((pickP nos q (l.take k)).map DPlaced.enc)) ∧ Hd (Below w.heap.size w wr)) (fun _ i _ => l.length - (intOf i).toNat)
  case atStart => exact ⟨0, Nat.zero_le _, rfl, own_made w _ _, below_a1 _⟩
  case round =>
    obtain ⟨k, hk, rfl, hown, hbl⟩ := hrel
    obtain ⟨wo, rfl⟩ : ∃ wo : World, wo = wr := ⟨_, rfl⟩
    by_cases hlt : k < l.length
    · have hltI : (k : Int) < (l.length : Int) := by omega
      obtain ⟨b1, o1, rfl, C1⟩ := rows_at hrr.out (k := k) (by rw [List.length_map]; omega)
      obtain ⟨f0, f1, f2, f3, f4⟩ := Cells.rowPlaced l k hlt (C1.mono hbl.out)
      have hpos := hd (fun h => pickP_pos (nos := nos) (q := q) hlt h)
      have hneg := hd (fun h => pickP_neg (nos := nos) (q := q) hlt h)
      have hpl := pickP_len nos q (l.take k)
      rw [List.length_take] at hpl
      have hpl2 : (pickP nos q (l.take k)).length ≤ 1000000 := by omega
      clear hpl
      generalize l[k] = x at *
      obtain ⟨p, hp⟩ : ∃ p, hasB nos x.f.no = p := ⟨_, rfl⟩
      have c3 := hd (fun w h => contains_int nos x.f.no (.slice a1 nos.length k1) w (by omega) h p hp)
      replace hp := hd hp
      have hb4 := hd (hbl.out.next (below_a1 wo (a := .cells #[.int .i64 x.f.no, .int .i64 x.f.kind, .int .i64 x.f.num, .string x.f.data, .int .i64 x.at_] 143)))
      have ho4 := hd (hown.out.below (below_a1 wo (a := .cells #[.int .i64 x.f.no, .int .i64 x.f.kind, .int .i64 x.f.num, .string x.f.data, .int .i64 x.at_] 143)))
      have hx4 := hd (show BoxN (wo.alloc (.cells #[.int .i64 x.f.no, .int .i64 x.f.kind, .int .i64 x.f.num, .string x.f.data, .int .i64 x.at_] 143)) wo.heap.size x.enc from BoxN.new wo x.enc _)
      go_upto_region 5 with (fail)
      have p0 := hx4.out.1 0 _ rfl; have p1 := hx4.out.1 1 _ rfl; have p2 := hx4.out.1 2 _ rfl; have p3 := hx4.out.1 3 _ rfl; have p4 := hx4.out.1 4 _ rfl
      generalize wo.alloc (.cells #[.int .i64 x.f.no, .int .i64 x.f.kind, .int .i64 x.f.num, .string x.f.data, .int .i64 x.at_] 143) = w4 at *
      have hsz4 := hb4.out.size
      clear f0 f1 f2 f3 f4 hx4
      go_wp2_with fail
      refine (c3.out _ (hT.out.mono hb4.out)).mono ?_
      rintro e w3 ⟨rfl, rfl⟩
      by_cases hq : p = q
      · have hst := hd (hneg.out (by rw [hp.out]; exact hq))
        obtain rfl : p = q := hq
        go_wp2_with fail
        go_roundw
        case rel => exact ⟨k + 1, by omega, by go_num, by rw [hst.out]; exact ho4.out, hb4⟩
        case measure => simp [intOf]; omega
      · have hqb : (p == q) = false := by simpa using hq
        have hst := hd (hpos.out (by rw [hp.out]; exact hq))
        clear hq
        go_wp2_with (at_builtin; refine wpList_appOwn rfl (.tmp 24) (.tmp 26) 135 rfl w.heap.size 143 i0 _ 5 48 Try.underlying135 Hi.out Hz0.out Hz1.out Hz2.out rfl (by decide) _ ((pickP nos q (l.take k)).map DPlaced.enc) [DPlaced.enc x] rfl (ho4.out.below (below_a1 _)) _ 1 1 rfl rfl (one_row rfl) (cells_new _ _ _) (DPlaced.enc_one [x]) (by simp only [List.length_map]; omega) (by decide) (by first | omega | exact Nat.le_refl _ | (simp; done) | (simp; omega)) ?_; intro v5 w5 ho5 hga hva; have hb5 := hd ((hb4.out.next (below_a1 _)).grown hga (by first | omega | exact Nat.le_refl _ | (simp; done) | (simp; omega)) (fun g hg => (ho4.out.lt g hg).1)); replace ho5 := hd (own_snoc ho5); clear hga hva)
        go_roundw
        case rel => exact ⟨k + 1, by omega, by go_num, by rw [hst.out]; exact ho5.out, hb5⟩
        case measure => simp [intOf]; omega
    · have hltI : ¬ (k : Int) < (l.length : Int) := by omega
      obtain rfl : k = l.length := by omega
      rw [List.take_length] at hown
      go_wp2_with fail
      go_ret
      exact ⟨_, rfl, hown.out, hbl.out⟩
set_option maxHeartbeats 1600000 in
theorem fieldsOf_i (l : List DPlaced) (v : Value) (w : World) (hl : l.length ≤ 1000000) (h : Sl w v 5 (l.map DPlaced.enc)) (m : List DField) (hm : l.map (·.f) = m) :
    Calls Try.prog 97 #[v] w (OwnVPost 141 4 (m.map DField.enc) w) := by
  have hml : m.length = l.length := by rw [← hm, List.length_map]
  have hmk := hd (fun k (hk : k < l.length) => (show (m.map DField.enc)[k]? = some (l[k].f.enc) by rw [← hm]; simp [hk]))
  clear hm
  replace hml := hd hml
  obtain ⟨a1, k1, rfl, hrr⟩ := h
  replace hrr := hd hrr
  simp only [List.length_map] at *
  obtain ⟨i0, hi, hz0, hz1, hz2⟩ := info_parts infoField
  have Hi := hd hi; have Hz0 := hd hz0; have Hz1 := hd hz1; have Hz2 := hd hz2
  have hby : i0.bytes * l.length ≤ 281474976710656 := by rw [hz2]; omega
  clear hi hz0 hz1 hz2
  have hls := hd (DField.enc_len m)
  go_enter Try.func97, Try.ntmps97
  go_wp2_with (at_make; refine wpList_make_full _ rfl (.tmp 7) (.tmp 7) 81 rfl w.heap.size 141 i0 _ 4 Try.underlying81 Hi.out Hz0.out Hz1.out .i64 .i64 _ _ l.length rfl rfl rfl rfl hby (by unfold maxLen; omega) (Nat.le_refl _) ?_; intro w3 ho hg; replace ho := hd ho; replace hg := hd hg)
  go_loopw [11] (fun i wr => ∃ (k : Nat) (xs : List Value), k ≤ l.length ∧ i = .int .i64 k ∧ Hd (wr.ownsRow w.heap.size 141 4 (.slice (some ⟨w.heap.size, 0, none⟩) l.length l.length) l.length xs) ∧ Hd (Pre 4 k (m.map DField.enc) xs) ∧ Hd (Below w.heap.size w wr)) (fun i _ => l.length - (intOf i).toNat)
  case atStart => exact ⟨0, _, Nat.zero_le _, rfl, ho.out, Pre.zero, grownBy_below hg.out⟩
  case round =>
    obtain ⟨k, xs, hk, rfl, ho2, hp, hbl⟩ := hrel
    obtain ⟨wo, rfl⟩ : ∃ wo : World, wo = wr := ⟨_, rfl⟩
    by_cases hlt : k < l.length
    · have hltI : (k : Int) < (l.length : Int) := by omega
      obtain ⟨b1, o1, rfl, C1⟩ := rows_at hrr.out (k := k) (by simpa using hlt)
      obtain ⟨f0, f1, f2, f3, f4⟩ := Cells.rowPlaced l k hlt (C1.mono hbl.out)
      have hrow := hd (hmk.out k hlt)
      generalize l[k] = x at *
      have hxl : xs.length = l.length * 4 := by have := ho2.out.1; exact this
      have hX := hd (show BoxN (wo.alloc (.cells #[.int .i64 x.f.no, .int .i64 x.f.kind, .int .i64 x.f.num, .string x.f.data, .int .i64 x.at_] 143)) wo.heap.size [.int .i64 x.f.no, .int .i64 x.f.kind, .int .i64 x.f.num, .string x.f.data, .int .i64 x.at_] from BoxN.new wo x.enc 143)
      have ho3 := hd (ownsRow_below0 ho2.out (below_a1 wo (a := .cells #[.int .i64 x.f.no, .int .i64 x.f.kind, .int .i64 x.f.num, .string x.f.data, .int .i64 x.at_] 143)))
      have hb3 := hd (hbl.out.next (below_a1 wo (a := .cells #[.int .i64 x.f.no, .int .i64 x.f.kind, .int .i64 x.f.num, .string x.f.data, .int .i64 x.at_] 143)))
      go_upto_region 5 with (fail)
      have g0 := hX.out.1 0 _ rfl; have g1 := hX.out.1 1 _ rfl; have g2 := hX.out.1 2 _ rfl; have g3 := hX.out.1 3 _ rfl; have g4 := hX.out.1 4 _ rfl
      generalize wo.alloc (.cells #[.int .i64 x.f.no, .int .i64 x.f.kind, .int .i64 x.f.num, .string x.f.data, .int .i64 x.at_] 143) = w4 at *
      clear f0 f1 f2 f3 f4 hX
      have q0 : w4.cell? ⟨w.heap.size, k * 4, none⟩ = some (xs[k * 4]'(by omega)) := by rw [ho3.out.cellAt _ (by omega)]; exact List.getElem?_eq_getElem (by omega)
      have r0 : w4.frozen? ⟨w.heap.size, k * 4, none⟩ = false := ho3.out.frozenAt _
      have q1 : w4.cell? ⟨w.heap.size, k * 4 + 1, none⟩ = some (xs[k * 4 + 1]'(by omega)) := by rw [ho3.out.cellAt _ (by omega)]; exact List.getElem?_eq_getElem (by omega)
      have r1 : w4.frozen? ⟨w.heap.size, k * 4 + 1, none⟩ = false := ho3.out.frozenAt _
      have q2 : w4.cell? ⟨w.heap.size, k * 4 + 2, none⟩ = some (xs[k * 4 + 2]'(by omega)) := by rw [ho3.out.cellAt _ (by omega)]; exact List.getElem?_eq_getElem (by omega)
      have r2 : w4.frozen? ⟨w.heap.size, k * 4 + 2, none⟩ = false := ho3.out.frozenAt _
      have q3 : w4.cell? ⟨w.heap.size, k * 4 + 3, none⟩ = some (xs[k * 4 + 3]'(by omega)) := by rw [ho3.out.cellAt _ (by omega)]; exact List.getElem?_eq_getElem (by omega)
      have r3 : w4.frozen? ⟨w.heap.size, k * 4 + 3, none⟩ = false := ho3.out.frozenAt _
      have hst := ownsRow_setCells x.f.enc _ _ (k * 4) ho3.out
      have hpp := hd (hp.out.step hls.out hrow.out (by omega))
      have hst1 := hd hst.1
      have hst2 := hd hst.2
      clear hst ho3
      go_wp2_with fail
      go_roundw
      case rel => exact ⟨k + 1, _, by omega, by go_num, hst1.out, hpp, hb3.out.grown hst2.out hb3.out.size (by intro j hj; cases hj; exact Nat.le_refl _)⟩
      case measure => simp [intOf]; omega
    · have hltI : ¬ (k : Int) < (l.length : Int) := by omega
      obtain rfl : k = l.length := by omega
      go_wp2_with fail
      go_ret
      exact ⟨_, rfl, ⟨hls.out, xs, by rw [List.length_map, hml.out]; exact ho2.out, by rw [List.length_map, hml.out]; exact hp.out⟩, hbl.out⟩
end Go.Proofs.Ytbjilpemckoioaa

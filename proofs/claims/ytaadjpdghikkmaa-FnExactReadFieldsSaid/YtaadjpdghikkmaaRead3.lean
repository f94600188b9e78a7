/- ReadFields of the program. -/
import Derived.Test.YtaadjpdghikkmaaRead2
import Derived.Test.YtaadjpdghikkmaaNos
namespace Go.Proofs.Ytaadjpdghikkmaa
open Go.RowKit
set_option linter.unusedVariables false
set_option maxRecDepth 100000
def readFs (l : List UInt8) : List DField := (readL l).map (·.f)
theorem readL_false {l : List UInt8} (h : readB l = false) : readL l = [] := by
  rw [readB] at h; rw [readL]; cases hr : readP l with
  | none => rfl
  | some x => rw [hr] at h; cases h
theorem readFs_len (l : List UInt8) : (readFs l).length ≤ 40 := by rw [readFs, List.length_map]; exact readL_len l
theorem Cells.rowPlaced {w : World} {b o : Nat} (l : List DPlaced) (k : Nat) (h : k < l.length) (C : Cells w b o 5 (l.map DPlaced.enc)) :
    w.cell? ⟨b, o + k * 5, none⟩ = some (.int .i64 l[k].f.no) ∧ w.cell? ⟨b, o + k * 5 + 1, none⟩ = some (.int .i64 l[k].f.kind) ∧ w.cell? ⟨b, o + k * 5 + 2, none⟩ = some (.int .i64 l[k].f.num) ∧ w.cell? ⟨b, o + k * 5 + 3, none⟩ = some (.string l[k].f.data) ∧ w.cell? ⟨b, o + k * 5 + 4, none⟩ = some (.int .i64 l[k].at_) := by
  have hr : (l.map DPlaced.enc)[k]? = some (l[k].enc) := by simp [h]
  exact ⟨C.2 k _ hr 0 _ rfl, C.2 k _ hr 1 _ rfl, C.2 k _ hr 2 _ rfl, C.2 k _ hr 3 _ rfl, C.2 k _ hr 4 _ rfl⟩
set_option maxHeartbeats 1600000 in
theorem ReadFields_i (s : ByteArray) (w : World) (hs : s.size ≤ 1048576) (b : Bool) (hb : readB s.data.toList = b) (r : List DField) (hr : readFs s.data.toList = r) :
    Calls Try.prog 56 #[.string s] w (SlbPost 119 4 (r.map DField.enc) b w) := by
  have c1 := hd (fun w => readPlaced_i s w hs)
  have hlen := readL_len s.data.toList
  have hr0 := hd hr
  have hrf := hd (fun h => readL_false (l := s.data.toList) h)
  rw [hb] at c1
  rw [readFs] at hr0
  rw [hb] at hrf
  generalize readL s.data.toList = l at *
  clear hb hr
  cases b with
  | false =>
    have hl := hrf.out rfl
    have hr1 := hd (show r = [] by rw [← hr0.out, hl]; rfl)
    clear hl hrf
    go_enter Try.func56, Try.ntmps56
    go_wp2_with fail
    refine (c1.out _).mono ?_
    rintro e w2 ⟨v2, rfl, ho2, hb2⟩
    replace hb2 := hd hb2
    replace ho2 := hd ho2
    go_wp2_with fail
    go_ret2
    exact ⟨_, none, rfl, by rw [hr1.out]; exact OwnR.nil, hb2.out⟩
  | true =>
    clear hrf
    obtain ⟨i0, hi, hz0, hz1, hz2⟩ := info_parts infoField
    have Hi := hd hi; have Hz0 := hd hz0; have Hz1 := hd hz1; have Hz2 := hd hz2
    have hby : i0.bytes * l.length ≤ 281474976710656 := by rw [hz2]; omega
    clear hi hz0 hz1 hz2
    have hrm := hd (show r.map DField.enc = (l.map (·.f)).map DField.enc by rw [← hr0.out])
    have hls := hd (DField.enc_len (l.map (·.f)))
    go_enter Try.func56, Try.ntmps56
    go_wp2_with fail
    refine (c1.out _).mono ?_
    rintro e w2 ⟨v2, rfl, ho2, hb2⟩
    have hS := hd ho2.sl
    obtain ⟨a1, c1, rfl, hrr⟩ := ho2.sl
    replace hrr := hd hrr
    replace hb2 := hd hb2
    clear ho2
    simp only [List.length_map] at *
    have hsz2 := hb2.out.size
    go_wp2_with (at_make; refine wpList_make_full _ rfl (.tmp 17) (.tmp 17) 78 rfl w2.heap.size 119 i0 _ 4 Try.underlying78 Hi.out Hz0.out Hz1.out .i64 .i64 _ _ l.length rfl rfl rfl rfl hby (by unfold maxLen; omega) (Nat.le_refl _) ?_; intro w3 ho hg; replace ho := hd ho; replace hg := hd hg)
    go_loopw [21] (fun i wr => ∃ (k : Nat) (xs : List Value), k ≤ l.length ∧ i = .int .i64 k ∧ Hd (wr.ownsRow w2.heap.size 119 4 (.slice (some ⟨w2.heap.size, 0, none⟩) l.length l.length) l.length xs) ∧ Hd (Pre 4 k ((l.map (·.f)).map DField.enc) xs) ∧ Hd (Below w2.heap.size w2 wr)) (fun i _ => l.length - (intOf i).toNat)
    case atStart => exact ⟨0, _, Nat.zero_le _, rfl, ho.out, Pre.zero, grownBy_below hg.out⟩
    case round =>
      obtain ⟨k, xs, hk, rfl, ho2, hp, hbl⟩ := hrel
      obtain ⟨wo, rfl⟩ : ∃ wo : World, wo = wr := ⟨_, rfl⟩
      by_cases hlt : k < l.length
      · have hltI : (k : Int) < (l.length : Int) := by omega
        obtain ⟨b1, o1, rfl, C1⟩ := rows_at hrr.out (k := k) (by simpa using hlt)
        obtain ⟨f0, f1, f2, f3, f4⟩ := Cells.rowPlaced l k hlt (C1.mono hbl.out)
        have hrow := hd (show ((l.map (·.f)).map DField.enc)[k]? = some (l[k].f.enc) by simp [hlt])
        generalize l[k] = x at *
        have hxl : xs.length = l.length * 4 := by have := ho2.out.1; exact this
        have hX := hd (show BoxN (wo.alloc (.cells #[.int .i64 x.f.no, .int .i64 x.f.kind, .int .i64 x.f.num, .string x.f.data, .int .i64 x.at_] 129)) wo.heap.size [.int .i64 x.f.no, .int .i64 x.f.kind, .int .i64 x.f.num, .string x.f.data, .int .i64 x.at_] from BoxN.new wo x.enc 129)
        have ho3 := hd (ownsRow_below0 ho2.out (below_a1 wo (a := .cells #[.int .i64 x.f.no, .int .i64 x.f.kind, .int .i64 x.f.num, .string x.f.data, .int .i64 x.at_] 129)))
        have hb3 := hd (hbl.out.next (below_a1 wo (a := .cells #[.int .i64 x.f.no, .int .i64 x.f.kind, .int .i64 x.f.num, .string x.f.data, .int .i64 x.at_] 129)))
        go_upto_region 8 with (fail)
        have g0 := hX.out.1 0 _ rfl; have g1 := hX.out.1 1 _ rfl; have g2 := hX.out.1 2 _ rfl; have g3 := hX.out.1 3 _ rfl; have g4 := hX.out.1 4 _ rfl
        generalize wo.alloc (.cells #[.int .i64 x.f.no, .int .i64 x.f.kind, .int .i64 x.f.num, .string x.f.data, .int .i64 x.at_] 129) = w4 at *
        clear f0 f1 f2 f3 f4 hX
        have q0 : w4.cell? ⟨w2.heap.size, k * 4, none⟩ = some (xs[k * 4]'(by omega)) := by rw [ho3.out.cellAt _ (by omega)]; exact List.getElem?_eq_getElem (by omega)
        have r0 : w4.frozen? ⟨w2.heap.size, k * 4, none⟩ = false := ho3.out.frozenAt _
        have q1 : w4.cell? ⟨w2.heap.size, k * 4 + 1, none⟩ = some (xs[k * 4 + 1]'(by omega)) := by rw [ho3.out.cellAt _ (by omega)]; exact List.getElem?_eq_getElem (by omega)
        have r1 : w4.frozen? ⟨w2.heap.size, k * 4 + 1, none⟩ = false := ho3.out.frozenAt _
        have q2 : w4.cell? ⟨w2.heap.size, k * 4 + 2, none⟩ = some (xs[k * 4 + 2]'(by omega)) := by rw [ho3.out.cellAt _ (by omega)]; exact List.getElem?_eq_getElem (by omega)
        have r2 : w4.frozen? ⟨w2.heap.size, k * 4 + 2, none⟩ = false := ho3.out.frozenAt _
        have q3 : w4.cell? ⟨w2.heap.size, k * 4 + 3, none⟩ = some (xs[k * 4 + 3]'(by omega)) := by rw [ho3.out.cellAt _ (by omega)]; exact List.getElem?_eq_getElem (by omega)
        have r3 : w4.frozen? ⟨w2.heap.size, k * 4 + 3, none⟩ = false := ho3.out.frozenAt _
        have hst := ownsRow_setCells x.f.enc _ _ (k * 4) ho3.out
        have hpp := hd (hp.out.step hls.out hrow.out (by omega))
        have hst1 := hd hst.1
        have hst2 := hd hst.2
        clear hst ho3
        go_wp2_with fail
        go_roundw
        case rel => exact ⟨k + 1, _, by omega, by go_num, hst1.out, hpp, hb3.out.grown hst2.out hb3.out.size (by intro j hj; cases hj; exact Nat.le_refl _)⟩
        case measure => simp [intOf]; omega
      · have hltI : ¬ (k : Int) < (l.length : Int) := by omega
        obtain rfl : k = l.length := by omega
        go_wp2_with fail
        go_ret2
        refine ⟨_, _, rfl, (Own.weaken (B := w2.heap.size) ?_ hsz2).r, hb2.out.next hbl.out⟩
        rw [hrm.out]
        exact ⟨hls.out, xs, by rw [List.length_map, List.length_map]; exact ho2.out, by rw [List.length_map, List.length_map]; exact hp.out⟩
end Go.Proofs.Ytaadjpdghikkmaa

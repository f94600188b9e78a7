/- readPlaced of the program: the fields of bytes. -/
import Derived.Test.YtpkmghllidejhaaRead
namespace Go.Proofs.Ytpkmghllidejhaa
open Go.RowKit
set_option linter.unusedVariables false
set_option maxRecDepth 100000
theorem infoPlaced : (Try.prog.info? 121).map (fun i => (i.zero, i.size, i.bytes)) = some (some (.agg #[.int .i64 0, .int .i64 0, .int .i64 0, .string ⟨#[]⟩, .int .i64 0]), 5, 48) := by kernel_rfl
/-- A slice of the call's own, and a bool. -/
def OwnBPost (E : TypeId) (sz : Nat) (rows : List (List Value)) (b : Bool) (w : World) (e : Ending) (w' : World) : Prop :=
  ∃ v, e = .returned (.tuple #[v, .bool b]) ∧ Own w' w.heap.size E sz v rows ∧ Below w.heap.size w w'
theorem readB_of {l : List UInt8} (hl : l.length ≤ 400) {r : Option (List DPlaced)} (h : r = readF l (l.length + 1) 0 []) : readB l = r.isSome ∧ readL l = r.getD [] := by
  rw [readB, readL, readP, if_pos hl, ← h]; exact ⟨rfl, rfl⟩
theorem readF_stop {l : List UInt8} {n a : Nat} {acc : List DPlaced} (ha : a < l.length) (h : ¬ (fieldOkAt l a = true ∧ acc.length ≠ 40)) : readF l (n + 1) a acc = none := by
  rw [readF, if_pos ha, if_neg h]
theorem readF_go {l : List UInt8} {n a : Nat} {acc : List DPlaced} (ha : a < l.length) (h1 : fieldOkAt l a = true) (h2 : acc.length ≠ 40) : readF l (n + 1) a acc = readF l n (fieldEnd l a) (acc ++ [⟨fieldAt l a, (a : Nat)⟩]) := by
  rw [readF, if_pos ha, if_pos ⟨h1, h2⟩]
theorem readF_end {l : List UInt8} {n a : Nat} {acc : List DPlaced} (ha : ¬ a < l.length) : readF l (n + 1) a acc = some acc := by
  rw [readF, if_neg ha]
set_option maxHeartbeats 1600000 in
theorem readPlaced_i (s : ByteArray) (w : World) (hs : s.size ≤ 1048576) :
    Calls Try.prog 137 #[.string s] w (OwnBPost 121 5 ((readL s.data.toList).map DPlaced.enc) (readB s.data.toList) w) := by
  have hdl := data_len s
  by_cases h400 : s.size ≤ 400
  · have hg : ¬ (400 : Int) < (s.size : Int) := by omega
    obtain ⟨i0, hi, hz0, hz1, hz2⟩ := info_parts infoPlaced
    have Hi := hd hi; have Hz0 := hd hz0; have Hz1 := hd hz1; have Hz2 := hd hz2
    clear hi hz0 hz1 hz2
    have hrb := hd (fun r h => readB_of (l := s.data.toList) (by omega) (r := r) h)
    have cT := hd (fun a w h => takeField_i s a w hs h)
    have hfe := hd (fun a h => fieldEnd_bd (l := s.data.toList) (a := a) h)
    generalize s.data.toList = l at *
    replace hdl := hd hdl
    go_enter Try.func137, Try.ntmps137
    go_wp2_with fail
    go_loopw [4, 5] (fun o i wr => ∃ (a n : Nat) (acc : List DPlaced), i = .int .i64 a ∧ a ≤ s.size ∧ acc.length ≤ 40 ∧ Hd (Own wr w.heap.size 121 5 o (acc.map DPlaced.enc)) ∧ Hd (readF l (n + 1) a acc = readF l (l.length + 1) 0 []) ∧ l.length - a ≤ n ∧ Hd (Below w.heap.size w wr)) (fun _ i _ => s.size - (intOf i).toNat)
    case atStart => exact ⟨0, l.length, [], rfl, Nat.zero_le _, by simp, own_made w _ _, rfl, by omega, below_a1 _⟩
    case round =>
      obtain ⟨a, n, acc, rfl, hle, hal, hown, hrf, hn, hbl⟩ := hrel
      obtain ⟨wo, rfl⟩ : ∃ wo : World, wo = wr := ⟨_, rfl⟩
      have hsz := hbl.out.size
      by_cases hlt : a < s.size
      · have hltI : (a : Int) < (s.size : Int) := by omega
        have hal2 : a < l.length := by rw [hdl.out]; exact hlt
        have hov := hd hown.out.sl
        go_wp2_with fail
        refine (cT.out a _ (by omega)).mono ?_
        rintro e w3 ⟨x, en, rfl, hx, hb3⟩
        have ho3 := hd ((hown.out.below hb3).below (below_a1 w3 (a := .cells #[.int .i64 x.f.no, .int .i64 x.f.kind, .int .i64 x.f.num, .string x.f.data, .int .i64 x.at_] 121)))
        have hB3 := hd ((hbl.out.next hb3).next (below_a1 w3 (a := .cells #[.int .i64 x.f.no, .int .i64 x.f.kind, .int .i64 x.f.num, .string x.f.data, .int .i64 x.at_] 121)))
        have hX := hd (show BoxN (w3.alloc (.cells #[.int .i64 x.f.no, .int .i64 x.f.kind, .int .i64 x.f.num, .string x.f.data, .int .i64 x.at_] 121)) w3.heap.size [.int .i64 x.f.no, .int .i64 x.f.kind, .int .i64 x.f.num, .string x.f.data, .int .i64 x.at_] from BoxN.new w3 x.enc 121)
        replace hx := hd hx
        clear hb3
        obtain ⟨ao, co, rfl, _⟩ := hov.out
        simp only [List.length_map] at *
        cases hok : fieldOkAt l a with
        | false =>
          have hr := hd (hrb.out none (by rw [← hrf.out]; exact (readF_stop hal2 (fun h => by rw [hok] at h; cases h.1)).symm))
          go_wp2_with fail
          go_ret2
          exact ⟨_, by rw [hr.out.1]; rfl, by rw [hr.out.2]; exact Own.nil, hB3.out⟩
        | true =>
          obtain ⟨hx1, hx2⟩ := hx.out hok
          obtain ⟨he1, he2⟩ := hfe.out a hok
          by_cases h40 : acc.length = 40
          · have h40I : ((acc.length : Int) == 40) = true := by simp; omega
            have hr := hd (hrb.out none (by rw [← hrf.out]; exact (readF_stop hal2 (fun h => h.2 h40)).symm))
            clear hx1 hx2 h40
            go_wp2_with fail
            go_ret2
            exact ⟨_, by rw [hr.out.1]; rfl, by rw [hr.out.2]; exact Own.nil, hB3.out⟩
          · have h40I : ((acc.length : Int) == 40) = false := by simp; omega
            have hrn := hd (readF_go (n := n) hal2 hok h40)
            obtain ⟨m, hm⟩ : ∃ m, n = m + 1 := ⟨n - 1, by omega⟩
            have hrf2 := hd (show readF l (m + 1) (fieldEnd l a) (acc ++ [x]) = readF l (l.length + 1) 0 [] by rw [← hrf.out, hrn.out, hx1, hm])
            have hend := hd (show Value.int .i64 en = .int .i64 (fieldEnd l a : Nat) by rw [hx2])
            replace hx1 := hd hx1
            have hx2h := hd hx2
            clear hx2
            replace hm := hd hm
            go_upto_region 7 with (fail)
            have q0 := hX.out.1 0 _ rfl; have q1 := hX.out.1 1 _ rfl; have q2 := hX.out.1 2 _ rfl; have q3 := hX.out.1 3 _ rfl; have q4 := hX.out.1 4 _ rfl
            change Hd (Own (w3.alloc (.cells #[.int .i64 x.f.no, .int .i64 x.f.kind, .int .i64 x.f.num, .string x.f.data, .int .i64 x.at_] 121)) _ _ _ _ _) at ho3
            clear hX
            have hw4 : w.heap.size ≤ (w3.alloc (.cells #[.int .i64 x.f.no, .int .i64 x.f.kind, .int .i64 x.f.num, .string x.f.data, .int .i64 x.at_] 121)).heap.size := hB3.out.size
            generalize w3.alloc (.cells #[.int .i64 x.f.no, .int .i64 x.f.kind, .int .i64 x.f.num, .string x.f.data, .int .i64 x.at_] 121) = w4 at *
            go_wp2_with (at_builtin; refine wpList_appOwn rfl (.tmp 31) (.tmp 33) 113 rfl w.heap.size 121 i0 _ 5 48 Try.underlying113 Hi.out Hz0.out Hz1.out Hz2.out rfl (by decide) _ ((acc).map DPlaced.enc) [DPlaced.enc x] rfl (ho3.out.below (below_a1 _)) _ 1 1 rfl rfl (one_row rfl) (cells_new _ _ _) (DPlaced.enc_one [x]) (by simp only [List.length_map]; omega) (by decide) (by first | omega | exact Nat.le_refl _ | (simp; done) | (simp; omega)) ?_; intro v5 w5 ho5 hga hva; have hB5 := hd ((hB3.out.next (below_a1 _)).grown hga (by first | omega | exact Nat.le_refl _ | (simp; done) | (simp; omega)) (fun g hg => (ho3.out.lt g hg).1)); replace ho5 := hd (own_snoc ho5); clear hga hva)
            go_roundw
            case rel => exact ⟨fieldEnd l a, m, acc ++ [x], hend.out, by have := hdl.out; omega, by simp; omega, ho5, hrf2, by have := hm.out; omega, hB5⟩
            case measure => have h1 := hx2h.out; have h2 := hdl.out; simp [intOf]; omega
      · have hltI : ¬ (a : Int) < (s.size : Int) := by omega
        have hr := hd (hrb.out (some acc) (by rw [← hrf.out]; exact (readF_end (by have := hdl.out; omega)).symm))
        go_wp2_with fail
        go_ret2
        exact ⟨_, by rw [hr.out.1]; rfl, by rw [hr.out.2]; exact hown.out, hbl.out⟩
  · have hg : (400 : Int) < (s.size : Int) := by omega
    have hr := hd (show readB s.data.toList = false ∧ readL s.data.toList = [] by rw [readB, readL, readP, if_neg (by omega)]; exact ⟨rfl, rfl⟩)
    clear hdl
    go_enter Try.func137, Try.ntmps137
    go_wp2_with fail
    go_ret2
    exact ⟨_, by rw [hr.out.1]; rfl, by rw [hr.out.2]; exact Own.nil, Below.refl _ _⟩
end Go.Proofs.Ytpkmghllidejhaa

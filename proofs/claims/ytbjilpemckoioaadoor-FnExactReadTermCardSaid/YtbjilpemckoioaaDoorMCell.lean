/- The marks of a slice of Cell: laid, and looked at. -/
import Derived.Test.YtbjilpemckoioaaDoorCell
import Derived.Test.YtbjilpemckoioaaDoorBases
import Derived.Test.YtbjilpemckoioaaDoorMarkText
import Derived.Deep.Cut
import Derived.Deep.RegionHeld3
namespace Go.Proofs.YtbjilpemckoioaaDoor
open Go.RowKit
set_option linter.unusedVariables false
set_option maxRecDepth 100000

def mkCell (q : Int) : DCell := ⟨q, (mkS (markT (q + 1))), (q + 1 + 1)⟩
def marksCell (k : Int) (n : Nat) : List DCell := (List.range n).map fun (i : Nat) => mkCell (k + 3 * (i : Int))
theorem marksCell_len (k : Int) (n : Nat) : (marksCell k n).length = n := by simp [marksCell]
theorem marksCell_at (k : Int) (n i : Nat) (h : i < n) : (marksCell k n)[i]'(by rw [marksCell_len]; exact h) = mkCell (k + 3 * (i : Int)) := by simp [marksCell]
def MarkCellPost (B : Nat) (v : Value) (k : Int) (n : Nat) (w : World) (e : Ending) (w' : World) : Prop :=
  e = .returned (.int .i64 (k + 3 * n)) ∧ Own w' B 64 3 v ((marksCell k n).map DCell.enc) ∧ w.grownBy w' v.ownBlock
set_option maxHeartbeats 1600000 in
theorem markCell (v : Value) (rows : List (List Value)) (n : Nat) (hn : rows.length = n) (B : Nat) (k : Int) (w : World) (hk0 : 1 ≤ k) (hk1 : k ≤ 1000000000000) (hl : n ≤ 100000000000) (h : Own w B 64 3 v rows) :
    Calls Tryd.prog 27 #[v, .int .i64 k] w (MarkCellPost B v k n w) := by
  subst hn
  obtain ⟨hls, xs0, ho, hp0⟩ := h
  have ho := hd ho
  rcases ho.out.2 with ⟨rfl, hn⟩ | ⟨g, cap, cur, rfl, hbg, hg, hnc, hr⟩
  · have : rows = [] := List.eq_nil_of_length_eq_zero hn
    subst this
    go_enter Tryd.func27, Tryd.ntmps27
    go_wp2_with fail
    go_loopw [1, 5] (fun q i wr => q = .int .i64 k ∧ i = .int .i64 0 ∧ wr = w) (fun _ _ _ => 0)
    case atStart => exact ⟨rfl, rfl, rfl⟩
    case round =>
      obtain ⟨rfl, rfl, rfl⟩ := hrel
      go_wp2_with fail
      go_ret
      exact ⟨by simp, ⟨by simp [marksCell], [], World.ownsRow_nil _ _ _ _, Pre.zero⟩, grownBy_refl _ _⟩
  · have hls2 := hd (show ∀ r ∈ (marksCell k rows.length).map DCell.enc, r.length = 3 by intro r hr; obtain ⟨a, _, rfl⟩ := List.mem_map.1 hr; rfl)
    generalize hnn : rows.length = n at *
    clear hnn hls hp0 hr
    go_enter Tryd.func27, Tryd.ntmps27
    go_wp2_with fail
    go_loopw [1, 5] (fun q i wr => ∃ (j : Nat) (xs : List Value), j ≤ n ∧ i = .int .i64 j ∧ q = .int .i64 (k + 3 * j) ∧ Hd (wr.ownsRow B 64 3 (.slice (some ⟨g, 0, none⟩) n cap) n xs) ∧ Hd (Pre 3 j ((marksCell k n).map DCell.enc) xs) ∧ Hd (w.grownBy wr (some g))) (fun _ i _ => n - (intOf i).toNat)
    case atStart => exact ⟨0, _, Nat.zero_le _, rfl, by simp, ho.out, Pre.zero, grownBy_refl _ _⟩
    case round =>
      obtain ⟨j, xs, hj, rfl, rfl, ho2, hp, hgr⟩ := hrel
      by_cases hlt : j < n
      · have hltI : (j : Int) < (n : Int) := by omega
        have hxl : xs.length = n * 3 := by have := ho2.out.1; exact this
        have hrow := hd (show ((marksCell k n).map DCell.enc)[j]? = some (mkCell (k + 3 * (j : Int))).enc by
          rw [List.getElem?_map, List.getElem?_eq_getElem (by rw [marksCell_len]; exact hlt), marksCell_at _ _ _ hlt]; rfl)
        have hq0 : 1 ≤ k + 3 * (j : Int) := by omega
        have hq1 : k + 3 * (j : Int) ≤ 2000000000000 := by omega
        have hend := hd (show k + 3 * (j : Int) + 3 = k + 3 * ((j + 1 : Nat) : Int) by omega)
        generalize k + 3 * (j : Int) = q at *
        have q0 : wr.cell? ⟨g, j * 3, none⟩ = some ((xs)[j * 3]'(by omega)) := by rw [ho2.out.cellAt _ (by omega)]; exact List.getElem?_eq_getElem (by omega)
        have r0 : wr.frozen? ⟨g, j * 3, none⟩ = false := ho2.out.frozenAt _
        have q1 : wr.cell? ⟨g, j * 3 + 1, none⟩ = some ((xs)[j * 3 + 1]'(by omega)) := by rw [ho2.out.cellAt _ (by omega)]; exact List.getElem?_eq_getElem (by omega)
        have r1 : wr.frozen? ⟨g, j * 3 + 1, none⟩ = false := ho2.out.frozenAt _
        have q2 : wr.cell? ⟨g, j * 3 + 2, none⟩ = some ((xs)[j * 3 + 2]'(by omega)) := by rw [ho2.out.cellAt _ (by omega)]; exact List.getElem?_eq_getElem (by omega)
        have r2 : wr.frozen? ⟨g, j * 3 + 2, none⟩ = false := ho2.out.frozenAt _
        have hst := ownsRow_setCells [.int .i64 q] _ _ (j * 3) ho2.out
        have hys := setL_len [.int .i64 q] xs (j * 3)
        go_upto_region 6 with (fail)
        have ho3 := hd hst.1
        have hgr3 := hd (grownBy_trans hgr.out hst.2 (.inl rfl))
        clear hst q0 r0 q1 r1 q2 r2
        have hyd := hd (show setL xs (j * 3) [.int .i64 q] = setL xs (j * 3) [.int .i64 q] from rfl)
        generalize hY : setL xs (j * 3) [.int .i64 q] = ys at ho3 hys
        replace hY := hd hY
        clear hyd
        have hW : setCells wr g (j * 3) [.int .i64 q] = (wr).setCell ⟨g, j * 3, none⟩ (.int .i64 q) := rfl
        rw [hW] at ho3 hgr3
        generalize (wr).setCell ⟨g, j * 3, none⟩ (.int .i64 q) = w2 at ho3 hgr3 ⊢
        clear hW
        go_wp2_with fail
        refine (mText _ ((q + 1)) (by omega) (by omega)).mono ?_
        rintro e w3 ⟨rfl, hb3⟩
        have ho4 := hd (ho3.out.kept (below_grownBy hb3 none) (.inr (by simp [Value.ownBlock])))
        have hgr4 := hd (grownBy_trans hgr3.out (below_grownBy hb3 (some g)) (.inl rfl))
        clear hb3
        have q1 : w3.cell? ⟨g, j * 3 + 1, none⟩ = some ((ys)[j * 3 + 1]'(by omega)) := by rw [ho4.out.cellAt _ (by omega)]; exact List.getElem?_eq_getElem (by omega)
        have r1 : w3.frozen? ⟨g, j * 3 + 1, none⟩ = false := ho4.out.frozenAt _
        have q2 : w3.cell? ⟨g, j * 3 + 2, none⟩ = some ((ys)[j * 3 + 2]'(by omega)) := by rw [ho4.out.cellAt _ (by omega)]; exact List.getElem?_eq_getElem (by omega)
        have r2 : w3.frozen? ⟨g, j * 3 + 2, none⟩ = false := ho4.out.frozenAt _
        have hst := ownsRow_setCells [.string (mkS (markT (q + 1))), .int .i64 (q + 1 + 1)] _ _ (j * 3 + 1) ho4.out
        have hfin := hd (show setL ys (j * 3 + 1) [.string (mkS (markT (q + 1))), .int .i64 (q + 1 + 1)] = setL xs (j * 3) (mkCell q).enc by rw [← hY.out]; rfl)
        have hpp := hd (hp.out.step hls2.out hrow.out (by omega))
        have hst1 := hd hst.1
        have hst2 := hd (grownBy_trans hgr4.out hst.2 (.inl rfl))
        rw [hfin.out] at hst1
        clear hst
        go_wp2_with fail
        go_roundw
        case rel => exact ⟨j + 1, _, by omega, by go_num, by rw [← hend.out]; congr 1; omega, hst1.out, hpp, hst2.out⟩
        case measure => simp [intOf]; omega
      · have : j = n := by omega
        subst this
        go_wp2_with fail
        go_ret
        exact ⟨rfl, ⟨hls2.out, xs, by rw [List.length_map, marksCell_len]; exact ho2.out, by rw [List.length_map, marksCell_len]; exact hp.out⟩, hgr.out⟩
def MarkCellRPost (B : Nat) (v : Value) (rb : Option Nat) (k : Int) (n : Nat) (w : World) (e : Ending) (w' : World) : Prop :=
  e = .returned (.int .i64 (k + 3 * n)) ∧ OwnR w' B 64 3 v ((marksCell k n).map DCell.enc) rb ∧ w.grownBy w' rb
theorem markCellR (v : Value) (rows : List (List Value)) (n : Nat) (hn : rows.length = n) (B : Nat) (rb : Option Nat) (k : Int) (w : World) (hk0 : 1 ≤ k) (hk1 : k ≤ 1000000000000) (hl : n ≤ 100000000000) (h : OwnR w B 64 3 v rows rb) :
    Calls Tryd.prog 27 #[v, .int .i64 k] w (MarkCellRPost B v rb k n w) := by
  rcases h with ⟨rfl, h⟩ | ⟨rfl, rfl, a, c, rfl⟩
  · exact (markCell v rows n hn B k w hk0 hk1 hl h).mono fun e w' ⟨h1, h2, h3⟩ => ⟨h1, h2.r, h3⟩
  · subst hn
    go_enter Tryd.func27, Tryd.ntmps27
    go_wp2_with fail
    go_loopw [1, 5] (fun q i wr => q = .int .i64 k ∧ i = .int .i64 0 ∧ wr = w) (fun _ _ _ => 0)
    case atStart => exact ⟨rfl, rfl, rfl⟩
    case round =>
      obtain ⟨rfl, rfl, rfl⟩ := hrel
      go_wp2_with fail
      go_ret
      exact ⟨by simp, .inr ⟨rfl, by simp [marksCell], _, _, rfl⟩, grownBy_refl _ _⟩

theorem markTerm (v : Value) (rows : List (List Value)) (n : Nat) (hn : rows.length = n) (B : Nat) (k : Int) (w : World) (hk0 : 1 ≤ k) (hk1 : k ≤ 1000000000000) (hl : n ≤ 100000000000) (h : Own w B 64 3 v rows) :
    Calls Tryd.prog 12 #[.agg #[v], .int .i64 k] w (MarkCellPost B v k n w) := by
  have hk := hd h
  have hlt := hd h.lt
  obtain ⟨a1, c1, rfl, _⟩ := h.sl
  subst hn
  clear h
  go_enter Tryd.func12, Tryd.ntmps12
  go_wp2_with fail
  refine (markCell _ rows _ rfl B k _ hk0 hk1 hl (hk.out.below (below_a1 _))).mono ?_
  rintro e w2 ⟨rfl, ho, hg⟩
  have ho := hd ho
  have hg := hd (grownBy_trans (below_grownBy (below_a1 w) _) hg (.inl rfl))
  go_wp2_with fail
  go_ret
  exact ⟨rfl, ho.out, hg.out⟩
theorem markTermR (v : Value) (rows : List (List Value)) (n : Nat) (hn : rows.length = n) (B : Nat) (rb : Option Nat) (k : Int) (w : World) (hk0 : 1 ≤ k) (hk1 : k ≤ 1000000000000) (hl : n ≤ 100000000000) (h : OwnR w B 64 3 v rows rb) :
    Calls Tryd.prog 12 #[.agg #[v], .int .i64 k] w (MarkCellRPost B v rb k n w) := by
  have hk := hd h
  obtain ⟨a1, c1, rfl, _⟩ := h.sl
  subst hn
  clear h
  go_enter Tryd.func12, Tryd.ntmps12
  go_wp2_with fail
  refine (markCellR _ rows _ rfl B rb k _ hk0 hk1 hl (hk.out.below (below_a1 _))).mono ?_
  rintro e w2 ⟨rfl, ho, hg⟩
  have ho := hd ho
  have hg := hd (grownBy_trans (below_grownBy (below_a1 w) _) hg (.inl rfl))
  go_wp2_with fail
  go_ret
  exact ⟨rfl, ho.out, hg.out⟩

end Go.Proofs.YtbjilpemckoioaaDoor

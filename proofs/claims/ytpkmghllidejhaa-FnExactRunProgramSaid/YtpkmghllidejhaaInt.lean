/- The laws' helpers on []int: toIntS, eqIntS. -/
import Derived.Test.YtpkmghllidejhaaRows
import Derived.Test.YtpkmghllidejhaaSl
import Derived.Outline
import Derived.Deep.RegionHeld3
namespace Go.Proofs.Ytpkmghllidejhaa
open Go.RowKit
set_option linter.unusedVariables false
set_option maxRecDepth 100000
set_option maxHeartbeats 800000 in
theorem eqIntS (l : List Int) (v1 v2 : Value) (w : World) (hl : l.length ≤ 1000000000000) (h1 : Sl w v1 1 (l.map encI)) (h2 : Sl w v2 1 (l.map encI)) :
    Calls Try.prog 24 #[v1, v2] w (LawTrue w) := by
  rcases h1.open with ⟨a1, c1, rfl, hr⟩ | ⟨b1, o1, c1, rfl, hr, C1⟩
  · obtain ⟨a2, c2, rfl, _⟩ := h2
    obtain rfl : l = [] := by simpa using hr
    go_enter Try.func24, Try.ntmps24
    go_wp2
    go_loopw [5] (fun i wr => i = .int .i64 0 ∧ wr = w) (fun _ _ => 0)
    case atStart => exact ⟨rfl, rfl⟩
    case round =>
      obtain ⟨rfl, rfl⟩ := hrel
      go_wp2_with fail
      go_ret
      exact ⟨rfl, Below.refl _ _⟩
  · rcases h2.open with ⟨a2, c2, rfl, hr2⟩ | ⟨b2, o2, c2, rfl, _, C2⟩
    · exact absurd hr2 hr
    clear h1 h2
    simp only [List.length_map]
    go_enter Try.func24, Try.ntmps24
    go_wp2
    go_loopw [5] (fun i wr => ∃ k : Nat, k ≤ l.length ∧ i = .int .i64 k ∧ Hd (Below w.heap.size w wr)) (fun i _ => l.length - (intOf i).toNat)
    case atStart => exact ⟨0, Nat.zero_le _, rfl, Below.refl _ _⟩
    case round =>
      obtain ⟨k, hk, rfl, hbl⟩ := hrel
      by_cases hlt : k < l.length
      · have f0 := Cells.rowI l k hlt (C1.mono hbl.out)
        have g0 := Cells.rowI l k hlt (C2.mono hbl.out)
        go_wp2_with fail
        go_region_held3 (fun w' => w'.cell? ⟨b1, o1 + k, none⟩ = some (.int .i64 l[k]) ∧ w'.cell? ⟨b2, o2 + k, none⟩ = some (.int .i64 l[k])) (first | go_keep) (first | fail)
        go_wp2_with fail
        go_roundw
        case rel => exact ⟨k + 1, by omega, by go_num, hbl.out.drew⟩
        case measure => simp [intOf]; omega
      · go_wp2_with fail
        go_ret
        exact ⟨rfl, hbl.out⟩
theorem infoInt : (Try.prog.info? 3).map (fun i => (i.zero, i.size, i.bytes)) = some (some (.int .i64 0), 1, 8) := by kernel_rfl
def ToIntPost (l : List Int) (w : World) (e : Ending) (w' : World) : Prop := ∃ v, e = .returned v ∧ Own w' w.heap.size 3 1 v (l.map encI) ∧ Below w.heap.size w w'
set_option maxHeartbeats 800000 in
theorem toIntS (l : List Int) (v1 : Value) (w : World) (hl : l.length ≤ 1000000000) (h1 : Sl w v1 1 (l.map encI)) :
    Calls Try.prog 22 #[v1] w (ToIntPost l w) := by
  obtain ⟨i0, hi, hz0, hz1, hz2⟩ := info_parts infoInt
  have Hi := hd hi; have Hz0 := hd hz0; have Hz1 := hd hz1; have Hz2 := hd hz2
  have hby : i0.bytes * l.length ≤ 281474976710656 := by rw [hz2]; omega
  have hls := hd (encI_len l)
  clear hi hz0 hz1 hz2
  rcases h1.open with ⟨a1, c1, rfl, hr⟩ | ⟨b1, o1, c1, rfl, hr, C1⟩
  · obtain rfl : l = [] := by simpa using hr
    go_enter Try.func22, Try.ntmps22
    go_wp2_with (at_make; refine wpList_make_full _ rfl (.tmp 6) (.tmp 6) 31 rfl w.heap.size 3 i0 _ 1 Try.underlying31 Hi.out Hz0.out Hz1.out .i64 .i64 _ _ 0 rfl rfl rfl rfl (by simp) (by decide) (Nat.le_refl _) ?_; intro w1 ho hg; replace ho := hd ho; replace hg := hd hg)
    go_loopw [4] (fun i wr => i = .int .i64 0 ∧ wr = w1) (fun _ _ => 0)
    case atStart => exact ⟨rfl, rfl⟩
    case round =>
      obtain ⟨rfl, rfl⟩ := hrel
      go_wp2_with fail
      go_ret
      exact ⟨_, rfl, ⟨by simp, _, ho.out, Pre.zero⟩, grownBy_below hg.out⟩
  · clear h1
    simp only [List.length_map]
    go_enter Try.func22, Try.ntmps22
    go_wp2_with (at_make; refine wpList_make_full _ rfl (.tmp 6) (.tmp 6) 31 rfl w.heap.size 3 i0 _ 1 Try.underlying31 Hi.out Hz0.out Hz1.out .i64 .i64 _ _ l.length rfl rfl rfl rfl hby (by unfold maxLen; omega) (Nat.le_refl _) ?_; intro w1 ho hg; replace ho := hd ho; replace hg := hd hg)
    go_loopw [4] (fun i wr => ∃ (k : Nat) (xs : List Value), k ≤ l.length ∧ i = .int .i64 k ∧ Hd (wr.ownsRow w.heap.size 3 1 (.slice (some ⟨w.heap.size, 0, none⟩) l.length l.length) l.length xs) ∧ Hd (Pre 1 k (l.map encI) xs) ∧ Hd (Below w.heap.size w wr)) (fun i _ => l.length - (intOf i).toNat)
    case atStart => exact ⟨0, _, Nat.zero_le _, rfl, ho.out, Pre.zero, grownBy_below hg.out⟩
    case round =>
      obtain ⟨k, xs, hk, rfl, ho2, hp, hbl⟩ := hrel
      by_cases hlt : k < l.length
      · have f0 := Cells.rowI l k hlt (C1.mono hbl.out)
        have hxl : xs.length = l.length * 1 := by have := ho2.out.1; exact this
        have q0 : wr.cell? ⟨w.heap.size, k, none⟩ = some (xs[k]'(by omega)) := by rw [ho2.out.cellAt _ (by omega)]; exact List.getElem?_eq_getElem (by omega)
        have r0 : wr.frozen? ⟨w.heap.size, k, none⟩ = false := ho2.out.frozenAt _
        have hst := ownsRow_setCells (encI l[k]) _ _ (k * 1) ho2.out
        have hpp := hd (hp.out.step hls.out (show (l.map encI)[k]? = some (encI l[k]) by simp [hlt]) (by omega))
        rw [Nat.mul_one] at hst hpp
        have hst1 := hd hst.1
        have hst2 := hd hst.2
        clear hst
        go_wp2_with fail
        go_roundw
        case rel => exact ⟨k + 1, _, by omega, by go_num, hst1.out, hpp, hbl.out.grown hst2.out hbl.out.size (by intro j hj; cases hj; exact Nat.le_refl _)⟩
        case measure => simp [intOf]; omega
      · have : k = l.length := by omega
        subst this
        go_wp2_with fail
        go_ret
        refine ⟨_, rfl, ⟨hls.out, xs, ?_, ?_⟩, hbl.out⟩
        · rw [List.length_map]; exact ho2.out
        · rw [List.length_map]; exact hp.out
end Go.Proofs.Ytpkmghllidejhaa

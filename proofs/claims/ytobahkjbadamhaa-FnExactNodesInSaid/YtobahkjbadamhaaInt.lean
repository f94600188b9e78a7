/- The laws' helpers on []int: toIntS, eqIntS. -/
import Derived.Test.YtobahkjbadamhaaRows
import Derived.Test.YtobahkjbadamhaaSl
import Derived.Outline
import Derived.Deep.RegionHeld3
namespace Go.Proofs.Ytobahkjbadamhaa
open Go.RowKit
set_option linter.unusedVariables false
set_option maxRecDepth 100000
set_option maxHeartbeats 800000 in
theorem eqIntS (l : List Int) (v1 v2 : Value) (w : World) (hl : l.length ≤ 1000000000000) (h1 : Sl w v1 1 (l.map encI)) (h2 : Sl w v2 1 (l.map encI)) :
    Calls Try.prog 46 #[v1, v2] w (LawTrue w) := by
  rcases h1.open with ⟨a1, c1, rfl, hr⟩ | ⟨b1, o1, c1, rfl, hr, C1⟩
  · obtain ⟨a2, c2, rfl, _⟩ := h2
    obtain rfl : l = [] := by simpa using hr
    go_enter Try.func46, Try.ntmps46
    go_wp2
    go_loopw [5] (fun i wr => i = .int .i64 0 ∧ wr = w) (fun _ _ => 0)
    case atStart => exact ⟨rfl, rfl⟩
    case round =>
      obtain ⟨rfl, rfl⟩ := hrel
      go_wp2_with fail
      go_ret
      exact ⟨rfl, Below.refl _ _⟩
  · rcases h2.open with ⟨a2, c2, rfl, hr2⟩ | ⟨b2, o2, c2, rfl, _, C2⟩
    · exact absurd hr2 hr
    clear h1 h2
    simp only [List.length_map]
    go_enter Try.func46, Try.ntmps46
    go_wp2
    go_loopw [5] (fun i wr => ∃ k : Nat, k ≤ l.length ∧ i = .int .i64 k ∧ Hd (Below w.heap.size w wr)) (fun i _ => l.length - (intOf i).toNat)
    case atStart => exact ⟨0, Nat.zero_le _, rfl, Below.refl _ _⟩
    case round =>
      obtain ⟨k, hk, rfl, hbl⟩ := hrel
      by_cases hlt : k < l.length
      · have f0 := Cells.rowI l k hlt (C1.mono hbl.out)
        have g0 := Cells.rowI l k hlt (C2.mono hbl.out)
        go_wp2_with fail
        go_region_held3 (fun w' => w'.cell? ⟨b1, o1 + k, none⟩ = some (.int .i64 l[k]) ∧ w'.cell? ⟨b2, o2 + k, none⟩ = some (.int .i64 l[k])) (first | go_keep) (first | fail)
        go_wp2_with fail
        go_roundw
        case rel => exact ⟨k + 1, by omega, by go_num, hbl.out.drew⟩
        case measure => simp [intOf]; omega
      · go_wp2_with fail
        go_ret
        exact ⟨rfl, hbl.out⟩
theorem infoInt : (Try.prog.info? 3).map (fun i => (i.zero, i.size, i.bytes)) = some (some (.int .i64 0), 1, 8) := by kernel_rfl
def ToIntPost (l : List Int) (w : World) (e : Ending) (w' : World) : Prop := ∃ v, e = .returned v ∧ Own w' w.heap.size 3 1 v (l.map encI) ∧ Below w.heap.size w w'
end Go.Proofs.Ytobahkjbadamhaa

/- The marks of a slice of integers: laid, and looked at. -/
import Derived.Test.YtobahkjbadamhaaBases
namespace Go.Proofs.Ytobahkjbadamhaa
open Go.RowKit
set_option linter.unusedVariables false
set_option maxRecDepth 100000

def marksI (k : Int) (n : Nat) : List Int := (List.range n).map fun (i : Nat) => k + (i : Int)
theorem marksI_len (k : Int) (n : Nat) : (marksI k n).length = n := by simp [marksI]
theorem marksI_at (k : Int) (n i : Nat) (h : i < n) : (marksI k n)[i]'(by rw [marksI_len]; exact h) = k + (i : Int) := by simp [marksI]
def MarkIPost (B : Nat) (v : Value) (k : Int) (n : Nat) (w : World) (e : Ending) (w' : World) : Prop :=
  e = .returned (.int .i64 (k + n)) ∧ Own w' B 3 1 v ((marksI k n).map encI) ∧ w.grownBy w' v.ownBlock
set_option maxHeartbeats 800000 in
theorem markI (v : Value) (rows : List (List Value)) (n : Nat) (hn : rows.length = n) (B : Nat) (k : Int) (w : World) (hk0 : 0 ≤ k) (hk1 : k ≤ 1000000000000) (hl : n ≤ 1000000000000) (h : Own w B 3 1 v rows) :
    Calls Try.prog 47 #[v, .int .i64 k] w (MarkIPost B v k n w) := by
  subst hn
  obtain ⟨hls, xs0, ho, hp0⟩ := h
  have ho := hd ho
  rcases ho.out.2 with ⟨rfl, hn⟩ | ⟨g, cap, cur, rfl, hbg, hg, hnc, hr⟩
  · have : rows = [] := List.eq_nil_of_length_eq_zero hn
    subst this
    go_enter Try.func47, Try.ntmps47
    go_wp2
    go_loopw [1, 5] (fun q i wr => q = .int .i64 k ∧ i = .int .i64 0 ∧ wr = w) (fun _ _ _ => 0)
    case atStart => exact ⟨rfl, rfl, rfl⟩
    case round =>
      obtain ⟨rfl, rfl, rfl⟩ := hrel
      go_wp2
      go_ret
      exact ⟨by simp, ⟨by simp [marksI], [], World.ownsRow_nil _ _ _ _, Pre.zero⟩, grownBy_refl _ _⟩
  · have hls2 := hd (show ∀ r ∈ (marksI k rows.length).map encI, r.length = 1 by intro r hr; obtain ⟨a, _, rfl⟩ := List.mem_map.1 hr; rfl)
    generalize hnn : rows.length = n at *
    clear hnn hls hp0 hr
    go_enter Try.func47, Try.ntmps47
    go_wp2
    go_loopw [1, 5] (fun q i wr => ∃ (j : Nat) (xs : List Value), j ≤ n ∧ i = .int .i64 j ∧ q = .int .i64 (k + j) ∧ Hd (wr.ownsRow B 3 1 (.slice (some ⟨g, 0, none⟩) n cap) n xs) ∧ Hd (Pre 1 j ((marksI k n).map encI) xs) ∧ Hd (w.grownBy wr (some g))) (fun _ i _ => n - (intOf i).toNat)
    case atStart => exact ⟨0, _, Nat.zero_le _, rfl, by simp, ho.out, Pre.zero, grownBy_refl _ _⟩
    case round =>
      obtain ⟨j, xs, hj, rfl, rfl, ho2, hp, hgr⟩ := hrel
      by_cases hlt : j < n
      · have hltI : (j : Int) < (n : Int) := by omega
        have hxl : xs.length = n * 1 := by have := ho2.out.1; exact this
        have q0 : wr.cell? ⟨g, j, none⟩ = some (xs[j]'(by omega)) := by rw [ho2.out.cellAt _ (by omega)]; exact List.getElem?_eq_getElem (by omega)
        have r0 : wr.frozen? ⟨g, j, none⟩ = false := ho2.out.frozenAt _
        have hst := ownsRow_setCells [.int .i64 (k + j)] _ _ (j * 1) ho2.out
        have hpp := hd (hp.out.step hls2.out (show ((marksI k n).map encI)[j]? = some [.int .i64 (k + j)] by
          rw [List.getElem?_map, List.getElem?_eq_getElem (by rw [marksI_len]; exact hlt), marksI_at _ _ _ hlt]; rfl) (by omega))
        rw [Nat.mul_one] at hst hpp
        have hst1 := hd hst.1
        have hst2 := hd hst.2
        clear hst
        go_wp2_with fail
        go_roundw
        case rel => exact ⟨j + 1, _, by omega, by go_num, by congr 1; omega, hst1.out, hpp, grownBy_trans hgr.out hst2.out (.inl rfl)⟩
        case measure => simp [intOf]; omega
      · have : j = n := by omega
        subst this
        go_wp2_with fail
        go_ret
        exact ⟨rfl, ⟨hls2.out, xs, by rw [List.length_map, marksI_len]; exact ho2.out, by rw [List.length_map, marksI_len]; exact hp.out⟩, hgr.out⟩

def MarkIRPost (B : Nat) (v : Value) (rb : Option Nat) (k : Int) (n : Nat) (w : World) (e : Ending) (w' : World) : Prop :=
  e = .returned (.int .i64 (k + n)) ∧ OwnR w' B 3 1 v ((marksI k n).map encI) rb ∧ w.grownBy w' rb
theorem markIR (v : Value) (rows : List (List Value)) (n : Nat) (hn : rows.length = n) (B : Nat) (rb : Option Nat) (k : Int) (w : World) (hk0 : 0 ≤ k) (hk1 : k ≤ 1000000000000) (hl : n ≤ 1000000000000) (h : OwnR w B 3 1 v rows rb) :
    Calls Try.prog 47 #[v, .int .i64 k] w (MarkIRPost B v rb k n w) := by
  rcases h with ⟨rfl, h⟩ | ⟨rfl, rfl, a, c, rfl⟩
  · exact (markI v rows n hn B k w hk0 hk1 hl h).mono fun e w' ⟨h1, h2, h3⟩ => ⟨h1, h2.r, h3⟩
  · subst hn
    go_enter Try.func47, Try.ntmps47
    go_wp2_with fail
    go_loopw [1, 5] (fun q i wr => q = .int .i64 k ∧ i = .int .i64 0 ∧ wr = w) (fun _ _ _ => 0)
    case atStart => exact ⟨rfl, rfl, rfl⟩
    case round =>
      obtain ⟨rfl, rfl, rfl⟩ := hrel
      go_wp2_with fail
      go_ret
      exact ⟨by simp, .inr ⟨rfl, by simp [marksI], _, _, rfl⟩, grownBy_refl _ _⟩
set_option maxHeartbeats 800000 in
theorem heldI (v : Value) (n : Nat) (k : Int) (w : World) (hk0 : 0 ≤ k) (hk1 : k ≤ 1000000000000) (hl : n ≤ 1000000000000) (h : Sl w v 1 ((marksI k n).map encI)) :
    Calls Try.prog 48 #[v, .int .i64 k] w (IntPost (k + n) w) := by
  have hml := marksI_len k n
  obtain ⟨a1, c1, rfl, hr⟩ := h
  replace hr := hd hr
  simp only [List.length_map, marksI_len]
  go_enter Try.func48, Try.ntmps48
  go_wp2_with fail
  go_loopw [1, 5] (fun q i wr => ∃ (j : Nat), j ≤ n ∧ i = .int .i64 j ∧ q = .int .i64 (k + j) ∧ wr = w) (fun _ i _ => n - (intOf i).toNat)
  case atStart => exact ⟨0, Nat.zero_le _, rfl, by simp, rfl⟩
  case round =>
    obtain ⟨j, hj, rfl, rfl, rfl⟩ := hrel
    by_cases hlt : j < n
    · have hltI : (j : Int) < (n : Int) := by omega
      obtain ⟨b1, o1, rfl, C1⟩ : ∃ b o, a1 = some ⟨b, o, none⟩ ∧ Cells wr b o 1 ((marksI k n).map encI) := by
        rcases hr.out with h | ⟨b, o, e, C⟩
        · exfalso
          have h2 := congrArg List.length h
          rw [List.length_map, hml] at h2
          simp at h2; omega
        · exact ⟨b, o, e, C⟩
      have f0 := Cells.rowI (marksI k n) j (by omega) C1
      rw [marksI_at _ _ _ hlt] at f0
      have hq0 : 0 ≤ k + (j : Int) := by omega
      have hq1 : k + (j : Int) ≤ 2000000000000 := by omega
      have hend := hd (show k + (j : Int) + 1 = k + ((j + 1 : Nat) : Int) by omega)
      clear hml C1 hr
      generalize k + (j : Int) = q at *
      go_wp2_with fail
      go_roundw
      case rel => exact ⟨j + 1, by omega, by go_num, by rw [← hend.out], by first | rfl | trivial⟩
      case measure => simp [intOf]; omega
    · have : j = n := by omega
      subst this
      go_wp2_with fail
      go_ret
      exact ⟨rfl, Below.refl _ _⟩
end Go.Proofs.Ytobahkjbadamhaa

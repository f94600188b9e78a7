/- How many cells a term has: size of the program, l6Size of the reference. -/
import Derived.Test.YtbjilpemckoioaaApM
namespace Go.Proofs.Ytbjilpemckoioaa
open Go.RowKit
set_option linter.unusedVariables false
set_option maxRecDepth 100000
set_option maxHeartbeats 1600000 in
theorem size_i (t : K) : ∀ (v : Value) (w : World) (S : Nat → Prop), (∀ q, S q → q < w.heap.size) → countK t ≤ 1000000 → RepY HT w S t v → Calls Try.prog 115 #[v] w (IntPost (countK t : Nat) w) := by
  refine K.ind2 (P := fun t => ∀ (v : Value) (w : World) (S : Nat → Prop), (∀ q, S q → q < w.heap.size) → countK t ≤ 1000000 → RepY HT w S t v → Calls Try.prog 115 #[v] w (IntPost (countK t : Nat) w)) ?_ t
  intro t ih v w S hSw hc h
  have ih := hd ih
  obtain ⟨b, a, c, vs, rfl, hb, hxA, hS, hl, hg⟩ := h.open
  have c2 := hxA 2 _ rfl
  change w.cell? ⟨b, 2, none⟩ = some (.slice a t.parts.length c) at c2
  have hg := hd hg
  have hz := hd (countK_eq t)
  have hcc : countL t.parts ≤ 1000000 := by have := countK_eq t; omega
  have hcp := hd (fun p (hp : p ∈ t.parts) => Nat.le_trans (count_part hp) hcc)
  have hbnd := hd (fun k => countL_le t.parts k)
  clear h hc hxA
  have hpl : t.parts.length ≤ 1000000 := by have := len_count t.parts; omega
  generalize hps : t.parts = ps at *
  replace hps := hd hps
  go_enter Try.func115, Try.ntmps115
  go_wp2_with fail
  go_loopw [3, 11] (fun m i wr => ∃ k : Nat, k ≤ ps.length ∧ i = .int .i64 k ∧ m = .int .i64 (1 + (countL (ps.take k) : Nat)) ∧ Hd (Below w.heap.size w wr)) (fun _ i _ => ps.length - (intOf i).toNat)
  case atStart => exact ⟨0, Nat.zero_le _, rfl, by rw [List.take_zero, countL]; rfl, Below.refl _ _⟩
  case round =>
    obtain ⟨k, hk, rfl, rfl, hbl⟩ := hrel
    obtain ⟨wo, rfl⟩ : ∃ wo : World, wo = wr := ⟨_, rfl⟩
    by_cases hlt : k < ps.length
    · have hltI : (k : Int) < (ps.length : Int) := by omega
      obtain ⟨b1, rfl, hb1, hc1⟩ := hS.at (j := k) (by omega)
      have q := keepCell hbl.out (hc1 k (by omega))
      have hp := hd (RepY.same (SameS.below hbl.out hSw) (fun _ h => h) _ _ (hg.out k hlt (by omega)))
      have hi := hd (ih.out ps[k] (List.getElem_mem hlt) vs[k] wo S (fun q h => Nat.lt_of_lt_of_le (hSw q h) hbl.out.size) (hcp.out _ (List.getElem_mem hlt)) hp.out)
      have htk := countL_take hlt
      have hb9 := hbnd.out (k + 1)
      generalize vs[k] = u at *
      generalize countK ps[k] = n1 at *
      generalize countL (ps.take k) = n0 at *
      replace htk := hd htk
      have hs9 : (n0 : Int) + n1 ≤ 1000000 := by have := htk.out; omega
      clear hc1
      go_wp2_with fail
      refine hi.out.mono ?_
      rintro e w2 ⟨rfl, hb2⟩
      have hbl2 := hd (hbl.out.next hb2)
      clear hb2
      go_wp2_with fail
      go_roundw
      case rel => exact ⟨k + 1, by omega, by go_num, by congr 1; have := htk.out; omega, hbl2⟩
      case measure => simp [intOf]; omega
    · obtain rfl : k = ps.length := by omega
      have hltI : ¬ (ps.length : Int) < (ps.length : Int) := by omega
      rw [List.take_length]
      go_wp2_with fail
      go_ret
      exact ⟨by rw [hz.out, Int.natCast_add]; rfl, hbl.out⟩
set_option maxHeartbeats 1600000 in
theorem size6_s (t : K) : ∀ (r : List Value) (w : World) (S : Nat → Prop), (∀ q, S q → q < w.heap.size) → countK t ≤ 1000000 → RepZ HT 3 w S t r → Calls Try.prog 60 #[.agg r.toArray] w (IntPost (countK t : Nat) w) := by
  refine K.ind2 (P := fun t => ∀ (r : List Value) (w : World) (S : Nat → Prop), (∀ q, S q → q < w.heap.size) → countK t ≤ 1000000 → RepZ HT 3 w S t r → Calls Try.prog 60 #[.agg r.toArray] w (IntPost (countK t : Nat) w)) ?_ t
  intro t ih r w S hSw hc h
  have ih := hd ih
  obtain ⟨a, c, rows, rfl, hS, hl, hg⟩ := h.openT
  have hg := hd hg
  have hz := hd (countK_eq t)
  have hcc : countL t.parts ≤ 1000000 := by have := countK_eq t; omega
  have hcp := hd (fun p (hp : p ∈ t.parts) => Nat.le_trans (count_part hp) hcc)
  have hbnd := hd (fun k => countL_le t.parts k)
  clear h hc
  have hpl : t.parts.length ≤ 1000000 := by have := len_count t.parts; omega
  generalize hps : t.parts = ps at *
  replace hps := hd hps
  generalize t.of = o at *
  generalize t.name = nm at *
  have hX := hd (BoxN.new w [.int .i64 o, .string nm, .slice a ps.length c] 91)
  have hbW := hd (below_a1 w (a := .cells #[.int .i64 o, .string nm, .slice a ps.length c] 91))
  change Hd (BoxN (w.alloc (.cells #[.int .i64 o, .string nm, .slice a ps.length c] 91)) _ _) at hX
  go_enter Try.func60, Try.ntmps60
  go_upto_region 2 with (fail)
  generalize w.alloc (.cells #[.int .i64 o, .string nm, .slice a ps.length c] 91) = W at *
  have x0 := hX.out.1 0 _ rfl; have x1 := hX.out.1 1 _ rfl; have x2 := hX.out.1 2 _ rfl
  go_wp2_with fail
  clear x0 x1 x2
  go_loopw [3, 9] (fun m i wr => ∃ k : Nat, k ≤ ps.length ∧ i = .int .i64 k ∧ m = .int .i64 (1 + (countL (ps.take k) : Nat)) ∧ Hd (Below W.heap.size W wr)) (fun _ i _ => ps.length - (intOf i).toNat)
  case atStart => exact ⟨0, Nat.zero_le _, rfl, by rw [List.take_zero, countL]; rfl, Below.refl _ _⟩
  case round =>
    obtain ⟨k, hk, rfl, rfl, hbl⟩ := hrel
    obtain ⟨wo, rfl⟩ : ∃ wo : World, wo = wr := ⟨_, rfl⟩
    have hbw := hd (hbW.out.next hbl.out)
    by_cases hlt : k < ps.length
    · have hltI : (k : Int) < (ps.length : Int) := by omega
      obtain ⟨b1, rfl, hb1, hc1⟩ := hS.at (j := k) (by omega)
      have hp := RepZ.same (SameS.below hbw.out hSw) (fun _ h => h) _ _ (hg.out k hlt (by omega))
      obtain ⟨ak, ck, rowsk, hrk, hjk⟩ := hp.openT
      clear hjk
      have hck := hc1 k (by omega)
      rw [hrk] at hck hp
      have d0 := keepCell hbw.out (show w.cell? ⟨b1, k * 3, none⟩ = _ from hck 0 _ rfl)
      have d1 := keepCell hbw.out (hck 1 _ rfl)
      have d2 := keepCell hbw.out (hck 2 _ rfl)
      have hi := hd (fun w' (hb : Below wo.heap.size wo w') => ih.out ps[k] (List.getElem_mem hlt) _ w' S (fun q h => Nat.lt_of_lt_of_le (hSw q h) (Nat.le_trans hbw.out.size hb.size)) (hcp.out _ (List.getElem_mem hlt)) (RepZ.same (SameS.below hb (fun q h => Nat.lt_of_lt_of_le (hSw q h) hbw.out.size)) (fun _ h => h) _ _ hp))
      have hba := hd (fun o => below_a1 wo (a := o))
      have htk := countL_take hlt
      have hb9 := hbnd.out (k + 1)
      clear hc1 hck hrk hp
      generalize ps[k] = p at *
      generalize countK p = n1 at *
      generalize countL (ps.take k) = n0 at *
      replace htk := hd htk
      have hs9 : (n0 : Int) + n1 ≤ 1000000 := by have := htk.out; omega
      go_wp2_with fail
      refine (hi.out _ (hba.out _)).mono ?_
      rintro e w2 ⟨rfl, hb2⟩
      have hbl2 := hd (hbl.out.next ((hba.out _).next hb2))
      clear hb2
      go_wp2_with fail
      go_roundw
      case rel => exact ⟨k + 1, by omega, by go_num, by congr 1; have := htk.out; omega, hbl2⟩
      case measure => simp [intOf]; omega
    · obtain rfl : k = ps.length := by omega
      have hltI : ¬ (ps.length : Int) < (ps.length : Int) := by omega
      rw [List.take_length]
      go_wp2_with fail
      go_ret
      exact ⟨by rw [hz.out, Int.natCast_add]; rfl, hbw.out⟩
end Go.Proofs.Ytbjilpemckoioaa

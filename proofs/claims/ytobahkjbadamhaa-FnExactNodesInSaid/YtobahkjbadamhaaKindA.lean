/- Reading a tree of types: holds, names, parts, depth, count of the program. -/
import Derived.Test.YtobahkjbadamhaaRep
import Derived.Test.YtobahkjbadamhaaWire
namespace Go.Proofs.Ytobahkjbadamhaa
open Go.RowKit
set_option linter.unusedVariables false
set_option maxRecDepth 100000
def letters (s : ByteArray) (n : Nat) : Prop := ∀ i (h : i < s.size), i < n → 97 ≤ s[i].toNat ∧ s[i].toNat ≤ 122
theorem name_iff {s : ByteArray} : nameP s ↔ letters s s.size ∧ 1 ≤ s.size ∧ s.size ≤ 10 := by
  rw [nameP]
  constructor
  · rintro ⟨h, h2⟩
    exact ⟨fun i hi _ => h _ (by have : i < s.data.toList.length := hi; exact List.getElem_mem this), h2⟩
  · rintro ⟨h, h2⟩
    refine ⟨fun c hc => ?_, h2⟩
    obtain ⟨i, hi, rfl⟩ := List.getElem_of_mem hc
    exact h i hi hi
theorem letters_at {s : ByteArray} {k : Nat} (h : k < s.size) : s[k].toNat < 256 := s[k].toNat_lt
set_option maxHeartbeats 800000 in
theorem name_i (s : ByteArray) (w : World) (hs : s.size ≤ 1000000000000) (b : Bool) (hb : b = true ↔ nameP s) : Calls Try.prog 153 #[.string s] w (fun e w' => e = .returned (.bool b) ∧ w = w') := by
  have hB := hd hb
  clear hb
  have hlen := hd (fun (h : letters s s.size) (w : World) => within_i (s.size : Int) 1 10 w b (by rw [Bool.eq_iff_iff, hB.out, name_iff]; simp only [decide_eq_true_eq]; constructor <;> (intro g; first | exact ⟨h, by omega, by omega⟩ | exact ⟨by omega, by omega⟩)))
  go_enter Try.func153, Try.ntmps153
  go_wp2_with fail
  go_loop [6] (fun i => ∃ k : Nat, k ≤ s.size ∧ i = .int .i64 k ∧ Hd (letters s k)) (fun i => s.size - (intOf i).toNat)
  case atStart => exact ⟨0, Nat.zero_le _, rfl, fun i h hi => by omega⟩
  case round =>
    obtain ⟨k, hk, rfl, hl⟩ := hrel
    by_cases hlt : k < s.size
    · have hg : (k : Int) < (s.size : Int) := by omega
      have hc := hd (letters_at (s := s) hlt)
      by_cases h1 : s[k].toNat < 97
      · have hf := hd (show b = false by rw [← Bool.not_eq_true, hB.out, name_iff]; rintro ⟨h, _⟩; have := h k hlt hlt; omega)
        go_wp2_with fail
        go_ret
        exact ⟨by rw [hf.out]; rfl, rfl⟩
      · by_cases h2 : 122 < s[k].toNat
        · have hf := hd (show b = false by rw [← Bool.not_eq_true, hB.out, name_iff]; rintro ⟨h, _⟩; have := h k hlt hlt; omega)
          go_wp2_with fail
          go_ret
          exact ⟨by rw [hf.out]; rfl, rfl⟩
        · have hn := hd (show letters s (k + 1) from fun i h hi => by
            by_cases e : i = k
            · subst e; omega
            · exact hl.out i h (by omega))
          go_wp2_with fail
          go_round
          case rel => exact ⟨k + 1, by omega, by go_num, hn⟩
          case measure => simp [intOf]; omega
    · obtain rfl : k = s.size := by omega
      have hg : ¬ (s.size : Int) < (s.size : Int) := by omega
      go_wp2_with fail
      refine (hlen.out hl.out _).mono ?_
      rintro e w2 ⟨rfl, rfl⟩
      go_wp2_with fail
      go_ret
      exact ⟨rfl, rfl⟩
set_option maxHeartbeats 800000 in
theorem name_s (s : ByteArray) (w : World) (hs : s.size ≤ 1000000000000) (b : Bool) (hb : b = true ↔ nameP s) : Calls Try.prog 129 #[.string s] w (fun e w' => e = .returned (.bool b) ∧ w = w') := by
  have hB := hd hb
  clear hb
  have hlen := hd (fun (h : letters s s.size) (w : World) => within_s (s.size : Int) 1 10 w b (by rw [Bool.eq_iff_iff, hB.out, name_iff]; simp only [decide_eq_true_eq]; constructor <;> (intro g; first | exact ⟨h, by omega, by omega⟩ | exact ⟨by omega, by omega⟩)))
  go_enter Try.func129, Try.ntmps129
  go_wp2_with fail
  go_loop [3] (fun i => ∃ k : Nat, k ≤ s.size ∧ i = .int .i64 k ∧ Hd (letters s k)) (fun i => s.size - (intOf i).toNat)
  case atStart => exact ⟨0, Nat.zero_le _, rfl, fun i h hi => by omega⟩
  case round =>
    obtain ⟨k, hk, rfl, hl⟩ := hrel
    by_cases hlt : k < s.size
    · have hg : (k : Int) < (s.size : Int) := by omega
      have hc := hd (letters_at (s := s) hlt)
      by_cases h1 : s[k].toNat < 97
      · have hf := hd (show b = false by rw [← Bool.not_eq_true, hB.out, name_iff]; rintro ⟨h, _⟩; have := h k hlt hlt; omega)
        go_wp2_with fail
        go_ret
        exact ⟨by rw [hf.out]; rfl, rfl⟩
      · by_cases h2 : 122 < s[k].toNat
        · have hf := hd (show b = false by rw [← Bool.not_eq_true, hB.out, name_iff]; rintro ⟨h, _⟩; have := h k hlt hlt; omega)
          go_wp2_with fail
          go_ret
          exact ⟨by rw [hf.out]; rfl, rfl⟩
        · have hn := hd (show letters s (k + 1) from fun i h hi => by
            by_cases e : i = k
            · subst e; omega
            · exact hl.out i h (by omega))
          go_wp2_with fail
          go_round
          case rel => exact ⟨k + 1, by omega, by go_num, hn⟩
          case measure => simp [intOf]; omega
    · obtain rfl : k = s.size := by omega
      have hg : ¬ (s.size : Int) < (s.size : Int) := by omega
      go_wp2_with fail
      refine (hlen.out hl.out _).mono ?_
      rintro e w2 ⟨rfl, rfl⟩
      go_wp2_with fail
      go_ret
      exact ⟨rfl, rfl⟩
set_option maxHeartbeats 400000 in
theorem holds_i (t : K) (v : Value) (w : World) (lo hi : Nat) (h : RepP w lo hi t v) : Calls Try.prog 98 #[v] w (fun e w' => e = .returned (.bool (holdsB t.of)) ∧ w = w') := by
  obtain ⟨b, a, c, vs, rfl, hb, c0, c1, c2, c3, c4, c5, hS, hl, hg⟩ := h.open
  have hz := hd (show holdsB t.of = (t.of == 4 || t.of == 5) from rfl)
  clear c1 c2 c3 c4 c5 hS hl hg h
  generalize holdsB t.of = z at *
  generalize t.of = o at *
  cases h4 : (o == 4) with
  | true =>
    go_enter Try.func98, Try.ntmps98
    go_wp2_with fail
    go_ret
    exact ⟨by rw [hz.out, h4]; rfl, rfl⟩
  | false =>
    go_enter Try.func98, Try.ntmps98
    go_wp2_with fail
    go_ret
    exact ⟨by rw [hz.out, h4]; rfl, rfl⟩
theorem holds_s (k : Int) (w : World) : Calls Try.prog 106 #[.int .i64 k] w (fun e w' => e = .returned (.bool (holdsB k)) ∧ w = w') := by
  have hz := hd (show holdsB k = (k == 4 || k == 5) from rfl)
  generalize holdsB k = z at *
  cases h4 : (k == 4) with
  | true =>
    go_enter Try.func106, Try.ntmps106
    go_wp2_with fail
    go_ret
    exact ⟨by rw [hz.out, h4]; rfl, rfl⟩
  | false =>
    go_enter Try.func106, Try.ntmps106
    go_wp2_with fail
    go_ret
    exact ⟨by rw [hz.out, h4]; rfl, rfl⟩
set_option maxHeartbeats 800000 in
theorem deep_i (t : K) : ∀ (v : Value) (w : World) (lo hi : Nat), hi ≤ w.heap.size → countK t ≤ 1000000 → RepP w lo hi t v → Calls Try.prog 131 #[v] w (IntPost (deepK t) w) := by
  refine K.ind2 (P := fun t => ∀ (v : Value) (w : World) (lo hi : Nat), hi ≤ w.heap.size → countK t ≤ 1000000 → RepP w lo hi t v → Calls Try.prog 131 #[v] w (IntPost (deepK t) w)) ?_ t
  intro t ih v w lo hi hh hc h
  have ih := hd ih
  obtain ⟨b, a, c, vs, rfl, hb, c0, c1, c2, c3, c4, c5, hS, hl, hg⟩ := h.open
  have hg := hd hg
  have hdk := deep_count t
  have hH := hd h
  have hz := hd (deepK_eq t)
  have hup := hd (fun n => show up1 t.of n = if holdsB t.of then n + 1 else n from rfl)
  have hch := hd (fun w' (hbl : Below w.heap.size w w') => holds_i t _ w' lo hi (h.below hh hbl))
  have hnn := hd (deepL_nn t.parts)
  have hbnd := hd (fun k => Int.le_trans (deepL_le 0 (t.parts.take k) (fun p _ => deep_count p)) (Int.ofNat_le.2 (countL_le t.parts k)))
  have hcc : countL t.parts ≤ 1000000 := by have := countK_eq t; omega
  have hcp := hd (fun p (hp : p ∈ t.parts) => Nat.le_trans (count_part hp) hcc)
  clear c0 c1 c2 c3 c4 h
  have hpl : t.parts.length ≤ 1000000 := by have := len_count t.parts; omega
  generalize hps : t.parts = ps at *
  generalize holdsB t.of = hb0 at *
  replace hps := hd hps
  go_enter Try.func131, Try.ntmps131
  go_wp2_with fail
  go_loopw [3, 11] (fun m i wr => ∃ k : Nat, k ≤ ps.length ∧ i = .int .i64 k ∧ m = .int .i64 (deepL (ps.take k)) ∧ Hd (Below w.heap.size w wr)) (fun _ i _ => ps.length - (intOf i).toNat)
  case atStart => exact ⟨0, Nat.zero_le _, rfl, by rw [List.take_zero, deepL], Below.refl _ _⟩
  case round =>
    obtain ⟨k, hk, rfl, rfl, hbl⟩ := hrel
    obtain ⟨wo, rfl⟩ : ∃ wo : World, wo = wr := ⟨_, rfl⟩
    by_cases hlt : k < ps.length
    · have hltI : (k : Int) < (ps.length : Int) := by omega
      obtain ⟨b1, o1, rfl, hb1, hc1⟩ := hS.at (j := k) (by omega)
      have q := keepCell hbl.out (hc1 k (by omega))
      have hp := hd ((hg.out k hlt (by omega)).below hh hbl.out)
      have hi := hd (ih.out ps[k] (List.getElem_mem hlt) vs[k] wo lo hi (Nat.le_trans hh hbl.out.size) (hcp.out _ (List.getElem_mem hlt)) hp.out)
      have htk := hd (deepL_take hlt)
      generalize vs[k] = u at *
      generalize deepK ps[k] = n1 at *
      generalize deepL (ps.take k) = n0 at *
      clear hc1
      go_wp2_with fail
      refine hi.out.mono ?_
      rintro e w2 ⟨rfl, hb2⟩
      have hbl2 := hd (hbl.out.next hb2)
      clear hb2
      go_wp2_with fail
      go_roundw
      case rel => exact ⟨k + 1, by omega, by go_num, by rw [htk.out]; congr 1; split <;> omega, hbl2⟩
      case measure => simp [intOf]; omega
    · obtain rfl : k = ps.length := by omega
      have hltI : ¬ (ps.length : Int) < (ps.length : Int) := by omega
      rw [List.take_length]
      have hb9 := hbnd.out ps.length
      rw [List.take_length] at hb9
      have hn9 := hnn.out
      generalize deepL ps = n0 at *
      have hu9 := hup.out n0
      cases hb0 with
      | true =>
        go_wp2_with fail
        refine (hch.out wo hbl.out).mono ?_
        rintro e w2 ⟨rfl, rfl⟩
        go_wp2_with fail
        go_ret
        exact ⟨by rw [hz.out, hu9]; rfl, hbl.out⟩
      | false =>
        go_wp2_with fail
        refine (hch.out wo hbl.out).mono ?_
        rintro e w2 ⟨rfl, rfl⟩
        go_wp2_with fail
        go_ret
        exact ⟨by rw [hz.out, hu9]; rfl, hbl.out⟩
set_option maxHeartbeats 800000 in
theorem count_i (t : K) : ∀ (v : Value) (w : World) (lo hi : Nat), hi ≤ w.heap.size → countK t ≤ 1000000 → RepP w lo hi t v → Calls Try.prog 132 #[v] w (IntPost (countK t : Nat) w) := by
  refine K.ind2 (P := fun t => ∀ (v : Value) (w : World) (lo hi : Nat), hi ≤ w.heap.size → countK t ≤ 1000000 → RepP w lo hi t v → Calls Try.prog 132 #[v] w (IntPost (countK t : Nat) w)) ?_ t
  intro t ih v w lo hi hh hc h
  have ih := hd ih
  obtain ⟨b, a, c, vs, rfl, hb, c0, c1, c2, c3, c4, c5, hS, hl, hg⟩ := h.open
  have hg := hd hg
  have hz := hd (countK_eq t)
  have hcc : countL t.parts ≤ 1000000 := by have := countK_eq t; omega
  have hcp := hd (fun p (hp : p ∈ t.parts) => Nat.le_trans (count_part hp) hcc)
  have hbnd := hd (fun k => countL_le t.parts k)
  clear c0 c1 c2 c3 c4 h hc
  have hpl : t.parts.length ≤ 1000000 := by have := len_count t.parts; omega
  generalize hps : t.parts = ps at *
  replace hps := hd hps
  go_enter Try.func132, Try.ntmps132
  go_wp2_with fail
  go_loopw [3, 11] (fun m i wr => ∃ k : Nat, k ≤ ps.length ∧ i = .int .i64 k ∧ m = .int .i64 (1 + (countL (ps.take k) : Nat)) ∧ Hd (Below w.heap.size w wr)) (fun _ i _ => ps.length - (intOf i).toNat)
  case atStart => exact ⟨0, Nat.zero_le _, rfl, by rw [List.take_zero, countL]; rfl, Below.refl _ _⟩
  case round =>
    obtain ⟨k, hk, rfl, rfl, hbl⟩ := hrel
    obtain ⟨wo, rfl⟩ : ∃ wo : World, wo = wr := ⟨_, rfl⟩
    by_cases hlt : k < ps.length
    · have hltI : (k : Int) < (ps.length : Int) := by omega
      obtain ⟨b1, o1, rfl, hb1, hc1⟩ := hS.at (j := k) (by omega)
      have q := keepCell hbl.out (hc1 k (by omega))
      have hp := hd ((hg.out k hlt (by omega)).below hh hbl.out)
      have hi := hd (ih.out ps[k] (List.getElem_mem hlt) vs[k] wo lo hi (Nat.le_trans hh hbl.out.size) (hcp.out _ (List.getElem_mem hlt)) hp.out)
      have htk := countL_take hlt
      have hb9 := hbnd.out (k + 1)
      generalize vs[k] = u at *
      generalize countK ps[k] = n1 at *
      generalize countL (ps.take k) = n0 at *
      replace htk := hd htk
      have hs9 : (n0 : Int) + n1 ≤ 1000000 := by have := htk.out; omega
      clear hc1
      go_wp2_with fail
      refine hi.out.mono ?_
      rintro e w2 ⟨rfl, hb2⟩
      have hbl2 := hd (hbl.out.next hb2)
      clear hb2
      go_wp2_with fail
      go_roundw
      case rel => exact ⟨k + 1, by omega, by go_num, by congr 1; have := htk.out; omega, hbl2⟩
      case measure => simp [intOf]; omega
    · obtain rfl : k = ps.length := by omega
      have hltI : ¬ (ps.length : Int) < (ps.length : Int) := by omega
      rw [List.take_length]
      go_wp2_with fail
      go_ret
      exact ⟨by rw [hz.out]; congr 2, hbl.out⟩
end Go.Proofs.Ytobahkjbadamhaa

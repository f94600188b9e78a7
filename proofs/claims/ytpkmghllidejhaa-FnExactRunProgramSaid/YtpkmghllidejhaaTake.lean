/- The walks of the two takeVarint. -/
import Derived.Test.YtpkmghllidejhaaVarS
namespace Go.Proofs.Ytpkmghllidejhaa
open Go.RowKit
set_option linter.unusedVariables false
set_option maxRecDepth 100000

/-- What the program's takeVarint answers at place a. -/
def tkI (l : List UInt8) (a : Nat) : Nat × Nat × Bool :=
  match scan 5 (l.drop a) 0 0 with
  | none => (0, 0, false)
  | some (n, e, b) => (n, a + e, decide (n ≤ 2000000001) && (decide (0 < b.toNat) || e == 1))
/-- What the reference's l1Take answers. -/
def tkS (l : List UInt8) (a : Nat) : Nat × Nat × Bool := if (tkI l a).2.2 then tkI l a else (0, 0, false)

theorem tkI_none {l : List UInt8} {a : Nat} (h : scan 5 (l.drop a) 0 0 = none) : tkI l a = (0, 0, false) := by rw [tkI, h]
theorem tkI_some {l : List UInt8} {a n e : Nat} {b : UInt8} (h : scan 5 (l.drop a) 0 0 = some (n, e, b)) :
    tkI l a = (n, a + e, decide (n ≤ 2000000001) && (decide (0 < b.toNat) || e == 1)) := by rw [tkI, h]
theorem tkI_bd (l : List UInt8) (a : Nat) : (tkI l a).1 < 34359738368 ∧ ((tkI l a).2.2 = true → (tkI l a).1 ≤ 2000000001 ∧ a < (tkI l a).2.1 ∧ (tkI l a).2.1 ≤ l.length) := by
  cases h : scan 5 (l.drop a) 0 0 with
  | none => rw [tkI_none h]; simp
  | some x =>
    obtain ⟨n, e, b⟩ := x
    have := scan_bound0 h
    rw [tkI_some h]
    simp only [List.length_drop] at this
    refine ⟨by simp; omega, fun hh => ?_⟩
    simp at hh ⊢
    omega
theorem tkS_bd (l : List UInt8) (a : Nat) : (tkS l a).1 ≤ 2000000001 ∧ ((tkS l a).2.2 = true → a < (tkS l a).2.1 ∧ (tkS l a).2.1 ≤ l.length) := by
  have := tkI_bd l a
  unfold tkS; split
  · rename_i h; exact ⟨(this.2 h).1, fun _ => (this.2 h).2⟩
  · simp
theorem tkS_ok (l : List UInt8) (a : Nat) : (tkS l a).2.2 = (tkI l a).2.2 := by
  unfold tkS; split <;> simp_all

theorem scan_step {l : List UInt8} {i f k acc : Nat} (h : i < l.length) :
    scan (f + 1) (l.drop i) k acc = if (l[i]).toNat < 128 then some (acc + (l[i]).toNat % 128 * 2 ^ (7 * k), k + 1, l[i]) else scan f (l.drop (i + 1)) (k + 1) (acc + (l[i]).toNat % 128 * 2 ^ (7 * k)) := by
  rw [List.drop_eq_getElem_cons h, scan]
theorem scan_end {l : List UInt8} {i f k acc : Nat} (h : l.length ≤ i) : scan f (l.drop i) k acc = none := by
  rw [List.drop_eq_nil_of_le h]; cases f <;> rfl

/-- The step as the walk spells it. -/
theorem step_i (acc k : Nat) (b : UInt8) (hk : k < 5) (ha : acc < 2 ^ (7 * k)) :
    bits .or .i64 (acc : Int) (wrap64 (wrap64 (bits .and .u8 (b.toNat : Int) 127) * 2 ^ (7 * k))) = ((acc + b.toNat % 128 * 2 ^ (7 * k) : Nat) : Int) := by
  have hb := b.toNat_lt
  have e1 : bits .and .u8 (b.toNat : Int) 127 = ((b.toNat % 128 : Nat) : Int) := by
    have := bits_mask .u8 8 (by decide) wraps_u8 7 (by decide) (b.toNat : Int) (by omega) (by omega)
    rw [show (2 : Int) ^ 7 - 1 = 127 by decide] at this
    rw [this]; omega
  have hp : 2 ^ (7 * k) ≤ 2 ^ 28 := Nat.pow_le_pow_right (by omega) (by omega)
  have hm := Nat.mul_le_mul (show b.toNat % 128 ≤ 127 by omega) hp
  rw [e1, IntWalk.wrap64_in ((b.toNat % 128 : Nat) : Int) (by omega)]
  have e2 : ((b.toNat % 128 : Nat) : Int) * 2 ^ (7 * k) = ((b.toNat % 128 * 2 ^ (7 * k) : Nat) : Int) := by simp
  rw [e2, IntWalk.wrap64_in _ (by omega)]
  exact acc_step acc k _ hk ha (by omega)
theorem acc_lt (acc k : Nat) (b : Nat) (ha : acc < 2 ^ (7 * k)) : acc + b % 128 * 2 ^ (7 * k) < 2 ^ (7 * (k + 1)) := by
  have h1 : b % 128 ≤ 127 := by omega
  have h2 := Nat.mul_le_mul_right (2 ^ (7 * k)) h1
  have h3 : 2 ^ (7 * (k + 1)) = 128 * 2 ^ (7 * k) := by rw [show 7 * (k + 1) = 7 * k + 7 by omega, Nat.pow_add]; omega
  omega

def TkPost (w : World) (r : Nat × Nat × Bool) (e : Ending) (w' : World) : Prop :=
  e = .returned (.tuple #[.int .i64 (r.1 : Nat), .int .i64 (r.2.1 : Nat), .bool r.2.2]) ∧ w = w'

theorem getB (s : ByteArray) (i : Nat) (h : i < s.size) (h' : i < s.data.toList.length) : s.data.toList[i] = s[i] := rfl

/-- One round's facts, hidden: 'N' is what has been read behind this byte. -/
theorem tk_round (s : ByteArray) (a k acc : Nat) (hk : k < 5) (h : a + k < s.size) (hacc : acc < 2 ^ (7 * k)) :
    ∃ N, bits .or .i64 (acc : Int) (wrap64 (wrap64 (bits .and .u8 (s[a + k].toNat : Int) 127) * 2 ^ (7 * k))) = ((N : Nat) : Int) ∧
      N < 34359738368 ∧ Hd (N < 2 ^ (7 * (k + 1))) ∧
      Hd (scan (5 - k) (s.data.toList.drop (a + k)) k acc = if s[a + k].toNat < 128 then some (N, k + 1, s[a + k]) else scan (5 - (k + 1)) (s.data.toList.drop (a + (k + 1))) (k + 1) N) ∧
      bits .or .i64 (acc : Int) (wrap64 (bits .and .i64 (s[a + k].toNat : Int) 127 * 2 ^ (7 * k))) = ((N : Nat) : Int) := by
  have hl : a + k < s.data.toList.length := h
  have hlt := acc_lt acc k s[a + k].toNat hacc
  refine ⟨_, step_i acc k s[a + k] hk hacc, Nat.lt_of_lt_of_le hlt (Nat.pow_le_pow_right (n := 2) (j := 35) (by omega) (by omega)), hlt, ?_, ?_⟩
  · have := scan_step (f := 4 - k) (k := k) (acc := acc) hl
    rw [getB s (a + k) h hl, show 4 - k + 1 = 5 - k by omega, show 4 - k = 5 - (k + 1) by omega] at this
    exact this
  · have hb := s[a + k].toNat_lt
    have := step_i acc k s[a + k] hk hacc
    have e1 : bits .and .u8 (s[a + k].toNat : Int) 127 = ((s[a + k].toNat % 128 : Nat) : Int) := by
      have := bits_mask .u8 8 (by decide) wraps_u8 7 (by decide) (s[a + k].toNat : Int) (by omega) (by omega)
      rw [show (2 : Int) ^ 7 - 1 = 127 by decide] at this
      rw [this]; omega
    rw [e1, IntWalk.wrap64_in ((s[a + k].toNat % 128 : Nat) : Int) (by omega)] at this
    rw [and127_i64 _ (by omega)]
    exact this

theorem tk_out {s : ByteArray} {a k acc : Nat} (hk : k ≤ 5) (hsc : Hd (scan (5 - k) (s.data.toList.drop (a + k)) k acc = scan 5 (s.data.toList.drop a) 0 0)) (h : k = 5 ∨ s.size ≤ a + k) : tkI s.data.toList a = (0, 0, false) := by
  refine tkI_none ?_
  rw [← hsc.out]
  rcases h with rfl | h
  · rfl
  · exact scan_end h
theorem tk_hit {s : ByteArray} {a k acc N : Nat} {b : UInt8} (hsc : Hd (scan (5 - k) (s.data.toList.drop (a + k)) k acc = scan 5 (s.data.toList.drop a) 0 0))
    (hss : Hd (scan (5 - k) (s.data.toList.drop (a + k)) k acc = if b.toNat < 128 then some (N, k + 1, b) else scan (5 - (k + 1)) (s.data.toList.drop (a + (k + 1))) (k + 1) N)) (hb : b.toNat < 128) :
    tkI s.data.toList a = (N, a + (k + 1), decide (N ≤ 2000000001) && (decide (0 < b.toNat) || k + 1 == 1)) := by
  refine tkI_some ?_
  rw [← hsc.out, hss.out, if_pos hb]
theorem tk_next {s : ByteArray} {a k acc N : Nat} {b : UInt8} (hsc : Hd (scan (5 - k) (s.data.toList.drop (a + k)) k acc = scan 5 (s.data.toList.drop a) 0 0))
    (hss : Hd (scan (5 - k) (s.data.toList.drop (a + k)) k acc = if b.toNat < 128 then some (N, k + 1, b) else scan (5 - (k + 1)) (s.data.toList.drop (a + (k + 1))) (k + 1) N)) (hb : ¬ b.toNat < 128) :
    Hd (scan (5 - (k + 1)) (s.data.toList.drop (a + (k + 1))) (k + 1) N = scan 5 (s.data.toList.drop a) 0 0) := by
  show _ = _
  rw [← hsc.out, hss.out, if_neg hb]

theorem tkS_bad {l : List UInt8} {a k N : Nat} {b : UInt8} (h : tkI l a = (N, a + (k + 1), decide (N ≤ 2000000001) && (decide (0 < b.toNat) || k + 1 == 1))) (hb : (0 < k ∧ b.toNat = 0) ∨ 2000000001 < N) : tkS l a = (0, 0, false) := by
  rw [tkS, h, if_neg]
  simp; omega
theorem tkS_good {l : List UInt8} {a k N : Nat} {b : UInt8} (h : tkI l a = (N, a + (k + 1), decide (N ≤ 2000000001) && (decide (0 < b.toNat) || k + 1 == 1))) (hb : ¬ ((0 < k ∧ b.toNat = 0) ∨ 2000000001 < N)) : tkS l a = (N, a + (k + 1), true) := by
  have e : (decide (N ≤ 2000000001) && (decide (0 < b.toNat) || k + 1 == 1)) = true := by simp; omega
  rw [tkS, h, e]; rfl
set_option maxHeartbeats 800000 in
theorem take_i (s : ByteArray) (a : Nat) (w : World) (hs : s.size ≤ 140737488355328) (h1 : a ≤ 4611686018427387904) :
    Calls Try.prog 218 #[.string s, .int .i64 a] w (TkPost w (tkI s.data.toList a)) := by
  go_enter Try.func218, Try.ntmps218
  go_wp2
  go_loop [7, 8] (fun n i => ∃ (k acc : Nat), k ≤ 5 ∧ i = .int .i64 k ∧ n = .int .i64 acc ∧ Hd (acc < 2 ^ (7 * k)) ∧ Hd (scan (5 - k) (s.data.toList.drop (a + k)) k acc = scan 5 (s.data.toList.drop a) 0 0)) (fun _ i => 5 - (intOf i).toNat)
  case atStart => exact ⟨0, 0, by omega, rfl, rfl, by show 0 < 2 ^ 0; decide, rfl⟩
  case round =>
    obtain ⟨k, acc, hk, rfl, rfl, hacc, hsc⟩ := hrel
    by_cases hk5 : k < 5
    · by_cases hl : a + k < s.size
      · have hg : (a : Int) + (k : Int) < (s.size : Int) := by omega
        obtain ⟨N, hst, hN2, hN3, hss, hst2⟩ := tk_round s a k acc hk5 hl hacc.out
        clear hst2
        by_cases hb : s[a + k].toNat < 128
        · have hh := hd (tk_hit hsc hss hb)
          have hN4 : N ≤ 2000000001 ∨ 2000000001 < N := by omega
          go_wp2_with fail
          all_goals go_ret3
          all_goals refine ⟨?_, rfl⟩
          all_goals rw [hh.out]
          · refine ret_iib rfl (by simp; omega) ?_
            have : s[a + k].toNat = 0 := ‹_›
            rw [Bool.eq_iff_iff]; simp [this]; omega
          · refine ret_iib rfl (by simp; omega) ?_
            have : ¬ s[a + k].toNat = 0 := ‹_›
            rw [Bool.eq_iff_iff]; simp; omega
          · refine ret_iib rfl (by simp; omega) ?_
            rw [Bool.eq_iff_iff]; simp; omega
        · have hh := tk_next hsc hss hb
          go_wp2_with fail
          go_round
          case rel => exact ⟨k + 1, N, by omega, by go_num, rfl, hN3, hh⟩
          case measure => simp [intOf]; omega
      · have hg : (s.size : Int) ≤ (a : Int) + (k : Int) := by omega
        go_wp2_with fail
        go_ret3
        exact ⟨by rw [tk_out hk hsc (.inr (by omega))]; rfl, rfl⟩
    · have h5 : k = 5 := by omega
      subst h5
      go_wp2_with fail
      go_ret3
      exact ⟨by rw [tk_out hk hsc (.inl rfl)]; rfl, rfl⟩

set_option maxHeartbeats 800000 in
theorem take_s (s : ByteArray) (a : Nat) (w : World) (hs : s.size ≤ 140737488355328) (h1 : a ≤ 4611686018427387904) :
    Calls Try.prog 216 #[.string s, .int .i64 a] w (TkPost w (tkS s.data.toList a)) := by
  go_enter Try.func216, Try.ntmps216
  go_wp2
  go_loop [7, 8] (fun n i => ∃ (k acc : Nat), k ≤ 5 ∧ i = .int .i64 k ∧ n = .int .i64 acc ∧ Hd (acc < 2 ^ (7 * k)) ∧ Hd (scan (5 - k) (s.data.toList.drop (a + k)) k acc = scan 5 (s.data.toList.drop a) 0 0)) (fun _ i => 5 - (intOf i).toNat)
  case atStart => exact ⟨0, 0, by omega, rfl, rfl, by show 0 < 2 ^ 0; decide, rfl⟩
  case round =>
    obtain ⟨k, acc, hk, rfl, rfl, hacc, hsc⟩ := hrel
    by_cases hk5 : k < 5
    · by_cases hl : a + k < s.size
      · have hg : (a : Int) + (k : Int) < (s.size : Int) := by omega
        obtain ⟨N, hst2, hN2, hN3, hss, hst⟩ := tk_round s a k acc hk5 hl hacc.out
        clear hst2
        have h256 : s[a + k].toNat < 256 := s[a + k].toNat_lt
        have hwb : wrap64 (s[a + k].toNat : Int) = (s[a + k].toNat : Int) := IntWalk.wrap64_in _ (by omega)
        by_cases hb : s[a + k].toNat < 128
        · have hh := tk_hit hsc hss hb
          by_cases hbad : (0 < k ∧ s[a + k].toNat = 0) ∨ 2000000001 < N
          · have hf := hd (tkS_bad hh hbad)
            clear hh
            rcases hbad with ⟨hk0, hz⟩ | hN4
            · have hbz : (((s[a + k].toNat : Int)) == 0) = true := by simpa using hz
              clear hz
              go_wp2_with fail
              all_goals go_ret3
              all_goals exact ⟨by rw [hf.out]; rfl, rfl⟩
            · go_wp2_with fail
              all_goals go_ret3
              all_goals exact ⟨by rw [hf.out]; rfl, rfl⟩
          · have hf := hd (tkS_good hh hbad)
            have hN4 : N ≤ 2000000001 := by omega
            clear hh
            by_cases hk0 : 0 < k
            · have hbz : (((s[a + k].toNat : Int)) == 0) = false := by simp; omega
              clear hbad
              go_wp2_with fail
              all_goals go_ret3
              all_goals exact ⟨by rw [hf.out]; exact ret_iib rfl (by simp; omega) rfl, rfl⟩
            · have hk0' : (k : Int) ≤ 0 := by omega
              clear hbad
              go_wp2_with fail
              all_goals go_ret3
              all_goals exact ⟨by rw [hf.out]; exact ret_iib rfl (by simp; omega) rfl, rfl⟩
        · have hh := tk_next hsc hss hb
          go_wp2_with fail
          go_round
          case rel => exact ⟨k + 1, N, by omega, by go_num, rfl, hN3, hh⟩
          case measure => simp [intOf]; omega
      · have hg : (s.size : Int) ≤ (a : Int) + (k : Int) := by omega
        go_wp2_with fail
        go_ret3
        exact ⟨by rw [tkS, tk_out hk hsc (.inr (by omega))]; rfl, rfl⟩
    · have h5 : k = 5 := by omega
      subst h5
      go_wp2_with fail
      go_ret3
      exact ⟨by rw [tkS, tk_out hk hsc (.inl rfl)]; rfl, rfl⟩
end Go.Proofs.Ytpkmghllidejhaa

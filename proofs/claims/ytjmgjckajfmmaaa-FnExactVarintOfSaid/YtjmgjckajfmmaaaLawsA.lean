/- The walks of the first five laws: each returns true. -/
import Derived.Test.YtjmgjckajfmmaaaWire4
namespace Go.Proofs.Ytjmgjckajfmmaaa
open Go.RowKit
set_option linter.unusedVariables false
set_option maxRecDepth 100000

/-- What a law's walk says: it returns true and writes nothing that was there. -/
def LawTrue (w : World) (e : Ending) (w' : World) : Prop := e = .returned (.bool true) ∧ Below w.heap.size w w'

def tvR (s : ByteArray) (a : Int) : Nat × Nat × Bool := if s.size ≤ 400 ∧ 0 ≤ a then tkS s.data.toList a.toNat else (0, 0, false)

theorem tvR_far (s : ByteArray) (a : Int) (h : (s.size : Int) ≤ a) : tvR s a = (0, 0, false) := by
  unfold tvR; split
  · have : tkI s.data.toList a.toNat = (0, 0, false) := tkI_none (scan_end (show s.size ≤ a.toNat by omega))
    rw [tkS, this]; rfl
  · rfl
set_option maxHeartbeats 400000 in
theorem take_far (s : ByteArray) (a : Int) (w : World) (hs : s.size ≤ 140737488355328) (h0 : (s.size : Int) ≤ a) (h1 : a ≤ 9223372036854775807) :
    Calls Try.prog 27 #[.string s, .int .i64 a] w (TkPost w (0, 0, false)) := by
  go_enter Try.func27, Try.ntmps27
  go_wp2
  go_loop [7, 8] (fun n i => i = .int .i64 0) (fun _ i => 0)
  case atStart => rfl
  case round =>
    obtain rfl := hrel
    go_wp2_with fail
    go_ret3
    exact ⟨rfl, rfl⟩

set_option maxHeartbeats 400000 in
theorem TakeVarint_i (s : ByteArray) (a : Int) (w : World) (hs : s.size ≤ 140737488355328) (h0 : -9223372036854775808 ≤ a) (h1 : a ≤ 9223372036854775807) :
    Calls Try.prog 15 #[.string s, .int .i64 a] w (TkPost w (tvR s a)) := by
  by_cases hl : s.size ≤ 400
  · by_cases ha : 0 ≤ a
    · by_cases hb : a < (s.size : Int)
      · obtain ⟨k, rfl⟩ := Int.eq_ofNat_of_zero_le ha
        have hR : Hd (tvR s (k : Int) = tkS s.data.toList k) := by show _ = _; rw [tvR, if_pos ⟨hl, ha⟩]; rfl
        have hl' : (s.size : Int) ≤ 400 := by omega
        by_cases hok : (tkI s.data.toList k).2.2 = true
        · have hT : Hd (tkS s.data.toList k = tkI s.data.toList k) := by show _ = _; rw [tkS, if_pos hok]
          have hok := hd hok
          go_enter Try.func15, Try.ntmps15
          go_wp2_with fail
          refine (take_i s k _ hs (by omega)).mono ?_
          rintro e w' ⟨rfl, rfl⟩
          rw [hok.out]
          generalize hA : (tkI s.data.toList k).1 = A at *
          generalize hB : (tkI s.data.toList k).2.1 = B at *
          have hA := hd hA; have hB := hd hB
          go_wp2_with fail
          go_ret3
          exact ⟨by rw [hR.out, hT.out, hok.out, hA.out, hB.out]; rfl, rfl⟩
        · have hok : (tkI s.data.toList k).2.2 = false := by simpa using hok
          have hT : Hd (tkS s.data.toList k = (0, 0, false)) := by show _ = _; rw [tkS, if_neg (by simp [hok])]
          have hok := hd hok
          go_enter Try.func15, Try.ntmps15
          go_wp2_with fail
          refine (take_i s k _ hs (by omega)).mono ?_
          rintro e w' ⟨rfl, rfl⟩
          rw [hok.out]
          generalize hA : (tkI s.data.toList k).1 = A at *
          generalize hB : (tkI s.data.toList k).2.1 = B at *
          have hA := hd hA; have hB := hd hB
          go_wp2_with fail
          go_ret3
          exact ⟨by rw [hR.out, hT.out]; rfl, rfl⟩
      · have hR : Hd (tvR s a = (0, 0, false)) := tvR_far s a (by omega)
        have hl' : (s.size : Int) ≤ 400 := by omega
        go_enter Try.func15, Try.ntmps15
        go_wp2_with fail
        refine (take_far s a _ hs (by omega) h1).mono ?_
        rintro e w' ⟨rfl, rfl⟩
        go_wp2_with fail
        go_ret3
        exact ⟨by rw [hR.out]; rfl, rfl⟩
    · have hR : Hd (tvR s a = (0, 0, false)) := by show _ = _; rw [tvR, if_neg (by omega)]
      have hl' : (s.size : Int) ≤ 400 := by omega
      go_enter Try.func15, Try.ntmps15
      go_wp2_with fail
      go_ret3
      exact ⟨by rw [hR.out]; rfl, rfl⟩
  · have hR : Hd (tvR s a = (0, 0, false)) := by show _ = _; rw [tvR, if_neg (by omega)]
    have hl' : (400 : Int) < (s.size : Int) := by omega
    go_enter Try.func15, Try.ntmps15
    go_wp2_with fail
    go_ret3
    exact ⟨by rw [hR.out]; rfl, rfl⟩

set_option maxHeartbeats 400000 in
theorem TakeVarint_s (s : ByteArray) (a : Int) (w : World) (hs : s.size ≤ 140737488355328) (h0 : -9223372036854775808 ≤ a) (h1 : a ≤ 9223372036854775807) :
    Calls Try.prog 14 #[.string s, .int .i64 a] w (TkPost w (tvR s a)) := by
  by_cases hl : s.size ≤ 400
  · have hl' : (s.size : Int) ≤ 400 := by omega
    by_cases ha : 0 ≤ a
    · by_cases hb : a < (s.size : Int)
      · obtain ⟨k, rfl⟩ := Int.eq_ofNat_of_zero_le ha
        have hR : Hd (tvR s (k : Int) = tkS s.data.toList k) := by show _ = _; rw [tvR, if_pos ⟨hl, ha⟩]; rfl
        go_enter Try.func14, Try.ntmps14
        go_wp2_with fail
        refine (take_s s k _ hs (by omega)).mono ?_
        rintro e w' ⟨rfl, rfl⟩
        generalize hA : (tkS s.data.toList k).1 = A at *
        generalize hB : (tkS s.data.toList k).2.1 = B at *
        generalize hC : (tkS s.data.toList k).2.2 = C at *
        have hA := hd hA; have hB := hd hB; have hC := hd hC
        go_wp2_with fail
        go_ret3
        exact ⟨by rw [hR.out, hA.out, hB.out, hC.out]; rfl, rfl⟩
      · have hR : Hd (tvR s a = (0, 0, false)) := tvR_far s a (by omega)
        have hb' : (s.size : Int) ≤ a := by omega
        go_enter Try.func14, Try.ntmps14
        go_wp2_with fail
        go_ret3
        exact ⟨by rw [hR.out]; rfl, rfl⟩
    · have hR : Hd (tvR s a = (0, 0, false)) := by show _ = _; rw [tvR, if_neg (by omega)]
      go_enter Try.func14, Try.ntmps14
      go_wp2_with fail
      go_ret3
      exact ⟨by rw [hR.out]; rfl, rfl⟩
  · have hR : Hd (tvR s a = (0, 0, false)) := by show _ = _; rw [tvR, if_neg (by omega)]
    have hl' : (400 : Int) < (s.size : Int) := by omega
    go_enter Try.func14, Try.ntmps14
    go_wp2_with fail
    go_ret3
    exact ⟨by rw [hR.out]; rfl, rfl⟩

set_option maxHeartbeats 400000 in
theorem law_TakeVarint (s : ByteArray) (a : Int) (w : World) (hs0 : s.size ≤ maxLen) (h0 : -9223372036854775808 ≤ a) (h1 : a ≤ 9223372036854775807) :
    Calls Try.prog 7 #[.string s, .int .i64 a] w (LawTrue w) := by
  unfold maxLen at hs0
  by_cases hl : (1048576 : Int) < (s.size : Int)
  · go_enter Try.func7, Try.ntmps7
    go_wp2_with fail
    go_ret
    exact ⟨rfl, Below.refl _ _⟩
  · have hs : s.size ≤ 140737488355328 := by omega
    have ci := hd (fun w => TakeVarint_i s a w hs h0 h1)
    have cs := hd (fun w => TakeVarint_s s a w hs h0 h1)
    generalize tvR s a = r at ci cs
    obtain ⟨A, B, C⟩ := r
    go_enter Try.func7, Try.ntmps7
    go_wp2_with fail
    refine (cs.out _).mono ?_
    rintro e w' ⟨rfl, rfl⟩
    go_wp2_with fail
    refine (ci.out _).mono ?_
    rintro e w' ⟨rfl, rfl⟩
    go_wp2_with fail
    go_ret
    exact ⟨rfl, Below.refl _ _⟩

def unR (n : Int) : Int := if 0 ≤ n ∧ n ≤ 2000000000 then unf n else 0
def unB (n : Int) : Bool := decide (0 ≤ n ∧ n ≤ 2000000000)
def IBPost (w : World) (a : Int) (b : Bool) (e : Ending) (w' : World) : Prop := e = .returned (.tuple #[.int .i64 a, .bool b]) ∧ w = w'
set_option maxHeartbeats 400000 in
theorem UnfoldNumber_i (n : Int) (w : World) (h0 : -9223372036854775808 ≤ n) (h1 : n ≤ 9223372036854775807) :
    Calls Try.prog 9 #[.int .i64 n] w (IBPost w (unR n) (unB n)) := by
  by_cases hc : 0 ≤ n ∧ n ≤ 2000000000
  · have hR := hd (show unR n = unf n by rw [unR, if_pos hc])
    have hB := hd (show unB n = true by rw [unB]; simpa using hc)
    go_enter Try.func9, Try.ntmps9
    go_wp2_with (first | (go_at_call 18; refine (within_i _ _ _ _ true (by simpa using hc)).mono ?_; rintro e w' ⟨rfl, rfl⟩) | (go_at_call 19; refine (unfold_i n _ (by omega) (by omega)).mono ?_; rintro e w' ⟨rfl, rfl⟩))
    go_ret2
    exact ⟨by rw [hR.out, hB.out]; rfl, rfl⟩
  · have hR := hd (show unR n = 0 by rw [unR, if_neg hc])
    have hB := hd (show unB n = false by rw [unB]; simp; omega)
    go_enter Try.func9, Try.ntmps9
    go_wp2_with (first | (go_at_call 18; refine (within_i _ _ _ _ false (by simp; omega)).mono ?_; rintro e w' ⟨rfl, rfl⟩))
    go_ret2
    exact ⟨by rw [hR.out, hB.out]; rfl, rfl⟩
set_option maxHeartbeats 400000 in
theorem UnfoldNumber_s (n : Int) (w : World) (h0 : -9223372036854775808 ≤ n) (h1 : n ≤ 9223372036854775807) :
    Calls Try.prog 8 #[.int .i64 n] w (IBPost w (unR n) (unB n)) := by
  by_cases hc : 0 ≤ n ∧ n ≤ 2000000000
  · have hR := hd (show unR n = unf n by rw [unR, if_pos hc])
    have hB := hd (show unB n = true by rw [unB]; simpa using hc)
    go_enter Try.func8, Try.ntmps8
    go_wp2_with (first | (go_at_call 16; refine (within_s _ _ _ _ true (by simpa using hc)).mono ?_; rintro e w' ⟨rfl, rfl⟩) | (go_at_call 17; refine (unfold_s n _ (by omega) (by omega)).mono ?_; rintro e w' ⟨rfl, rfl⟩))
    go_ret2
    exact ⟨by rw [hR.out, hB.out]; rfl, rfl⟩
  · have hR := hd (show unR n = 0 by rw [unR, if_neg hc])
    have hB := hd (show unB n = false by rw [unB]; simp; omega)
    go_enter Try.func8, Try.ntmps8
    go_wp2_with (first | (go_at_call 16; refine (within_s _ _ _ _ false (by simp; omega)).mono ?_; rintro e w' ⟨rfl, rfl⟩))
    go_ret2
    exact ⟨by rw [hR.out, hB.out]; rfl, rfl⟩
set_option maxHeartbeats 400000 in
theorem law_UnfoldNumber (n : Int) (w : World) (h0 : -9223372036854775808 ≤ n) (h1 : n ≤ 9223372036854775807) :
    Calls Try.prog 4 #[.int .i64 n] w (LawTrue w) := by
  have ci := hd (fun w => UnfoldNumber_i n w h0 h1)
  have cs := hd (fun w => UnfoldNumber_s n w h0 h1)
  generalize unR n = A at ci cs
  generalize unB n = B at ci cs
  go_enter Try.func4, Try.ntmps4
  go_wp2_with fail
  refine (cs.out _).mono ?_
  rintro e w' ⟨rfl, rfl⟩
  go_wp2_with fail
  refine (ci.out _).mono ?_
  rintro e w' ⟨rfl, rfl⟩
  go_wp2_with fail
  go_ret
  exact ⟨rfl, Below.refl _ _⟩

def numB (n : Int) : Bool := decide (-1000000000 ≤ n ∧ n ≤ 1000000000)
theorem numberOK_i (n : Int) (w : World) : Calls Try.prog 22 #[.int .i64 n] w fun e w' => e = .returned (.bool (numB n)) ∧ w = w' := by
  go_enter Try.func22, Try.ntmps22
  go_wp2_with (go_at_call 18; refine (within_i _ _ _ _ (numB n) rfl).mono ?_; rintro e w' ⟨rfl, rfl⟩)
  go_ret
  exact ⟨rfl, rfl⟩
theorem number_s (n : Int) (w : World) : Calls Try.prog 20 #[.int .i64 n] w fun e w' => e = .returned (.bool (numB n)) ∧ w = w' := by
  go_enter Try.func20, Try.ntmps20
  go_wp2_with (go_at_call 16; refine (within_s _ _ _ _ (numB n) rfl).mono ?_; rintro e w' ⟨rfl, rfl⟩)
  go_ret
  exact ⟨rfl, rfl⟩
def foR (n : Int) : Int := if numB n then fld n else 0
set_option maxHeartbeats 400000 in
theorem FoldNumber_i (n : Int) (w : World) :
    Calls Try.prog 11 #[.int .i64 n] w (IBPost w (foR n) (numB n)) := by
  by_cases hc : numB n = true
  · have hR := hd (show foR n = fld n by rw [foR, if_pos hc])
    have hb : -1000000000 ≤ n ∧ n ≤ 1000000000 := by simpa [numB] using hc
    have hb1 := hb.1
    have hb2 := hb.2
    clear hb
    go_enter Try.func11, Try.ntmps11
    go_wp2_with (first | (go_at_call 22; refine (numberOK_i n _).mono ?_; rintro e w' ⟨rfl, rfl⟩) | (go_at_call 23; refine (fold_i n _ (by omega) (by omega)).mono ?_; rintro e w' ⟨rfl, rfl⟩))
    go_ret2
    exact ⟨by rw [hR.out, hc]; rfl, rfl⟩
  · have hR := hd (show foR n = 0 by rw [foR, if_neg hc])
    have hc : numB n = false := by simpa using hc
    go_enter Try.func11, Try.ntmps11
    go_wp2_with (first | (go_at_call 22; refine (numberOK_i n _).mono ?_; rintro e w' ⟨rfl, rfl⟩))
    go_ret2
    exact ⟨by rw [hR.out, hc]; rfl, rfl⟩
set_option maxHeartbeats 400000 in
theorem FoldNumber_s (n : Int) (w : World) :
    Calls Try.prog 10 #[.int .i64 n] w (IBPost w (foR n) (numB n)) := by
  by_cases hc : numB n = true
  · have hR := hd (show foR n = fld n by rw [foR, if_pos hc])
    have hb : -1000000000 ≤ n ∧ n ≤ 1000000000 := by simpa [numB] using hc
    have hb1 := hb.1
    have hb2 := hb.2
    clear hb
    go_enter Try.func10, Try.ntmps10
    go_wp2_with (first | (go_at_call 20; refine (number_s n _).mono ?_; rintro e w' ⟨rfl, rfl⟩) | (go_at_call 21; refine (fold_s n _ (by omega) (by omega)).mono ?_; rintro e w' ⟨rfl, rfl⟩))
    go_ret2
    exact ⟨by rw [hR.out, hc]; rfl, rfl⟩
  · have hR := hd (show foR n = 0 by rw [foR, if_neg hc])
    have hc : numB n = false := by simpa using hc
    go_enter Try.func10, Try.ntmps10
    go_wp2_with (first | (go_at_call 20; refine (number_s n _).mono ?_; rintro e w' ⟨rfl, rfl⟩))
    go_ret2
    exact ⟨by rw [hR.out, hc]; rfl, rfl⟩
set_option maxHeartbeats 400000 in
theorem law_FoldNumber (n : Int) (w : World) (h0 : -9223372036854775808 ≤ n) (h1 : n ≤ 9223372036854775807) :
    Calls Try.prog 5 #[.int .i64 n] w (LawTrue w) := by
  have ci := hd (fun w => FoldNumber_i n w)
  have cs := hd (fun w => FoldNumber_s n w)
  generalize foR n = A at ci cs
  generalize numB n = B at ci cs
  go_enter Try.func5, Try.ntmps5
  go_wp2_with fail
  refine (cs.out _).mono ?_
  rintro e w' ⟨rfl, rfl⟩
  go_wp2_with fail
  refine (ci.out _).mono ?_
  rintro e w' ⟨rfl, rfl⟩
  go_wp2_with fail
  go_ret
  exact ⟨rfl, Below.refl _ _⟩
set_option maxHeartbeats 400000 in
theorem law_VarintOf (n : Int) (w : World) (h0 : -9223372036854775808 ≤ n) (h1 : n ≤ 9223372036854775807) :
    Calls Try.prog 6 #[.int .i64 n] w (LawTrue w) := by
  have ci := hd (fun w => VarintOf_i n w h0 h1)
  have cs := hd (fun w => VarintOf_s n w h0 h1)
  generalize viS n = A at ci cs
  generalize viB n = B at ci cs
  go_enter Try.func6, Try.ntmps6
  go_wp2_with fail
  refine (cs.out _).mono ?_
  rintro e w1 ⟨rfl, hb1⟩
  have hb1 := hd hb1
  go_wp2_with fail
  refine (ci.out _).mono ?_
  rintro e w2 ⟨rfl, hb2⟩
  have hb2 := hd hb2
  go_wp2_with fail
  go_ret
  exact ⟨rfl, hb1.out.trans (hb2.out.mono hb1.out.size)⟩
set_option maxHeartbeats 4000000 in
theorem law_Constants (w : World) : Calls Try.prog 3 #[] w (LawTrue w) := by
  go_enter Try.func3, Try.ntmps3
  go_wp2_with fail
  go_ret
  exact ⟨rfl, Below.refl _ _⟩
end Go.Proofs.Ytjmgjckajfmmaaa

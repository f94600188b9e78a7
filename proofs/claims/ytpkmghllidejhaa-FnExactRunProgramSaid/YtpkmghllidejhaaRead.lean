/- takeBytes, takeField of the program. -/
import Derived.Test.YtpkmghllidejhaaReadM
import Derived.Test.YtpkmghllidejhaaApp
import Derived.Lib.Strings
import Derived.Deep.RegionLaw
import Derived.StillTailTactics
import Derived.Deep.Cut
namespace Go.Proofs.Ytpkmghllidejhaa
open Go.RowKit
set_option linter.unusedVariables false
set_option maxRecDepth 100000
theorem data_len (s : ByteArray) : s.data.toList.length = s.size := by rw [Array.length_toList]; rfl
theorem ret_sib {a a' : ByteArray} {n n' : Int} {b b' : Bool} (h : a = a') (h2 : n = n') (h' : b = b') : Ending.returned (.tuple #[.string a, .int .i64 n, .bool b]) = .returned (.tuple #[.string a', .int .i64 n', .bool b']) := by rw [h, h2, h']
def TbPost (w : World) (r : List UInt8 × Nat × Bool) (e : Ending) (w' : World) : Prop :=
  e = .returned (.tuple #[.string (mkS r.1), .int .i64 (r.2.1 : Nat), .bool r.2.2]) ∧ w = w'
set_option maxHeartbeats 400000 in
theorem takeBytes_i (s : ByteArray) (a : Nat) (w : World) (hs : s.size ≤ 1048576) (h1 : a ≤ 4611686018427387904) :
    Calls Try.prog 219 #[.string s, .int .i64 a] w (TbPost w (tb s.data.toList a)) := by
  have c1 := hd (take_i s a w (by omega) h1)
  have hbd := tkI_bd s.data.toList a
  rw [data_len] at hbd
  have hok := hd (fun h => tb_ok (l := s.data.toList) (a := a) h)
  by_cases hc : (tkI s.data.toList a).2.2 = true ∧ (tkI s.data.toList a).1 + (tkI s.data.toList a).2.1 ≤ s.size
  · have htb := hd (show tb s.data.toList a = _ by rw [tb, if_pos (by rw [data_len]; exact hc)])
    generalize tkI s.data.toList a = t at *
    obtain ⟨n, f, b⟩ := t
    obtain ⟨rfl, hle⟩ := hc
    dsimp only at *
    obtain ⟨h2, h3, h4⟩ := hbd.2 rfl
    clear hbd hok
    have hg : ¬ (s.size : Int) - (f : Int) < (n : Int) := by omega
    have hw : IntKind.i64.wrap ((f : Int) + (n : Int)) = ((f + n : Nat) : Int) := by rw [IntWalk.i64_in _ (by omega)]; omega
    have hx := hd (show s.extract f (f + n) = mkS ((s.data.toList.drop f).take n) by rw [Lib.extract_eq]; congr 3; omega)
    go_enter Try.func219, Try.ntmps219
    go_wp2_with fail
    refine c1.out.mono ?_
    rintro e w2 ⟨rfl, rfl⟩
    go_wp2_with fail
    go_ret3
    exact ⟨by rw [htb.out]; exact ret_sib hx.out (by simp) rfl, rfl⟩
  · have htb := hd (tb_bad (l := s.data.toList) (a := a) (by rw [data_len]; exact hc))
    generalize tkI s.data.toList a = t at *
    obtain ⟨n, f, b⟩ := t
    clear hok
    cases b with
    | false =>
      clear hc hbd
      go_enter Try.func219, Try.ntmps219
      go_wp2_with fail
      refine c1.out.mono ?_
      rintro e w2 ⟨rfl, rfl⟩
      go_wp2_with fail
      go_ret3
      exact ⟨by rw [htb.out]; rfl, rfl⟩
    | true =>
      obtain ⟨h2, h3, h4⟩ := hbd.2 rfl
      dsimp only at *
      have hg : (s.size : Int) - (f : Int) < (n : Int) := by simp at hc; omega
      clear hc hbd
      go_enter Try.func219, Try.ntmps219
      go_wp2_with fail
      refine c1.out.mono ?_
      rintro e w2 ⟨rfl, rfl⟩
      go_wp2_with fail
      go_ret3
      exact ⟨by rw [htb.out]; rfl, rfl⟩
def TfPost (l : List UInt8) (a : Nat) (w : World) (e : Ending) (w' : World) : Prop :=
  ∃ (x : DPlaced) (en : Int), e = .returned (.tuple #[.agg #[.int .i64 x.f.no, .int .i64 x.f.kind, .int .i64 x.f.num, .string x.f.data, .int .i64 x.at_], .int .i64 en, .bool (fieldOkAt l a)]) ∧ (fieldOkAt l a = true → x = ⟨fieldAt l a, (a : Nat)⟩ ∧ en = (fieldEnd l a : Nat)) ∧ Below w.heap.size w w'
set_option maxHeartbeats 1600000 in
theorem takeField_i (s : ByteArray) (a : Nat) (w : World) (hs : s.size ≤ 1048576) (h1 : a ≤ 4611686018427387904) :
    Calls Try.prog 183 #[.string s, .int .i64 a] w (TfPost s.data.toList a w) := by
  have c1 := hd (fun w => take_i s a w (by omega) h1)
  have hbd := tkI_bd s.data.toList a
  rw [data_len] at hbd
  have hT := hd (show ∃ t, tkI s.data.toList a = t from ⟨_, rfl⟩)
  obtain ⟨⟨n, f, b⟩, ht⟩ := hT.out
  rw [ht] at c1 hbd
  dsimp only at hbd
  clear hT
  cases b with
  | false =>
    have hko := hd (show fieldOkAt s.data.toList a = false by rw [fieldOkAt, ht]; rfl)
    have hn : n < 34359738368 := hbd.1
    clear ht hbd
    go_enter Try.func183, Try.ntmps183
    go_wp2_with fail
    refine (c1.out _).mono ?_
    rintro e w2 ⟨rfl, rfl⟩
    go_wp2_with fail
    refine bodyPost_ret (v := .tuple #[.agg #[.int .i64 0, .int .i64 0, .int .i64 0, .string ⟨#[]⟩, .int .i64 0], .int .i64 0, .bool false]) (by simp [results, Try.results183, go_sem]) rfl ⟨⟨⟨0, 0, 0, ⟨#[]⟩⟩, 0⟩, 0, by rw [hko.out], fun h => by (rw [hko.out] at h; cases h), below_a2 _⟩
  | true =>
    obtain ⟨h2, h3, h4⟩ := hbd.2 rfl
    clear hbd
    by_cases hk : n % 8 = 2
    · have c2 := hd (fun w => takeBytes_i s f w hs (by omega))
      have hE := hd (show fieldEnd s.data.toList a = (tb s.data.toList f).2.1 by rw [fieldEnd, ht]; simp [hk])
      have hA := hd (show fieldAt s.data.toList a = ⟨(n : Int) / 8, (n : Int) % 8, 0, mkS (tb s.data.toList f).1⟩ by rw [fieldAt, ht]; simp [hk]; omega)
      have hO := hd (show fieldOkAt s.data.toList a = ((tb s.data.toList f).2.2 && fieldB (fieldAt s.data.toList a)) by rw [fieldOkAt, ht]; simp [hk])
      generalize tb s.data.toList f = t at *
      obtain ⟨d, e2, ok2⟩ := t
      dsimp only at hE hA hO
      have hkb : ((n : Int) % 8 == 2) = true := by simp; omega
      obtain ⟨q, hq⟩ : ∃ q, fieldB ⟨(n : Int) / 8, (n : Int) % 8, 0, mkS d⟩ = q := ⟨_, rfl⟩
      have c3 := hd (fun w => fieldOK_i ⟨(n : Int) / 8, (n : Int) % 8, 0, mkS d⟩ w q hq)
      have hO2 := hd (show fieldOkAt s.data.toList a = (ok2 && q) by rw [hO.out, hA.out, hq])
      clear ht hk hq hO
      go_enter Try.func183, Try.ntmps183
      go_upto_region 9 with (first
        | (go_at_call 218; refine (c1.out _).mono ?_; rintro e w2 ⟨rfl, rfl⟩)
        | (go_at_call 219; refine (c2.out _).mono ?_; rintro e w2 ⟨rfl, rfl⟩))
      have B0 := hd ((BoxN.new w [.int .i64 0, .int .i64 0, .int .i64 0, .string ⟨#[]⟩, .int .i64 0] 121).below (below_a1 _ (a := .cells #[.int .i64 ((n : Int) / 8), .int .i64 ((n : Int) % 8), .int .i64 0, .string (mkS d), .int .i64 a] 121)))
      have B1 := hd (show BoxN ((w.alloc (.cells #[.int .i64 0, .int .i64 0, .int .i64 0, .string ⟨#[]⟩, .int .i64 0] 121)).alloc (.cells #[.int .i64 ((n : Int) / 8), .int .i64 ((n : Int) % 8), .int .i64 0, .string (mkS d), .int .i64 a] 121)) (w.heap.size + 1) [.int .i64 ((n : Int) / 8), .int .i64 ((n : Int) % 8), .int .i64 0, .string (mkS d), .int .i64 a] from by have := BoxN.new (w.alloc (.cells #[.int .i64 0, .int .i64 0, .int .i64 0, .string ⟨#[]⟩, .int .i64 0] 121)) [.int .i64 ((n : Int) / 8), .int .i64 ((n : Int) % 8), .int .i64 0, .string (mkS d), .int .i64 a] 121; rwa [World.size_alloc] at this)
      have hBW := hd (below_a2 w (a := .cells #[.int .i64 0, .int .i64 0, .int .i64 0, .string ⟨#[]⟩, .int .i64 0] 121) (b := .cells #[.int .i64 ((n : Int) / 8), .int .i64 ((n : Int) % 8), .int .i64 0, .string (mkS d), .int .i64 a] 121))
      change Hd (BoxN ((w.alloc (.cells #[.int .i64 0, .int .i64 0, .int .i64 0, .string ⟨#[]⟩, .int .i64 0] 121)).alloc (.cells #[.int .i64 ((n : Int) / 8), .int .i64 ((n : Int) % 8), .int .i64 0, .string (mkS d), .int .i64 a] 121)) _ _) at B0
      generalize (w.alloc (.cells #[.int .i64 0, .int .i64 0, .int .i64 0, .string ⟨#[]⟩, .int .i64 0] 121)).alloc (.cells #[.int .i64 ((n : Int) / 8), .int .i64 ((n : Int) % 8), .int .i64 0, .string (mkS d), .int .i64 a] 121) = W at B0 B1 hBW ⊢
      cases ok2 with
      | false =>
        have hko := hd (show fieldOkAt s.data.toList a = false by rw [hO2.out]; rfl)
        have q0 := B0.out.1 0 _ rfl; have r0 := B0.out.2.1 0; have q1 := B0.out.1 1 _ rfl; have r1 := B0.out.2.1 1; have q2 := B0.out.1 2 _ rfl; have r2 := B0.out.2.1 2; have q3 := B0.out.1 3 _ rfl; have r3 := B0.out.2.1 3; have q4 := B0.out.1 4 _ rfl; have r4 := B0.out.2.1 4
        have p0 := B1.out.1 0 _ rfl; have p1 := B1.out.1 1 _ rfl; have p2 := B1.out.1 2 _ rfl; have p3 := B1.out.1 3 _ rfl; have p4 := B1.out.1 4 _ rfl
        go_region
        all_goals go_wp2_with fail
        all_goals refine bodyPost_ret (v := .tuple #[.agg #[.int .i64 ((n : Int) / 8), .int .i64 ((n : Int) % 8), .int .i64 0, .string (mkS d), .int .i64 a], .int .i64 e2, .bool false]) (by simp [results, Try.results183, go_sem, q0, q1, q2, q3, q4]) rfl ⟨⟨⟨(n : Int) / 8, (n : Int) % 8, 0, mkS d⟩, a⟩, e2, by rw [hko.out], fun h => by (rw [hko.out] at h; cases h), ?_⟩
        all_goals exact (((((hBW.out.setCell (by simp) _).setCell (by simp) _).setCell (by simp) _).setCell (by simp) _).setCell (by simp) _).drew
      | true =>
        have hko := hd (show fieldOkAt s.data.toList a = q by rw [hO2.out]; simp)
        have hok := hd (show fieldOkAt s.data.toList a = true → (⟨⟨(n : Int) / 8, (n : Int) % 8, 0, mkS d⟩, (a : Nat)⟩ : DPlaced) = ⟨fieldAt s.data.toList a, (a : Nat)⟩ ∧ (e2 : Int) = (fieldEnd s.data.toList a : Nat) from fun _ => ⟨by rw [hA.out], by rw [hE.out]⟩)
        have p0 := B1.out.1 0 _ rfl; have p1 := B1.out.1 1 _ rfl; have p2 := B1.out.1 2 _ rfl; have p3 := B1.out.1 3 _ rfl; have p4 := B1.out.1 4 _ rfl
        go_region_with (go_at_call 131; refine (c3.out _).mono ?_; rintro e w5 ⟨rfl, hb5⟩; have B0' := hd (B0.out.drew.below hb5); have B1' := hd (B1.out.drew.below hb5); have hBV := hd (hBW.out.drew.next hb5); clear hb5; have q0 := B0'.out.1 0 _ rfl; have r0 := B0'.out.2.1 0; have q1 := B0'.out.1 1 _ rfl; have r1 := B0'.out.2.1 1; have q2 := B0'.out.1 2 _ rfl; have r2 := B0'.out.2.1 2; have q3 := B0'.out.1 3 _ rfl; have r3 := B0'.out.2.1 3; have q4 := B0'.out.1 4 _ rfl; have r4 := B0'.out.2.1 4; have s0 := B1'.out.1 0 _ rfl; have s1 := B1'.out.1 1 _ rfl; have s2 := B1'.out.1 2 _ rfl; have s3 := B1'.out.1 3 _ rfl; have s4 := B1'.out.1 4 _ rfl)
        all_goals go_wp2_with fail
        all_goals refine bodyPost_ret (v := .tuple #[.agg #[.int .i64 ((n : Int) / 8), .int .i64 ((n : Int) % 8), .int .i64 0, .string (mkS d), .int .i64 a], .int .i64 e2, .bool q]) (by simp [results, Try.results183, go_sem, q0, q1, q2, q3, q4]) rfl ⟨⟨⟨(n : Int) / 8, (n : Int) % 8, 0, (mkS d)⟩, a⟩, e2, by rw [hko.out], hok.out, ?_⟩
        all_goals first | exact (((((hBV.out.setCell (by simp) _).setCell (by simp) _).setCell (by simp) _).setCell (by simp) _).setCell (by simp) _) | exact (((((hBV.out.setCell (by simp) _).setCell (by simp) _).setCell (by simp) _).setCell (by simp) _).setCell (by simp) _).drew
    · have c2 := hd (fun w => take_i s f w (by omega) (by omega))
      have hE := hd (show fieldEnd s.data.toList a = (tkI s.data.toList f).2.1 by rw [fieldEnd, ht]; simp [hk])
      have hA := hd (show fieldAt s.data.toList a = ⟨(n : Int) / 8, (n : Int) % 8, unf (tkI s.data.toList f).1, ⟨#[]⟩⟩ by rw [fieldAt, ht]; simp [hk])
      have hO := hd (show fieldOkAt s.data.toList a = ((tkI s.data.toList f).2.2 && fieldB (fieldAt s.data.toList a)) by rw [fieldOkAt, ht]; simp [hk])
      have hbm := (tkI_bd s.data.toList f).1
      generalize tkI s.data.toList f = t at *
      obtain ⟨m, e2, ok2⟩ := t
      dsimp only at hE hA hO hbm
      have hkb : ((n : Int) % 8 == 2) = false := by simp; omega
      have hub := unf_bd (m : Int) (by omega) (by omega)
      have cu := hd (fun w => unfold_i (m : Int) w (by omega) (by omega))
      generalize unf (m : Int) = u at *
      obtain ⟨q, hq⟩ : ∃ q, fieldB ⟨(n : Int) / 8, (n : Int) % 8, u, ⟨#[]⟩⟩ = q := ⟨_, rfl⟩
      have c3 := hd (fun w => fieldOK_i ⟨(n : Int) / 8, (n : Int) % 8, u, ⟨#[]⟩⟩ w q hq)
      have hO2 := hd (show fieldOkAt s.data.toList a = (ok2 && q) by rw [hO.out, hA.out, hq])
      clear ht hk hq hO
      go_enter Try.func183, Try.ntmps183
      go_wp2_with fail
      refine (c1.out _).mono ?_
      rintro e w2 ⟨rfl, rfl⟩
      go_wp2_with fail
      refine (c2.out _).mono ?_
      rintro e w2 ⟨rfl, rfl⟩
      go_upto_region 9 with (go_at_call 220; refine (cu.out _).mono ?_; rintro e w2 ⟨rfl, rfl⟩)
      have B0 := hd ((BoxN.new w [.int .i64 0, .int .i64 0, .int .i64 0, .string ⟨#[]⟩, .int .i64 0] 121).below (below_a1 _ (a := .cells #[.int .i64 ((n : Int) / 8), .int .i64 ((n : Int) % 8), .int .i64 u, .string (⟨#[]⟩), .int .i64 a] 121)))
      have B1 := hd (show BoxN ((w.alloc (.cells #[.int .i64 0, .int .i64 0, .int .i64 0, .string ⟨#[]⟩, .int .i64 0] 121)).alloc (.cells #[.int .i64 ((n : Int) / 8), .int .i64 ((n : Int) % 8), .int .i64 u, .string (⟨#[]⟩), .int .i64 a] 121)) (w.heap.size + 1) [.int .i64 ((n : Int) / 8), .int .i64 ((n : Int) % 8), .int .i64 u, .string (⟨#[]⟩), .int .i64 a] from by have := BoxN.new (w.alloc (.cells #[.int .i64 0, .int .i64 0, .int .i64 0, .string ⟨#[]⟩, .int .i64 0] 121)) [.int .i64 ((n : Int) / 8), .int .i64 ((n : Int) % 8), .int .i64 u, .string (⟨#[]⟩), .int .i64 a] 121; rwa [World.size_alloc] at this)
      have hBW := hd (below_a2 w (a := .cells #[.int .i64 0, .int .i64 0, .int .i64 0, .string ⟨#[]⟩, .int .i64 0] 121) (b := .cells #[.int .i64 ((n : Int) / 8), .int .i64 ((n : Int) % 8), .int .i64 u, .string (⟨#[]⟩), .int .i64 a] 121))
      change Hd (BoxN ((w.alloc (.cells #[.int .i64 0, .int .i64 0, .int .i64 0, .string ⟨#[]⟩, .int .i64 0] 121)).alloc (.cells #[.int .i64 ((n : Int) / 8), .int .i64 ((n : Int) % 8), .int .i64 u, .string (⟨#[]⟩), .int .i64 a] 121)) _ _) at B0
      generalize (w.alloc (.cells #[.int .i64 0, .int .i64 0, .int .i64 0, .string ⟨#[]⟩, .int .i64 0] 121)).alloc (.cells #[.int .i64 ((n : Int) / 8), .int .i64 ((n : Int) % 8), .int .i64 u, .string (⟨#[]⟩), .int .i64 a] 121) = W at B0 B1 hBW ⊢
      cases ok2 with
      | false =>
        have hko := hd (show fieldOkAt s.data.toList a = false by rw [hO2.out]; rfl)
        have q0 := B0.out.1 0 _ rfl; have r0 := B0.out.2.1 0; have q1 := B0.out.1 1 _ rfl; have r1 := B0.out.2.1 1; have q2 := B0.out.1 2 _ rfl; have r2 := B0.out.2.1 2; have q3 := B0.out.1 3 _ rfl; have r3 := B0.out.2.1 3; have q4 := B0.out.1 4 _ rfl; have r4 := B0.out.2.1 4
        have p0 := B1.out.1 0 _ rfl; have p1 := B1.out.1 1 _ rfl; have p2 := B1.out.1 2 _ rfl; have p3 := B1.out.1 3 _ rfl; have p4 := B1.out.1 4 _ rfl
        go_region
        all_goals go_wp2_with fail
        all_goals refine bodyPost_ret (v := .tuple #[.agg #[.int .i64 ((n : Int) / 8), .int .i64 ((n : Int) % 8), .int .i64 u, .string ⟨#[]⟩, .int .i64 a], .int .i64 e2, .bool false]) (by simp [results, Try.results183, go_sem, q0, q1, q2, q3, q4]) rfl ⟨⟨⟨(n : Int) / 8, (n : Int) % 8, u, ⟨#[]⟩⟩, a⟩, e2, by rw [hko.out], fun h => by (rw [hko.out] at h; cases h), ?_⟩
        all_goals first | exact (((((hBW.out.setCell (by simp) _).setCell (by simp) _).setCell (by simp) _).setCell (by simp) _).setCell (by simp) _) | exact (((((hBW.out.setCell (by simp) _).setCell (by simp) _).setCell (by simp) _).setCell (by simp) _).setCell (by simp) _).drew
      | true =>
        have hko := hd (show fieldOkAt s.data.toList a = q by rw [hO2.out]; simp)
        have hok := hd (show fieldOkAt s.data.toList a = true → (⟨⟨(n : Int) / 8, (n : Int) % 8, u, ⟨#[]⟩⟩, (a : Nat)⟩ : DPlaced) = ⟨fieldAt s.data.toList a, (a : Nat)⟩ ∧ (e2 : Int) = (fieldEnd s.data.toList a : Nat) from fun _ => ⟨by rw [hA.out], by rw [hE.out]⟩)
        have p0 := B1.out.1 0 _ rfl; have p1 := B1.out.1 1 _ rfl; have p2 := B1.out.1 2 _ rfl; have p3 := B1.out.1 3 _ rfl; have p4 := B1.out.1 4 _ rfl
        go_region_with (go_at_call 131; refine (c3.out _).mono ?_; rintro e w5 ⟨rfl, hb5⟩; have B0' := hd (B0.out.drew.below hb5); have B1' := hd (B1.out.drew.below hb5); have hBV := hd (hBW.out.drew.next hb5); clear hb5; have q0 := B0'.out.1 0 _ rfl; have r0 := B0'.out.2.1 0; have q1 := B0'.out.1 1 _ rfl; have r1 := B0'.out.2.1 1; have q2 := B0'.out.1 2 _ rfl; have r2 := B0'.out.2.1 2; have q3 := B0'.out.1 3 _ rfl; have r3 := B0'.out.2.1 3; have q4 := B0'.out.1 4 _ rfl; have r4 := B0'.out.2.1 4; have s0 := B1'.out.1 0 _ rfl; have s1 := B1'.out.1 1 _ rfl; have s2 := B1'.out.1 2 _ rfl; have s3 := B1'.out.1 3 _ rfl; have s4 := B1'.out.1 4 _ rfl)
        all_goals go_wp2_with fail
        all_goals refine bodyPost_ret (v := .tuple #[.agg #[.int .i64 ((n : Int) / 8), .int .i64 ((n : Int) % 8), .int .i64 u, .string ⟨#[]⟩, .int .i64 a], .int .i64 e2, .bool q]) (by simp [results, Try.results183, go_sem, q0, q1, q2, q3, q4]) rfl ⟨⟨⟨(n : Int) / 8, (n : Int) % 8, u, ⟨#[]⟩⟩, a⟩, e2, by rw [hko.out], hok.out, ?_⟩
        all_goals first | exact (((((hBV.out.setCell (by simp) _).setCell (by simp) _).setCell (by simp) _).setCell (by simp) _).setCell (by simp) _) | exact (((((hBV.out.setCell (by simp) _).setCell (by simp) _).setCell (by simp) _).setCell (by simp) _).setCell (by simp) _).drew
end Go.Proofs.Ytpkmghllidejhaa

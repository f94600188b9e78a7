/- takeBytes, takeField of the program (with Read2, Nos, ReadL, Read4, Ris, View, Read3). -/
import Derived.Test.YtbjilpemckoioaaRecs
import Derived.Test.YtbjilpemckoioaaBases
import Derived.Lib.Strings
import Derived.Deep.RegionLaw
import Derived.StillTailTactics
import Derived.Deep.Cut
import Derived.Deep.QuietTactic
import Derived.BigQuiet
/- takeBytes, takeField of the program. -/
namespace Go.Proofs.Ytbjilpemckoioaa
open Go.RowKit
set_option linter.unusedVariables false
set_option maxRecDepth 100000
theorem data_len (s : ByteArray) : s.data.toList.length = s.size := by rw [Array.length_toList]; rfl
theorem ret_sib {a a' : ByteArray} {n n' : Int} {b b' : Bool} (h : a = a') (h2 : n = n') (h' : b = b') : Ending.returned (.tuple #[.string a, .int .i64 n, .bool b]) = .returned (.tuple #[.string a', .int .i64 n', .bool b']) := by rw [h, h2, h']
def TbPost (w : World) (r : List UInt8 × Nat × Bool) (e : Ending) (w' : World) : Prop :=
  e = .returned (.tuple #[.string (mkS r.1), .int .i64 (r.2.1 : Nat), .bool r.2.2]) ∧ w = w'
set_option maxHeartbeats 400000 in
theorem takeBytes_i (s : ByteArray) (a : Nat) (w : World) (hs : s.size ≤ 1048576) (h1 : a ≤ 4611686018427387904) :
    Calls Try.prog 198 #[.string s, .int .i64 a] w (TbPost w (tb s.data.toList a)) := by
  have c1 := hd (take_i s a w (by omega) h1)
  have hbd := tkI_bd s.data.toList a
  rw [data_len] at hbd
  have hok := hd (fun h => tb_ok (l := s.data.toList) (a := a) h)
  by_cases hc : (tkI s.data.toList a).2.2 = true ∧ (tkI s.data.toList a).1 + (tkI s.data.toList a).2.1 ≤ s.size
  · have htb := hd (show tb s.data.toList a = _ by rw [tb, if_pos (by rw [data_len]; exact hc)])
    generalize tkI s.data.toList a = t at *
    obtain ⟨n, f, b⟩ := t
    obtain ⟨rfl, hle⟩ := hc
    dsimp only at *
    obtain ⟨h2, h3, h4⟩ := hbd.2 rfl
    clear hbd hok
    have hg : ¬ (s.size : Int) - (f : Int) < (n : Int) := by omega
    have hw : IntKind.i64.wrap ((f : Int) + (n : Int)) = ((f + n : Nat) : Int) := by rw [IntWalk.i64_in _ (by omega)]; omega
    have hx := hd (show s.extract f (f + n) = mkS ((s.data.toList.drop f).take n) by rw [Lib.extract_eq]; congr 3; omega)
    go_enter Try.func198, Try.ntmps198
    go_wp2_with fail
    refine c1.out.mono ?_
    rintro e w2 ⟨rfl, rfl⟩
    go_wp2_with fail
    go_ret3
    exact ⟨by rw [htb.out]; exact ret_sib hx.out (by simp) rfl, rfl⟩
  · have htb := hd (tb_bad (l := s.data.toList) (a := a) (by rw [data_len]; exact hc))
    generalize tkI s.data.toList a = t at *
    obtain ⟨n, f, b⟩ := t
    clear hok
    cases b with
    | false =>
      clear hc hbd
      go_enter Try.func198, Try.ntmps198
      go_wp2_with fail
      refine c1.out.mono ?_
      rintro e w2 ⟨rfl, rfl⟩
      go_wp2_with fail
      go_ret3
      exact ⟨by rw [htb.out]; rfl, rfl⟩
    | true =>
      obtain ⟨h2, h3, h4⟩ := hbd.2 rfl
      dsimp only at *
      have hg : (s.size : Int) - (f : Int) < (n : Int) := by simp at hc; omega
      clear hc hbd
      go_enter Try.func198, Try.ntmps198
      go_wp2_with fail
      refine c1.out.mono ?_
      rintro e w2 ⟨rfl, rfl⟩
      go_wp2_with fail
      go_ret3
      exact ⟨by rw [htb.out]; rfl, rfl⟩
def TfPost (l : List UInt8) (a : Nat) (w : World) (e : Ending) (w' : World) : Prop :=
  ∃ (x : DPlaced) (en : Int), e = .returned (.tuple #[.agg #[.int .i64 x.f.no, .int .i64 x.f.kind, .int .i64 x.f.num, .string x.f.data, .int .i64 x.at_], .int .i64 en, .bool (fieldOkAt l a)]) ∧ (fieldOkAt l a = true → x = ⟨fieldAt l a, (a : Nat)⟩ ∧ en = (fieldEnd l a : Nat)) ∧ Below w.heap.size w w'
set_option maxHeartbeats 1600000 in
theorem takeField_i (s : ByteArray) (a : Nat) (w : World) (hs : s.size ≤ 1048576) (h1 : a ≤ 4611686018427387904) :
    Calls Try.prog 172 #[.string s, .int .i64 a] w (TfPost s.data.toList a w) := by
  have c1 := hd (fun w => take_i s a w (by omega) h1)
  have hbd := tkI_bd s.data.toList a
  rw [data_len] at hbd
  have hT := hd (show ∃ t, tkI s.data.toList a = t from ⟨_, rfl⟩)
  obtain ⟨⟨n, f, b⟩, ht⟩ := hT.out
  rw [ht] at c1 hbd
  dsimp only at hbd
  clear hT
  cases b with
  | false =>
    have hko := hd (show fieldOkAt s.data.toList a = false by rw [fieldOkAt, ht]; rfl)
    have hn : n < 34359738368 := hbd.1
    clear ht hbd
    go_enter Try.func172, Try.ntmps172
    go_wp2_with fail
    refine (c1.out _).mono ?_
    rintro e w2 ⟨rfl, rfl⟩
    go_wp2_with fail
    refine bodyPost_ret (v := .tuple #[.agg #[.int .i64 0, .int .i64 0, .int .i64 0, .string ⟨#[]⟩, .int .i64 0], .int .i64 0, .bool false]) (by simp [results, Try.results172, go_sem]) rfl ⟨⟨⟨0, 0, 0, ⟨#[]⟩⟩, 0⟩, 0, by rw [hko.out], fun h => by (rw [hko.out] at h; cases h), below_a2 _⟩
  | true =>
    obtain ⟨h2, h3, h4⟩ := hbd.2 rfl
    clear hbd
    by_cases hk : n % 8 = 2
    · have c2 := hd (fun w => takeBytes_i s f w hs (by omega))
      have hE := hd (show fieldEnd s.data.toList a = (tb s.data.toList f).2.1 by rw [fieldEnd, ht]; simp [hk])
      have hA := hd (show fieldAt s.data.toList a = ⟨(n : Int) / 8, (n : Int) % 8, 0, mkS (tb s.data.toList f).1⟩ by rw [fieldAt, ht]; simp [hk]; omega)
      have hO := hd (show fieldOkAt s.data.toList a = ((tb s.data.toList f).2.2 && fieldB (fieldAt s.data.toList a)) by rw [fieldOkAt, ht]; simp [hk])
      generalize tb s.data.toList f = t at *
      obtain ⟨d, e2, ok2⟩ := t
      dsimp only at hE hA hO
      have hkb : ((n : Int) % 8 == 2) = true := by simp; omega
      obtain ⟨q, hq⟩ : ∃ q, fieldB ⟨(n : Int) / 8, (n : Int) % 8, 0, mkS d⟩ = q := ⟨_, rfl⟩
      have c3 := hd (fun w => fieldOK_i ⟨(n : Int) / 8, (n : Int) % 8, 0, mkS d⟩ w q hq)
      have hO2 := hd (show fieldOkAt s.data.toList a = (ok2 && q) by rw [hO.out, hA.out, hq])
      clear ht hk hq hO
      go_enter Try.func172, Try.ntmps172
      go_upto_region 9 with (first
        | (go_at_call 197; refine (c1.out _).mono ?_; rintro e w2 ⟨rfl, rfl⟩)
        | (go_at_call 198; refine (c2.out _).mono ?_; rintro e w2 ⟨rfl, rfl⟩))
      have B0 := hd ((BoxN.new w [.int .i64 0, .int .i64 0, .int .i64 0, .string ⟨#[]⟩, .int .i64 0] 143).below (below_a1 _ (a := .cells #[.int .i64 ((n : Int) / 8), .int .i64 ((n : Int) % 8), .int .i64 0, .string (mkS d), .int .i64 a] 143)))
      have B1 := hd (show BoxN ((w.alloc (.cells #[.int .i64 0, .int .i64 0, .int .i64 0, .string ⟨#[]⟩, .int .i64 0] 143)).alloc (.cells #[.int .i64 ((n : Int) / 8), .int .i64 ((n : Int) % 8), .int .i64 0, .string (mkS d), .int .i64 a] 143)) (w.heap.size + 1) [.int .i64 ((n : Int) / 8), .int .i64 ((n : Int) % 8), .int .i64 0, .string (mkS d), .int .i64 a] from by have := BoxN.new (w.alloc (.cells #[.int .i64 0, .int .i64 0, .int .i64 0, .string ⟨#[]⟩, .int .i64 0] 143)) [.int .i64 ((n : Int) / 8), .int .i64 ((n : Int) % 8), .int .i64 0, .string (mkS d), .int .i64 a] 143; rwa [World.size_alloc] at this)
      have hBW := hd (below_a2 w (a := .cells #[.int .i64 0, .int .i64 0, .int .i64 0, .string ⟨#[]⟩, .int .i64 0] 143) (b := .cells #[.int .i64 ((n : Int) / 8), .int .i64 ((n : Int) % 8), .int .i64 0, .string (mkS d), .int .i64 a] 143))
      change Hd (BoxN ((w.alloc (.cells #[.int .i64 0, .int .i64 0, .int .i64 0, .string ⟨#[]⟩, .int .i64 0] 143)).alloc (.cells #[.int .i64 ((n : Int) / 8), .int .i64 ((n : Int) % 8), .int .i64 0, .string (mkS d), .int .i64 a] 143)) _ _) at B0
      generalize (w.alloc (.cells #[.int .i64 0, .int .i64 0, .int .i64 0, .string ⟨#[]⟩, .int .i64 0] 143)).alloc (.cells #[.int .i64 ((n : Int) / 8), .int .i64 ((n : Int) % 8), .int .i64 0, .string (mkS d), .int .i64 a] 143) = W at B0 B1 hBW ⊢
      cases ok2 with
      | false =>
        have hko := hd (show fieldOkAt s.data.toList a = false by rw [hO2.out]; rfl)
        have q0 := B0.out.1 0 _ rfl; have r0 := B0.out.2.1 0; have q1 := B0.out.1 1 _ rfl; have r1 := B0.out.2.1 1; have q2 := B0.out.1 2 _ rfl; have r2 := B0.out.2.1 2; have q3 := B0.out.1 3 _ rfl; have r3 := B0.out.2.1 3; have q4 := B0.out.1 4 _ rfl; have r4 := B0.out.2.1 4
        have p0 := B1.out.1 0 _ rfl; have p1 := B1.out.1 1 _ rfl; have p2 := B1.out.1 2 _ rfl; have p3 := B1.out.1 3 _ rfl; have p4 := B1.out.1 4 _ rfl
        go_region
        all_goals go_wp2_with fail
        all_goals refine bodyPost_ret (v := .tuple #[.agg #[.int .i64 ((n : Int) / 8), .int .i64 ((n : Int) % 8), .int .i64 0, .string (mkS d), .int .i64 a], .int .i64 e2, .bool false]) (by simp [results, Try.results172, go_sem, q0, q1, q2, q3, q4]) rfl ⟨⟨⟨(n : Int) / 8, (n : Int) % 8, 0, mkS d⟩, a⟩, e2, by rw [hko.out], fun h => by (rw [hko.out] at h; cases h), ?_⟩
        all_goals exact (((((hBW.out.setCell (by simp) _).setCell (by simp) _).setCell (by simp) _).setCell (by simp) _).setCell (by simp) _).drew
      | true =>
        have hko := hd (show fieldOkAt s.data.toList a = q by rw [hO2.out]; simp)
        have hok := hd (show fieldOkAt s.data.toList a = true → (⟨⟨(n : Int) / 8, (n : Int) % 8, 0, mkS d⟩, (a : Nat)⟩ : DPlaced) = ⟨fieldAt s.data.toList a, (a : Nat)⟩ ∧ (e2 : Int) = (fieldEnd s.data.toList a : Nat) from fun _ => ⟨by rw [hA.out], by rw [hE.out]⟩)
        have p0 := B1.out.1 0 _ rfl; have p1 := B1.out.1 1 _ rfl; have p2 := B1.out.1 2 _ rfl; have p3 := B1.out.1 3 _ rfl; have p4 := B1.out.1 4 _ rfl
        go_region_with (go_at_call 150; refine (c3.out _).mono ?_; rintro e w5 ⟨rfl, hb5⟩; have B0' := hd (B0.out.drew.below hb5); have B1' := hd (B1.out.drew.below hb5); have hBV := hd (hBW.out.drew.next hb5); clear hb5; have q0 := B0'.out.1 0 _ rfl; have r0 := B0'.out.2.1 0; have q1 := B0'.out.1 1 _ rfl; have r1 := B0'.out.2.1 1; have q2 := B0'.out.1 2 _ rfl; have r2 := B0'.out.2.1 2; have q3 := B0'.out.1 3 _ rfl; have r3 := B0'.out.2.1 3; have q4 := B0'.out.1 4 _ rfl; have r4 := B0'.out.2.1 4; have s0 := B1'.out.1 0 _ rfl; have s1 := B1'.out.1 1 _ rfl; have s2 := B1'.out.1 2 _ rfl; have s3 := B1'.out.1 3 _ rfl; have s4 := B1'.out.1 4 _ rfl)
        all_goals go_wp2_with fail
        all_goals refine bodyPost_ret (v := .tuple #[.agg #[.int .i64 ((n : Int) / 8), .int .i64 ((n : Int) % 8), .int .i64 0, .string (mkS d), .int .i64 a], .int .i64 e2, .bool q]) (by simp [results, Try.results172, go_sem, q0, q1, q2, q3, q4]) rfl ⟨⟨⟨(n : Int) / 8, (n : Int) % 8, 0, (mkS d)⟩, a⟩, e2, by rw [hko.out], hok.out, ?_⟩
        all_goals first | exact (((((hBV.out.setCell (by simp) _).setCell (by simp) _).setCell (by simp) _).setCell (by simp) _).setCell (by simp) _) | exact (((((hBV.out.setCell (by simp) _).setCell (by simp) _).setCell (by simp) _).setCell (by simp) _).setCell (by simp) _).drew
    · have c2 := hd (fun w => take_i s f w (by omega) (by omega))
      have hE := hd (show fieldEnd s.data.toList a = (tkI s.data.toList f).2.1 by rw [fieldEnd, ht]; simp [hk])
      have hA := hd (show fieldAt s.data.toList a = ⟨(n : Int) / 8, (n : Int) % 8, unf (tkI s.data.toList f).1, ⟨#[]⟩⟩ by rw [fieldAt, ht]; simp [hk])
      have hO := hd (show fieldOkAt s.data.toList a = ((tkI s.data.toList f).2.2 && fieldB (fieldAt s.data.toList a)) by rw [fieldOkAt, ht]; simp [hk])
      have hbm := (tkI_bd s.data.toList f).1
      generalize tkI s.data.toList f = t at *
      obtain ⟨m, e2, ok2⟩ := t
      dsimp only at hE hA hO hbm
      have hkb : ((n : Int) % 8 == 2) = false := by simp; omega
      have hub := unf_bd (m : Int) (by omega) (by omega)
      have cu := hd (fun w => unfold_i (m : Int) w (by omega) (by omega))
      generalize unf (m : Int) = u at *
      obtain ⟨q, hq⟩ : ∃ q, fieldB ⟨(n : Int) / 8, (n : Int) % 8, u, ⟨#[]⟩⟩ = q := ⟨_, rfl⟩
      have c3 := hd (fun w => fieldOK_i ⟨(n : Int) / 8, (n : Int) % 8, u, ⟨#[]⟩⟩ w q hq)
      have hO2 := hd (show fieldOkAt s.data.toList a = (ok2 && q) by rw [hO.out, hA.out, hq])
      clear ht hk hq hO
      go_enter Try.func172, Try.ntmps172
      go_wp2_with fail
      refine (c1.out _).mono ?_
      rintro e w2 ⟨rfl, rfl⟩
      go_wp2_with fail
      refine (c2.out _).mono ?_
      rintro e w2 ⟨rfl, rfl⟩
      go_upto_region 9 with (go_at_call 199; refine (cu.out _).mono ?_; rintro e w2 ⟨rfl, rfl⟩)
      have B0 := hd ((BoxN.new w [.int .i64 0, .int .i64 0, .int .i64 0, .string ⟨#[]⟩, .int .i64 0] 143).below (below_a1 _ (a := .cells #[.int .i64 ((n : Int) / 8), .int .i64 ((n : Int) % 8), .int .i64 u, .string (⟨#[]⟩), .int .i64 a] 143)))
      have B1 := hd (show BoxN ((w.alloc (.cells #[.int .i64 0, .int .i64 0, .int .i64 0, .string ⟨#[]⟩, .int .i64 0] 143)).alloc (.cells #[.int .i64 ((n : Int) / 8), .int .i64 ((n : Int) % 8), .int .i64 u, .string (⟨#[]⟩), .int .i64 a] 143)) (w.heap.size + 1) [.int .i64 ((n : Int) / 8), .int .i64 ((n : Int) % 8), .int .i64 u, .string (⟨#[]⟩), .int .i64 a] from by have := BoxN.new (w.alloc (.cells #[.int .i64 0, .int .i64 0, .int .i64 0, .string ⟨#[]⟩, .int .i64 0] 143)) [.int .i64 ((n : Int) / 8), .int .i64 ((n : Int) % 8), .int .i64 u, .string (⟨#[]⟩), .int .i64 a] 143; rwa [World.size_alloc] at this)
      have hBW := hd (below_a2 w (a := .cells #[.int .i64 0, .int .i64 0, .int .i64 0, .string ⟨#[]⟩, .int .i64 0] 143) (b := .cells #[.int .i64 ((n : Int) / 8), .int .i64 ((n : Int) % 8), .int .i64 u, .string (⟨#[]⟩), .int .i64 a] 143))
      change Hd (BoxN ((w.alloc (.cells #[.int .i64 0, .int .i64 0, .int .i64 0, .string ⟨#[]⟩, .int .i64 0] 143)).alloc (.cells #[.int .i64 ((n : Int) / 8), .int .i64 ((n : Int) % 8), .int .i64 u, .string (⟨#[]⟩), .int .i64 a] 143)) _ _) at B0
      generalize (w.alloc (.cells #[.int .i64 0, .int .i64 0, .int .i64 0, .string ⟨#[]⟩, .int .i64 0] 143)).alloc (.cells #[.int .i64 ((n : Int) / 8), .int .i64 ((n : Int) % 8), .int .i64 u, .string (⟨#[]⟩), .int .i64 a] 143) = W at B0 B1 hBW ⊢
      cases ok2 with
      | false =>
        have hko := hd (show fieldOkAt s.data.toList a = false by rw [hO2.out]; rfl)
        have q0 := B0.out.1 0 _ rfl; have r0 := B0.out.2.1 0; have q1 := B0.out.1 1 _ rfl; have r1 := B0.out.2.1 1; have q2 := B0.out.1 2 _ rfl; have r2 := B0.out.2.1 2; have q3 := B0.out.1 3 _ rfl; have r3 := B0.out.2.1 3; have q4 := B0.out.1 4 _ rfl; have r4 := B0.out.2.1 4
        have p0 := B1.out.1 0 _ rfl; have p1 := B1.out.1 1 _ rfl; have p2 := B1.out.1 2 _ rfl; have p3 := B1.out.1 3 _ rfl; have p4 := B1.out.1 4 _ rfl
        go_region
        all_goals go_wp2_with fail
        all_goals refine bodyPost_ret (v := .tuple #[.agg #[.int .i64 ((n : Int) / 8), .int .i64 ((n : Int) % 8), .int .i64 u, .string ⟨#[]⟩, .int .i64 a], .int .i64 e2, .bool false]) (by simp [results, Try.results172, go_sem, q0, q1, q2, q3, q4]) rfl ⟨⟨⟨(n : Int) / 8, (n : Int) % 8, u, ⟨#[]⟩⟩, a⟩, e2, by rw [hko.out], fun h => by (rw [hko.out] at h; cases h), ?_⟩
        all_goals first | exact (((((hBW.out.setCell (by simp) _).setCell (by simp) _).setCell (by simp) _).setCell (by simp) _).setCell (by simp) _) | exact (((((hBW.out.setCell (by simp) _).setCell (by simp) _).setCell (by simp) _).setCell (by simp) _).setCell (by simp) _).drew
      | true =>
        have hko := hd (show fieldOkAt s.data.toList a = q by rw [hO2.out]; simp)
        have hok := hd (show fieldOkAt s.data.toList a = true → (⟨⟨(n : Int) / 8, (n : Int) % 8, u, ⟨#[]⟩⟩, (a : Nat)⟩ : DPlaced) = ⟨fieldAt s.data.toList a, (a : Nat)⟩ ∧ (e2 : Int) = (fieldEnd s.data.toList a : Nat) from fun _ => ⟨by rw [hA.out], by rw [hE.out]⟩)
        have p0 := B1.out.1 0 _ rfl; have p1 := B1.out.1 1 _ rfl; have p2 := B1.out.1 2 _ rfl; have p3 := B1.out.1 3 _ rfl; have p4 := B1.out.1 4 _ rfl
        go_region_with (go_at_call 150; refine (c3.out _).mono ?_; rintro e w5 ⟨rfl, hb5⟩; have B0' := hd (B0.out.drew.below hb5); have B1' := hd (B1.out.drew.below hb5); have hBV := hd (hBW.out.drew.next hb5); clear hb5; have q0 := B0'.out.1 0 _ rfl; have r0 := B0'.out.2.1 0; have q1 := B0'.out.1 1 _ rfl; have r1 := B0'.out.2.1 1; have q2 := B0'.out.1 2 _ rfl; have r2 := B0'.out.2.1 2; have q3 := B0'.out.1 3 _ rfl; have r3 := B0'.out.2.1 3; have q4 := B0'.out.1 4 _ rfl; have r4 := B0'.out.2.1 4; have s0 := B1'.out.1 0 _ rfl; have s1 := B1'.out.1 1 _ rfl; have s2 := B1'.out.1 2 _ rfl; have s3 := B1'.out.1 3 _ rfl; have s4 := B1'.out.1 4 _ rfl)
        all_goals go_wp2_with fail
        all_goals refine bodyPost_ret (v := .tuple #[.agg #[.int .i64 ((n : Int) / 8), .int .i64 ((n : Int) % 8), .int .i64 u, .string ⟨#[]⟩, .int .i64 a], .int .i64 e2, .bool q]) (by simp [results, Try.results172, go_sem, q0, q1, q2, q3, q4]) rfl ⟨⟨⟨(n : Int) / 8, (n : Int) % 8, u, ⟨#[]⟩⟩, a⟩, e2, by rw [hko.out], hok.out, ?_⟩
        all_goals first | exact (((((hBV.out.setCell (by simp) _).setCell (by simp) _).setCell (by simp) _).setCell (by simp) _).setCell (by simp) _) | exact (((((hBV.out.setCell (by simp) _).setCell (by simp) _).setCell (by simp) _).setCell (by simp) _).setCell (by simp) _).drew
end Go.Proofs.Ytbjilpemckoioaa
/- readPlaced of the program: the fields of bytes. -/
namespace Go.Proofs.Ytbjilpemckoioaa
open Go.RowKit
set_option linter.unusedVariables false
set_option maxRecDepth 100000
theorem infoPlaced : (Try.prog.info? 143).map (fun i => (i.zero, i.size, i.bytes)) = some (some (.agg #[.int .i64 0, .int .i64 0, .int .i64 0, .string ⟨#[]⟩, .int .i64 0]), 5, 48) := by kernel_rfl
/-- A slice of the call's own, and a bool. -/
def OwnBPost (E : TypeId) (sz : Nat) (rows : List (List Value)) (b : Bool) (w : World) (e : Ending) (w' : World) : Prop :=
  ∃ v, e = .returned (.tuple #[v, .bool b]) ∧ Own w' w.heap.size E sz v rows ∧ Below w.heap.size w w'
theorem readB_of {l : List UInt8} (hl : l.length ≤ 400) {r : Option (List DPlaced)} (h : r = readF l (l.length + 1) 0 []) : readB l = r.isSome ∧ readL l = r.getD [] := by
  rw [readB, readL, readP, if_pos hl, ← h]; exact ⟨rfl, rfl⟩
theorem readF_stop {l : List UInt8} {n a : Nat} {acc : List DPlaced} (ha : a < l.length) (h : ¬ (fieldOkAt l a = true ∧ acc.length ≠ 40)) : readF l (n + 1) a acc = none := by
  rw [readF, if_pos ha, if_neg h]
theorem readF_go {l : List UInt8} {n a : Nat} {acc : List DPlaced} (ha : a < l.length) (h1 : fieldOkAt l a = true) (h2 : acc.length ≠ 40) : readF l (n + 1) a acc = readF l n (fieldEnd l a) (acc ++ [⟨fieldAt l a, (a : Nat)⟩]) := by
  rw [readF, if_pos ha, if_pos ⟨h1, h2⟩]
theorem readF_end {l : List UInt8} {n a : Nat} {acc : List DPlaced} (ha : ¬ a < l.length) : readF l (n + 1) a acc = some acc := by
  rw [readF, if_neg ha]
set_option maxHeartbeats 1600000 in
theorem readPlaced_i (s : ByteArray) (w : World) (hs : s.size ≤ 1048576) :
    Calls Try.prog 142 #[.string s] w (OwnBPost 143 5 ((readL s.data.toList).map DPlaced.enc) (readB s.data.toList) w) := by
  have hdl := data_len s
  by_cases h400 : s.size ≤ 400
  · have hg : ¬ (400 : Int) < (s.size : Int) := by omega
    obtain ⟨i0, hi, hz0, hz1, hz2⟩ := info_parts infoPlaced
    have Hi := hd hi; have Hz0 := hd hz0; have Hz1 := hd hz1; have Hz2 := hd hz2
    clear hi hz0 hz1 hz2
    have hrb := hd (fun r h => readB_of (l := s.data.toList) (by omega) (r := r) h)
    have cT := hd (fun a w h => takeField_i s a w hs h)
    have hfe := hd (fun a h => fieldEnd_bd (l := s.data.toList) (a := a) h)
    generalize s.data.toList = l at *
    replace hdl := hd hdl
    go_enter Try.func142, Try.ntmps142
    go_wp2_with fail
    go_loopw [4, 5] (fun o i wr => ∃ (a n : Nat) (acc : List DPlaced), i = .int .i64 a ∧ a ≤ s.size ∧ acc.length ≤ 40 ∧ Hd (Own wr w.heap.size 143 5 o (acc.map DPlaced.enc)) ∧ Hd (readF l (n + 1) a acc = readF l (l.length + 1) 0 []) ∧ l.length - a ≤ n ∧ Hd (Below w.heap.size w wr)) (fun _ i _ => s.size - (intOf i).toNat)
    case atStart => exact ⟨0, l.length, [], rfl, Nat.zero_le _, by simp, own_made w _ _, rfl, by omega, below_a1 _⟩
    case round =>
      obtain ⟨a, n, acc, rfl, hle, hal, hown, hrf, hn, hbl⟩ := hrel
      obtain ⟨wo, rfl⟩ : ∃ wo : World, wo = wr := ⟨_, rfl⟩
      have hsz := hbl.out.size
      by_cases hlt : a < s.size
      · have hltI : (a : Int) < (s.size : Int) := by omega
        have hal2 : a < l.length := by rw [hdl.out]; exact hlt
        have hov := hd hown.out.sl
        go_wp2_with fail
        refine (cT.out a _ (by omega)).mono ?_
        rintro e w3 ⟨x, en, rfl, hx, hb3⟩
        have ho3 := hd ((hown.out.below hb3).below (below_a1 w3 (a := .cells #[.int .i64 x.f.no, .int .i64 x.f.kind, .int .i64 x.f.num, .string x.f.data, .int .i64 x.at_] 143)))
        have hB3 := hd ((hbl.out.next hb3).next (below_a1 w3 (a := .cells #[.int .i64 x.f.no, .int .i64 x.f.kind, .int .i64 x.f.num, .string x.f.data, .int .i64 x.at_] 143)))
        have hX := hd (show BoxN (w3.alloc (.cells #[.int .i64 x.f.no, .int .i64 x.f.kind, .int .i64 x.f.num, .string x.f.data, .int .i64 x.at_] 143)) w3.heap.size [.int .i64 x.f.no, .int .i64 x.f.kind, .int .i64 x.f.num, .string x.f.data, .int .i64 x.at_] from BoxN.new w3 x.enc 143)
        replace hx := hd hx
        clear hb3
        obtain ⟨ao, co, rfl, _⟩ := hov.out
        simp only [List.length_map] at *
        cases hok : fieldOkAt l a with
        | false =>
          have hr := hd (hrb.out none (by rw [← hrf.out]; exact (readF_stop hal2 (fun h => by rw [hok] at h; cases h.1)).symm))
          go_wp2_with fail
          go_ret2
          exact ⟨_, by rw [hr.out.1]; rfl, by rw [hr.out.2]; exact Own.nil, hB3.out⟩
        | true =>
          obtain ⟨hx1, hx2⟩ := hx.out hok
          obtain ⟨he1, he2⟩ := hfe.out a hok
          by_cases h40 : acc.length = 40
          · have h40I : ((acc.length : Int) == 40) = true := by simp; omega
            have hr := hd (hrb.out none (by rw [← hrf.out]; exact (readF_stop hal2 (fun h => h.2 h40)).symm))
            clear hx1 hx2 h40
            go_wp2_with fail
            go_ret2
            exact ⟨_, by rw [hr.out.1]; rfl, by rw [hr.out.2]; exact Own.nil, hB3.out⟩
          · have h40I : ((acc.length : Int) == 40) = false := by simp; omega
            have hrn := hd (readF_go (n := n) hal2 hok h40)
            obtain ⟨m, hm⟩ : ∃ m, n = m + 1 := ⟨n - 1, by omega⟩
            have hrf2 := hd (show readF l (m + 1) (fieldEnd l a) (acc ++ [x]) = readF l (l.length + 1) 0 [] by rw [← hrf.out, hrn.out, hx1, hm])
            have hend := hd (show Value.int .i64 en = .int .i64 (fieldEnd l a : Nat) by rw [hx2])
            replace hx1 := hd hx1
            have hx2h := hd hx2
            clear hx2
            replace hm := hd hm
            go_upto_region 7 with (fail)
            have q0 := hX.out.1 0 _ rfl; have q1 := hX.out.1 1 _ rfl; have q2 := hX.out.1 2 _ rfl; have q3 := hX.out.1 3 _ rfl; have q4 := hX.out.1 4 _ rfl
            change Hd (Own (w3.alloc (.cells #[.int .i64 x.f.no, .int .i64 x.f.kind, .int .i64 x.f.num, .string x.f.data, .int .i64 x.at_] 143)) _ _ _ _ _) at ho3
            clear hX
            have hw4 : w.heap.size ≤ (w3.alloc (.cells #[.int .i64 x.f.no, .int .i64 x.f.kind, .int .i64 x.f.num, .string x.f.data, .int .i64 x.at_] 143)).heap.size := hB3.out.size
            generalize w3.alloc (.cells #[.int .i64 x.f.no, .int .i64 x.f.kind, .int .i64 x.f.num, .string x.f.data, .int .i64 x.at_] 143) = w4 at *
            go_wp2_with (at_builtin; refine wpList_appOwn rfl (.tmp 31) (.tmp 33) 135 rfl w.heap.size 143 i0 _ 5 48 Try.underlying135 Hi.out Hz0.out Hz1.out Hz2.out rfl (by decide) _ ((acc).map DPlaced.enc) [DPlaced.enc x] rfl (ho3.out.below (below_a1 _)) _ 1 1 rfl rfl (one_row rfl) (cells_new _ _ _) (DPlaced.enc_one [x]) (by simp only [List.length_map]; omega) (by decide) (by first | omega | exact Nat.le_refl _ | (simp; done) | (simp; omega)) ?_; intro v5 w5 ho5 hga hva; have hB5 := hd ((hB3.out.next (below_a1 _)).grown hga (by first | omega | exact Nat.le_refl _ | (simp; done) | (simp; omega)) (fun g hg => (ho3.out.lt g hg).1)); replace ho5 := hd (own_snoc ho5); clear hga hva)
            go_roundw
            case rel => exact ⟨fieldEnd l a, m, acc ++ [x], hend.out, by have := hdl.out; omega, by simp; omega, ho5, hrf2, by have := hm.out; omega, hB5⟩
            case measure => have h1 := hx2h.out; have h2 := hdl.out; simp [intOf]; omega
      · have hltI : ¬ (a : Int) < (s.size : Int) := by omega
        have hr := hd (hrb.out (some acc) (by rw [← hrf.out]; exact (readF_end (by have := hdl.out; omega)).symm))
        go_wp2_with fail
        go_ret2
        exact ⟨_, by rw [hr.out.1]; rfl, by rw [hr.out.2]; exact hown.out, hbl.out⟩
  · have hg : (400 : Int) < (s.size : Int) := by omega
    have hr := hd (show readB s.data.toList = false ∧ readL s.data.toList = [] by rw [readB, readL, readP, if_neg (by omega)]; exact ⟨rfl, rfl⟩)
    clear hdl
    go_enter Try.func142, Try.ntmps142
    go_wp2_with fail
    go_ret2
    exact ⟨_, by rw [hr.out.1]; rfl, by rw [hr.out.2]; exact Own.nil, Below.refl _ _⟩
end Go.Proofs.Ytbjilpemckoioaa
/- Lists of numbers of fields: rising ones; what is in a list. -/
namespace Go.Proofs.Ytbjilpemckoioaa
open Go.RowKit
set_option linter.unusedVariables false
set_option maxRecDepth 100000

theorem rows_at {w : World} {a : Option Addr} {sz k : Nat} {rows : List (List Value)} (h : rows = [] ∨ ∃ b o, a = some ⟨b, o, none⟩ ∧ b < w.heap.size ∧ ∀ i r, rows[i]? = some r → ∀ j u, r[j]? = some u → w.cell? ⟨b, o + i * sz + j, none⟩ = some u) (hk : k < rows.length) :
    ∃ b o, a = some ⟨b, o, none⟩ ∧ Cells w b o sz rows := by
  rcases h with h | ⟨b, o, e, C⟩
  · rw [h] at hk; simp at hk
  · exact ⟨b, o, e, C⟩
def prevI (l : List Int) (k : Nat) : Int := if k = 0 then 0 else l.getD (k - 1) 0
def nosBad (l : List Int) (k : Nat) : Bool := !decide (1 ≤ l.getD k 0 ∧ l.getD k 0 ≤ 30 ∧ prevI l k < l.getD k 0)
def risB (l : List Int) : Bool := (List.range l.length).all fun i => !nosBad l i
theorem ris_true {l : List Int} (h : ∀ i, i < l.length → nosBad l i = false) : risB l = true := by
  rw [risB, List.all_eq_true]
  intro i hi
  rw [h i (by simpa using hi)]; rfl
theorem ris_false {l : List Int} {k : Nat} (hk : k < l.length) (h : nosBad l k = true) : risB l = false := by
  rw [risB, List.all_eq_false]
  exact ⟨k, by simpa using hk, by simp [h]⟩
theorem ris_nos {l : List Int} (h : risB l = true) : ∀ i, i < l.length → nosBad l i = false := by
  intro i hi
  cases e : nosBad l i with
  | false => rfl
  | true => rw [ris_false hi e] at h; cases h
theorem prev_succ {l : List Int} {k : Nat} (h : k < l.length) : prevI l (k + 1) = l[k] := by
  rw [prevI, if_neg (by omega), Nat.add_sub_cancel, List.getD_eq_getElem?_getD, List.getElem?_eq_getElem h]; rfl
theorem getD_lt {l : List Int} {k : Nat} (h : k < l.length) : l.getD k 0 = l[k] := by
  rw [List.getD_eq_getElem?_getD, List.getElem?_eq_getElem h]; rfl
def UpTo (p : Nat → Bool) (k : Nat) : Prop := ∀ i, i < k → p i = false
theorem UpTo.zero (p : Nat → Bool) : UpTo p 0 := fun i h => absurd h (by omega)
theorem UpTo.step {p : Nat → Bool} {k : Nat} (h : UpTo p k) (hp : p k = false) : UpTo p (k + 1) := by
  intro i hi
  by_cases e : i = k
  · subst e; exact hp
  · exact h i (by omega)
theorem prev_bd {l : List Int} {k : Nat} (hk : k ≤ l.length) (h : UpTo (nosBad l) k) : 0 ≤ prevI l k ∧ prevI l k ≤ 30 := by
  rw [prevI]
  split
  · omega
  · have := h (k - 1) (by omega)
    simp only [nosBad, Bool.not_eq_false', decide_eq_true_eq] at this
    omega

set_option maxHeartbeats 400000 in
theorem risingNos_i (l : List Int) (v : Value) (w : World) (hl : l.length ≤ 1000000000000) (h : Sl w v 1 (l.map encI)) (b : Bool) (hb : risB l = b) :
    Calls Try.prog 91 #[v] w (fun e w' => e = .returned (.bool b) ∧ w = w') := by
  replace hb := hd hb
  obtain ⟨a1, c1, rfl, hrr⟩ := h
  replace hrr := hd hrr
  simp only [List.length_map]
  go_enter Try.func91, Try.ntmps91
  go_wp2_with fail
  go_loopw [3, 8] (fun bf i wr => ∃ k : Nat, k ≤ l.length ∧ i = .int .i64 k ∧ bf = .int .i64 (prevI l k) ∧ Hd (UpTo (nosBad l) k) ∧ wr = w) (fun _ i _ => l.length - (intOf i).toNat)
  case atStart => exact ⟨0, Nat.zero_le _, rfl, rfl, UpTo.zero _, rfl⟩
  case round =>
    obtain ⟨k, hk, rfl, rfl, hup, rfl⟩ := hrel
    obtain ⟨hp0, hp1⟩ := prev_bd hk hup.out
    by_cases hlt : k < l.length
    · have hltI : (k : Int) < (l.length : Int) := by omega
      obtain ⟨b1, o1, rfl, C1⟩ := rows_at hrr.out (k := k) (by simpa using hlt)
      have f0 := Cells.rowI l k hlt C1
      have hps := hd (prev_succ hlt)
      obtain ⟨q, hq⟩ : ∃ q, nosBad l k = q := ⟨_, rfl⟩
      have c1 := hd (fun w => within_i l[k] (prevI l k + 1) 30 w (!q) (by
        rw [← hq, nosBad, getD_lt hlt, Bool.not_not]
        congr 1; apply propext; constructor <;> intro h <;> omega))
      replace hq := hd hq
      generalize l[k] = x at *
      generalize prevI l k = p at *
      cases q with
      | true =>
        have hbf := hd (show b = false by rw [← hb.out]; exact ris_false hlt hq.out)
        go_wp2_with (go_at_call 123; refine (c1.out _).mono ?_; rintro e w' ⟨rfl, rfl⟩)
        go_ret
        exact ⟨by rw [hbf.out]; rfl, rfl⟩
      | false =>
        have hup2 := hd (hup.out.step hq.out)
        go_wp2_with (go_at_call 123; refine (c1.out _).mono ?_; rintro e w' ⟨rfl, rfl⟩)
        go_roundw
        case rel => exact ⟨k + 1, by omega, by go_num, by rw [hps.out], hup2, by first | rfl | trivial⟩
        case measure => simp [intOf]; omega
    · have hltI : ¬ (k : Int) < (l.length : Int) := by omega
      have hbt := hd (show b = true by rw [← hb.out]; exact ris_true (fun i hi => hup.out i (by omega)))
      go_wp2_with fail
      go_ret
      exact ⟨by rw [hbt.out]; rfl, rfl⟩

set_option maxHeartbeats 400000 in
theorem nos_s (l : List Int) (v : Value) (w : World) (hl : l.length ≤ 1000000000000) (h : Sl w v 1 (l.map encI)) (b : Bool) (hb : risB l = b) :
    Calls Try.prog 87 #[v] w (fun e w' => e = .returned (.bool b) ∧ w = w') := by
  replace hb := hd hb
  obtain ⟨a1, c1, rfl, hrr⟩ := h
  replace hrr := hd hrr
  simp only [List.length_map]
  go_enter Try.func87, Try.ntmps87
  go_wp2_with fail
  go_loopw [7] (fun i wr => ∃ k : Nat, k ≤ l.length ∧ i = .int .i64 k ∧ Hd (UpTo (nosBad l) k) ∧ wr = w) (fun i _ => l.length - (intOf i).toNat)
  case atStart => exact ⟨0, Nat.zero_le _, rfl, UpTo.zero _, rfl⟩
  case round =>
    obtain ⟨k, hk, rfl, hup, rfl⟩ := hrel
    by_cases hlt : k < l.length
    · have hltI : (k : Int) < (l.length : Int) := by omega
      obtain ⟨b1, o1, rfl, C1⟩ := rows_at hrr.out (k := k) (by simpa using hlt)
      have f0 := Cells.rowI l k hlt C1
      obtain ⟨r, hr⟩ : ∃ r, decide (1 ≤ l[k] ∧ l[k] ≤ 30) = r := ⟨_, rfl⟩
      have c1 := hd (fun w => within_s l[k] 1 30 w r hr)
      replace hr := hd hr
      cases r with
      | false =>
        have hbf := hd (show b = false by
          rw [← hb.out]; refine ris_false hlt ?_
          have h1 := hr.out
          simp only [decide_eq_false_iff_not] at h1
          rw [nosBad, getD_lt hlt]; simp only [Bool.not_eq_true', decide_eq_false_iff_not]; omega)
        go_wp2_with (go_at_call 118; refine (c1.out _).mono ?_; rintro e w' ⟨rfl, rfl⟩)
        go_ret
        exact ⟨by rw [hbf.out]; rfl, rfl⟩
      | true =>
        by_cases hk0 : k = 0
        · subst hk0
          have f00 : wr.cell? ⟨b1, o1, none⟩ = some (.int .i64 l[0]) := f0
          have hup2 := hd (hup.out.step (show nosBad l 0 = false by
            have h1 := hr.out
            simp only [decide_eq_true_eq] at h1
            rw [nosBad, getD_lt hlt, prevI]; simp; omega))
          go_wp2_with (go_at_call 118; refine (c1.out _).mono ?_; rintro e w' ⟨rfl, rfl⟩)
          go_roundw
          case rel => exact ⟨1, by omega, by go_num, hup2, by first | rfl | trivial⟩
          case measure => simp [intOf]; omega
        · obtain ⟨j, rfl⟩ : ∃ j, k = j + 1 := ⟨k - 1, by omega⟩
          have f1 := Cells.rowI l j (by omega) C1
          have hj0 : (0 : Int) < ((j + 1 : Nat) : Int) := by omega
          have hj1 : (((j + 1 : Nat) : Int) - 1) = (j : Int) := by omega
          have hjl : (j : Int) < (l.length : Int) := by omega
          have hpv := prev_succ (show j < l.length by omega)
          by_cases hge : l[j + 1] ≤ l[j]
          · have hbf := hd (show b = false by
              rw [← hb.out]; refine ris_false hlt ?_
              rw [nosBad, getD_lt hlt, hpv]; simp only [Bool.not_eq_true', decide_eq_false_iff_not]; omega)
            clear hpv
            go_wp2_with (go_at_call 118; refine (c1.out _).mono ?_; rintro e w' ⟨rfl, rfl⟩)
            go_ret
            exact ⟨by rw [hbf.out]; rfl, rfl⟩
          · have hup2 := hd (hup.out.step (show nosBad l (j + 1) = false by
              have h1 := hr.out
              simp only [decide_eq_true_eq] at h1
              rw [nosBad, getD_lt hlt, hpv]; simp only [Bool.not_eq_false', decide_eq_true_eq]; omega))
            clear hpv
            go_wp2_with (go_at_call 118; refine (c1.out _).mono ?_; rintro e w' ⟨rfl, rfl⟩)
            go_roundw
            case rel => exact ⟨j + 1 + 1, by omega, by go_num, hup2, by first | rfl | trivial⟩
            case measure => simp [intOf]; omega
    · have hltI : ¬ (k : Int) < (l.length : Int) := by omega
      have hbt := hd (show b = true by rw [← hb.out]; exact ris_true (fun i hi => hup.out i (by omega)))
      go_wp2_with fail
      go_ret
      exact ⟨by rw [hbt.out]; rfl, rfl⟩

def eqN (n : Int) (x : Int) : Bool := n == x
def hasB (l : List Int) (n : Int) : Bool := l.any (eqN n)

set_option maxHeartbeats 400000 in
theorem index_int (l : List Int) (n : Int) (v : Value) (w : World) (hl : l.length ≤ 1000000000000) (h : Sl w v 1 (l.map encI)) :
    Calls Try.prog 173 #[v, .int .i64 n] w (fun e w' => e = .returned (.int .i64 (fidx (eqN n) l)) ∧ w = w') := by
  obtain ⟨a1, c1, rfl, hrr⟩ := h
  replace hrr := hd hrr
  simp only [List.length_map]
  go_enter Try.func173, Try.ntmps173
  go_wp2_with fail
  go_loopw [8] (fun i wr => ∃ k : Nat, k ≤ l.length ∧ i = .int .i64 k ∧ Hd (fidx_from (eqN n) l k) ∧ wr = w) (fun i _ => l.length - (intOf i).toNat)
  case atStart => exact ⟨0, Nat.zero_le _, rfl, fidx_zero _ _, rfl⟩
  case round =>
    obtain ⟨k, hk, rfl, hfx, rfl⟩ := hrel
    by_cases hlt : k < l.length
    · have hltI : (k : Int) < (l.length : Int) := by omega
      obtain ⟨b1, o1, rfl, C1⟩ := rows_at hrr.out (k := k) (by simpa using hlt)
      have f0 := Cells.rowI l k hlt C1
      cases hq : eqN n l[k] with
      | true =>
        have hres := hd (fidx_hit hlt hfx.out hq)
        have hq2 : (n == l[k]) = true := hq
        clear hq
        go_wp2_with fail
        go_ret
        exact ⟨by rw [hres.out]; rfl, rfl⟩
      | false =>
        have hst := hd (fidx_step hlt hfx.out hq)
        have hq2 : (n == l[k]) = false := hq
        clear hq
        go_wp2_with fail
        go_roundw
        case rel => exact ⟨k + 1, by omega, by go_num, hst, by first | rfl | trivial⟩
        case measure => simp [intOf]; omega
    · have hltI : ¬ (k : Int) < (l.length : Int) := by omega
      have hres := hd (fidx_none (by omega) hfx.out)
      go_wp2_with fail
      go_ret
      exact ⟨by rw [hres.out]; rfl, rfl⟩

theorem contains_int (l : List Int) (n : Int) (v : Value) (w : World) (hl : l.length ≤ 1000000000000) (h : Sl w v 1 (l.map encI)) (b : Bool) (hb : hasB l n = b) :
    Calls Try.prog 143 #[v, .int .i64 n] w (fun e w' => e = .returned (.bool b) ∧ w = w') := by
  have hc := hd (fun w h => index_int l n v w hl h)
  have hS := hd h
  have hany := fidx_any (eqN n) l
  rw [show l.any (eqN n) = b from hb] at hany
  generalize fidx (eqN n) l = r at hc hany
  clear h hb
  cases b with
  | true =>
    have h0 : 0 ≤ r := hany.2 rfl
    clear hany
    go_enter Try.func143, Try.ntmps143
    go_wp2_with fail
    refine (hc.out _ hS.out).mono ?_
    rintro e w2 ⟨rfl, rfl⟩
    go_wp2_with fail
    go_ret
    exact ⟨rfl, rfl⟩
  | false =>
    have h0 : decide (0 ≤ r) = false := by have := mt hany.1 (by simp); simp; omega
    clear hany
    go_enter Try.func143, Try.ntmps143
    go_wp2_with fail
    refine (hc.out _ hS.out).mono ?_
    rintro e w2 ⟨rfl, rfl⟩
    go_wp2_with fail
    go_ret
    exact ⟨rfl, rfl⟩
set_option maxHeartbeats 400000 in
theorem has_s (l : List Int) (n : Int) (v : Value) (w : World) (hl : l.length ≤ 1000000000000) (h : Sl w v 1 (l.map encI)) (b : Bool) (hb : hasB l n = b) :
    Calls Try.prog 79 #[v, .int .i64 n] w (fun e w' => e = .returned (.bool b) ∧ w = w') := by
  replace hb := hd hb
  obtain ⟨a1, c1, rfl, hrr⟩ := h
  replace hrr := hd hrr
  simp only [List.length_map]
  go_enter Try.func79, Try.ntmps79
  go_wp2_with fail
  go_loopw [9] (fun i wr => ∃ k : Nat, k ≤ l.length ∧ i = .int .i64 k ∧ Hd (fidx_from (eqN n) l k) ∧ wr = w) (fun i _ => l.length - (intOf i).toNat)
  case atStart => exact ⟨0, Nat.zero_le _, rfl, fidx_zero _ _, rfl⟩
  case round =>
    obtain ⟨k, hk, rfl, hfx, rfl⟩ := hrel
    by_cases hlt : k < l.length
    · have hltI : (k : Int) < (l.length : Int) := by omega
      obtain ⟨b1, o1, rfl, C1⟩ := rows_at hrr.out (k := k) (by simpa using hlt)
      have f0 := Cells.rowI l k hlt C1
      cases hq : eqN n l[k] with
      | true =>
        have hbt := hd (show b = true by rw [← hb.out]; exact List.any_eq_true.2 ⟨_, List.getElem_mem hlt, hq⟩)
        have hq2 : (l[k] == n) = true := by simp only [eqN] at hq; simp at hq ⊢; exact hq.symm
        clear hq
        go_wp2_with fail
        go_ret
        exact ⟨by rw [hbt.out]; rfl, rfl⟩
      | false =>
        have hst := hd (fidx_step hlt hfx.out hq)
        have hq2 : (l[k] == n) = false := by simp only [eqN] at hq; simp at hq ⊢; exact fun e => hq e.symm
        clear hq
        go_wp2_with fail
        go_roundw
        case rel => exact ⟨k + 1, by omega, by go_num, hst, by first | rfl | trivial⟩
        case measure => simp [intOf]; omega
    · have hltI : ¬ (k : Int) < (l.length : Int) := by omega
      have hbf := hd (show b = false by
        rw [← hb.out]
        rw [hasB, List.any_eq_false]
        intro x hx
        obtain ⟨i, hi, rfl⟩ := List.mem_iff_getElem.1 hx
        rw [hfx.out i hi (by omega)]; simp)
      go_wp2_with fail
      go_ret
      exact ⟨by rw [hbf.out]; rfl, rfl⟩
end Go.Proofs.Ytbjilpemckoioaa
/- The fields that were read; the cells of placed fields. -/
namespace Go.Proofs.Ytbjilpemckoioaa
open Go.RowKit
set_option linter.unusedVariables false
set_option maxRecDepth 100000
def readFs (l : List UInt8) : List DField := (readL l).map (·.f)
theorem readL_false {l : List UInt8} (h : readB l = false) : readL l = [] := by
  rw [readB] at h; rw [readL]; cases hr : readP l with
  | none => rfl
  | some x => rw [hr] at h; cases h
theorem readFs_len (l : List UInt8) : (readFs l).length ≤ 40 := by rw [readFs, List.length_map]; exact readL_len l
theorem Cells.rowPlaced {w : World} {b o : Nat} (l : List DPlaced) (k : Nat) (h : k < l.length) (C : Cells w b o 5 (l.map DPlaced.enc)) :
    w.cell? ⟨b, o + k * 5, none⟩ = some (.int .i64 l[k].f.no) ∧ w.cell? ⟨b, o + k * 5 + 1, none⟩ = some (.int .i64 l[k].f.kind) ∧ w.cell? ⟨b, o + k * 5 + 2, none⟩ = some (.int .i64 l[k].f.num) ∧ w.cell? ⟨b, o + k * 5 + 3, none⟩ = some (.string l[k].f.data) ∧ w.cell? ⟨b, o + k * 5 + 4, none⟩ = some (.int .i64 l[k].at_) := by
  have hr : (l.map DPlaced.enc)[k]? = some (l[k].enc) := by simp [h]
  exact ⟨C.2 k _ hr 0 _ rfl, C.2 k _ hr 1 _ rfl, C.2 k _ hr 2 _ rfl, C.2 k _ hr 3 _ rfl, C.2 k _ hr 4 _ rfl⟩
end Go.Proofs.Ytbjilpemckoioaa
/- l1Read and ReadFields of the reference. -/
namespace Go.Proofs.Ytbjilpemckoioaa
open Go.RowKit
set_option linter.unusedVariables false
set_option maxRecDepth 100000
theorem DField.enc_one (l : List DField) : ∀ u ∈ (l.map DField.enc).flatten, u.oneCell' = true := by
  intro u hu
  obtain ⟨r, hr, hu⟩ := List.mem_flatten.1 hu
  obtain ⟨x, _, rfl⟩ := List.mem_map.1 hr
  simp only [DField.enc, List.mem_cons, List.not_mem_nil, or_false] at hu
  rcases hu with rfl | rfl | rfl | rfl <;> rfl
theorem tkS_true {l : List UInt8} {a : Nat} (h : (tkI l a).2.2 = true) : tkS l a = tkI l a := by rw [tkS, if_pos h]
theorem fieldB_kind {x : DField} (h0 : ¬ x.kind = 0) (h2 : ¬ x.kind = 2) : fieldB x = false := by
  rw [fieldB, if_neg h0, if_neg h2]; simp
set_option maxHeartbeats 3200000 in
theorem read_s (s : ByteArray) (w : World) (hs : s.size ≤ 400) :
    Calls Try.prog 171 #[.string s] w (OwnBPost 141 4 ((readFs s.data.toList).map DField.enc) (readB s.data.toList) w) := by
  have hdl := data_len s
  obtain ⟨i0, hi, hz0, hz1, hz2⟩ := info_parts infoField
  have Hi := hd hi; have Hz0 := hd hz0; have Hz1 := hd hz1; have Hz2 := hd hz2
  clear hi hz0 hz1 hz2
  have hrb := hd (fun r h => readB_of (l := s.data.toList) (by omega) (r := r) h)
  have cT := hd (fun a w h => take_s s a w (by omega) h)
  have hext := hd (fun f m => (show s.extract f (f + m) = mkS ((s.data.toList.drop f).take m) by rw [Lib.extract_eq]; congr 3; omega))
  have hfe := hd (fun a h => fieldEnd_bd (l := s.data.toList) (a := a) h)
  generalize s.data.toList = l at *
  replace hdl := hd hdl
  go_enter Try.func171, Try.ntmps171
  go_wp2_with fail
  go_loopw [4, 5] (fun o i wr => ∃ (a nn : Nat) (acc : List DPlaced), i = .int .i64 a ∧ a ≤ s.size ∧ acc.length ≤ 40 ∧ Hd (Own wr w.heap.size 141 4 o ((acc.map (fun p => p.f)).map DField.enc)) ∧ Hd (readF l (nn + 1) a acc = readF l (l.length + 1) 0 []) ∧ l.length - a ≤ nn ∧ Hd (Below w.heap.size w wr)) (fun _ i _ => s.size - (intOf i).toNat)
  case atStart => exact ⟨0, l.length, [], rfl, Nat.zero_le _, by simp, Own.nil, rfl, by omega, Below.refl _ _⟩
  case round =>
    obtain ⟨a, nn, acc, rfl, hle, hal, hown, hrf, hn, hbl⟩ := hrel
    obtain ⟨wo, rfl⟩ : ∃ wo : World, wo = wr := ⟨_, rfl⟩
    have hsz := hbl.out.size
    by_cases hlt : a < s.size
    · have hltI : (a : Int) < (s.size : Int) := by omega
      have hal2 : a < l.length := by rw [hdl.out]; exact hlt
      have hov := hd hown.out.sl
      obtain ⟨ao, co, rfl, _⟩ := hov.out
      simp only [List.length_map] at *
      have c1 := hd (cT.out a wo (by omega))
      cases hb1 : (tkI l a).2.2 with
      | false =>
        have hz : tkS l a = (0, 0, false) := by rw [tkS, if_neg (by rw [hb1]; simp)]
        rw [hz] at c1
        have hr := hd (hrb.out none (by rw [← hrf.out]; exact (readF_stop hal2 (fun h => by have := h.1; rw [fieldOkAt, hb1] at this; cases this)).symm))
        clear hb1 hz
        go_wp2_with fail
        refine c1.out.mono ?_
        rintro e w3 ⟨rfl, rfl⟩
        go_wp2_with fail
        go_ret2
        exact ⟨_, by rw [hr.out.1]; rfl, by rw [show readFs l = [] by rw [readFs, hr.out.2]; rfl]; exact Own.nil, hbl.out⟩
      | true =>
        rw [tkS_true hb1] at c1
        have hbd := (tkI_bd l a).2 hb1
        obtain ⟨⟨n, f, b1⟩, ht⟩ : ∃ t, tkI l a = t := ⟨_, rfl⟩
        rw [ht] at c1 hbd hb1
        dsimp only at hbd hb1
        subst hb1
        obtain ⟨h2, h3, h4⟩ := hbd
        have h4s : f ≤ s.size := by have := hdl.out; omega
        have c2 := hd (cT.out f wo (by omega))
        cases hb2 : (tkI l f).2.2 with
        | false =>
          have hz : tkS l f = (0, 0, false) := by rw [tkS, if_neg (by rw [hb2]; simp)]
          rw [hz] at c2
          have hr := hd (hrb.out none (by
            rw [← hrf.out]
            refine (readF_stop hal2 (fun h => ?_)).symm
            have h1 := h.1
            rw [fieldOkAt, ht] at h1
            dsimp only at h1
            split at h1
            · rw [tb_bad (fun hh => by rw [hb2] at hh; cases hh.1)] at h1; cases h1
            · rw [hb2] at h1; cases h1))
          clear hb2 hz ht
          go_wp2_with fail
          refine c1.out.mono ?_
          rintro e w3 ⟨rfl, rfl⟩
          go_wp2_with fail
          refine c2.out.mono ?_
          rintro e w3 ⟨rfl, rfl⟩
          go_wp2_with fail
          go_ret2
          exact ⟨_, by rw [hr.out.1]; rfl, by rw [show readFs l = [] by rw [readFs, hr.out.2]; rfl]; exact Own.nil, hbl.out⟩
        | true =>
          rw [tkS_true hb2] at c2
          have hbd := (tkI_bd l f).2 hb2
          obtain ⟨⟨m, e2, ok2⟩, ht2⟩ : ∃ t, tkI l f = t := ⟨_, rfl⟩
          rw [ht2] at c2 hbd hb2
          dsimp only at hbd hb2
          subst hb2
          obtain ⟨h5, h6, h7⟩ := hbd
          have h7s : e2 ≤ s.size := by have := hdl.out; omega
          by_cases hk : n % 8 = 0
          · have hkb : ((n : Int) % 8 == 0) = true := by simp; omega
            have hk2 : ¬ n % 8 = 2 := by omega
            have cu := hd (fun w => unfold_s (m : Int) w (by omega) (by omega))
            have hub := unf_bd (m : Int) (by omega) (by omega)
            obtain ⟨u, hu⟩ : ∃ u, unf (m : Int) = u := ⟨_, rfl⟩
            rw [hu] at cu hub
            have hA : fieldAt l a = ⟨(n : Int) / 8, (n : Int) % 8, u, ⟨#[]⟩⟩ := by rw [fieldAt, ht]; dsimp only; rw [if_neg hk2, ht2, hu]; simp
            obtain ⟨q, hq⟩ : ∃ q, fieldB ⟨(n : Int) / 8, (n : Int) % 8, u, ⟨#[]⟩⟩ = q := ⟨_, rfl⟩
            have hF := hd (show fieldOkAt l a = q by rw [fieldOkAt, hA, hq, ht]; dsimp only; rw [if_neg hk2, ht2]; simp)
            have hx := hd (show q = true → (⟨(n : Int) / 8, (n : Int) % 8, u, ⟨#[]⟩⟩ : DField) = fieldAt l a ∧ (e2 : Int) = (fieldEnd l a : Nat) from fun _ => ⟨hA.symm, by rw [fieldEnd, ht]; dsimp only; rw [if_neg hk2, ht2]⟩)
            clear hA hk hk2 ht ht2 hu
            go_wp2_with fail
            refine c1.out.mono ?_
            rintro e w3 ⟨rfl, rfl⟩
            go_wp2_with fail
            refine c2.out.mono ?_
            rintro e w3 ⟨rfl, rfl⟩
            go_upto_region 17 with (go_at_call 196; refine (cu.out _).mono ?_; rintro e w2 ⟨rfl, rfl⟩)
            have hX := hd (show BoxN (wo.alloc (.cells #[.int .i64 ((n : Int) / 8), .int .i64 ((n : Int) % 8), .int .i64 u, .string ⟨#[]⟩] 141)) wo.heap.size [.int .i64 ((n : Int) / 8), .int .i64 ((n : Int) % 8), .int .i64 u, .string ⟨#[]⟩] from BoxN.new wo [.int .i64 ((n : Int) / 8), .int .i64 ((n : Int) % 8), .int .i64 u, .string ⟨#[]⟩] 141)
            have ho3 := hd (hown.out.below (below_a1 wo (a := .cells #[.int .i64 ((n : Int) / 8), .int .i64 ((n : Int) % 8), .int .i64 u, .string ⟨#[]⟩] 141)))
            have hB3 := hd (hbl.out.next (below_a1 wo (a := .cells #[.int .i64 ((n : Int) / 8), .int .i64 ((n : Int) % 8), .int .i64 u, .string ⟨#[]⟩] 141)))
            have p0 := hX.out.1 0 _ rfl; have p1 := hX.out.1 1 _ rfl; have p2 := hX.out.1 2 _ rfl; have p3 := hX.out.1 3 _ rfl
            generalize wo.alloc (.cells #[.int .i64 ((n : Int) / 8), .int .i64 ((n : Int) % 8), .int .i64 u, .string ⟨#[]⟩] 141) = w3 at *
            have c4 := hd (fun w => field_s ⟨(n : Int) / 8, (n : Int) % 8, u, ⟨#[]⟩⟩ w q hq)
            replace hq := hd hq
            cases q with
            | false =>
              have hr := hd (hrb.out none (by rw [← hrf.out]; exact (readF_stop hal2 (fun h => by rw [hF.out] at h; cases h.1)).symm))
              go_wp2_with fail
              refine (c4.out _).mono ?_
              rintro e w5 ⟨rfl, hb5⟩
              have hB5 := hd (hB3.out.next hb5)
              clear hb5
              go_wp2_with fail
              go_ret2
              exact ⟨_, by rw [hr.out.1]; rfl, by rw [show readFs l = [] by rw [readFs, hr.out.2]; rfl]; exact Own.nil, hB5.out⟩
            | true =>
              by_cases h40 : acc.length = 40
              · have h40I : ((acc.length : Int) == 40) = true := by simp; omega
                have hr := hd (hrb.out none (by rw [← hrf.out]; exact (readF_stop hal2 (fun h => h.2 h40)).symm))
                clear h40
                go_wp2_with fail
                refine (c4.out _).mono ?_
                rintro e w5 ⟨rfl, hb5⟩
                have hB5 := hd (hB3.out.next hb5)
                clear hb5
                go_wp2_with fail
                go_ret2
                exact ⟨_, by rw [hr.out.1]; rfl, by rw [show readFs l = [] by rw [readFs, hr.out.2]; rfl]; exact Own.nil, hB5.out⟩
              · have h40I : ((acc.length : Int) == 40) = false := by simp; omega
                have hrn := hd (readF_go (n := nn) hal2 hF.out h40)
                obtain ⟨m', hm'⟩ : ∃ m', nn = m' + 1 := ⟨nn - 1, by omega⟩
                have hbd2 := hfe.out a hF.out
                have hrf2 := hd (show readF l (m' + 1) (fieldEnd l a) (acc ++ [⟨fieldAt l a, (a : Nat)⟩]) = readF l (l.length + 1) 0 [] by rw [← hrf.out, hrn.out, hm'])
                have hend := hd (show Value.int .i64 ((e2 : Int)) = .int .i64 (fieldEnd l a : Nat) by rw [(hx.out (by first | rfl | trivial)).2])
                have hmap := hd (show acc.map (fun p => p.f) ++ [⟨(n : Int) / 8, (n : Int) % 8, u, ⟨#[]⟩⟩] = (acc ++ [(⟨fieldAt l a, (a : Nat)⟩ : DPlaced)]).map (fun p => p.f) by rw [List.map_append, ← (hx.out (by first | rfl | trivial)).1]; rfl)
                replace hm' := hd hm'
                go_wp2_with fail
                refine (c4.out _).mono ?_
                rintro e w5 ⟨rfl, hb5⟩
                have hB5 := hd (hB3.out.next hb5)
                have ho5 := hd (ho3.out.below hb5)
                have k0 := keepCell hb5 p0
                have k1 := keepCell hb5 p1
                have k2 := keepCell hb5 p2
                have k3 := keepCell hb5 p3
                have hsz5 := hB5.out.size
                clear hb5 p0 p1 p2 p3
                go_wp2_with (at_builtin; refine wpList_appOwn rfl (.tmp 70) (.tmp 72) 81 rfl w.heap.size 141 i0 _ 4 40 Try.underlying81 Hi.out Hz0.out Hz1.out Hz2.out rfl (by decide) _ ((acc.map (fun p => p.f)).map DField.enc) [DField.enc ⟨(n : Int) / 8, (n : Int) % 8, u, ⟨#[]⟩⟩] rfl (ho5.out.below (below_a1 _)) _ 1 1 rfl rfl (one_row rfl) (cells_new _ _ _) (DField.enc_one [⟨(n : Int) / 8, (n : Int) % 8, u, ⟨#[]⟩⟩]) (by simp only [List.length_map]; omega) (by decide) (by first | omega | exact Nat.le_refl _ | (simp; done) | (simp; omega)) ?_; intro v6 w6 ho6 hga hva; have hB6 := hd ((hB5.out.next (below_a1 _)).grown hga (by first | omega | exact Nat.le_refl _ | (simp; done) | (simp; omega)) (fun g hg => (ho5.out.lt g hg).1)); replace ho6 := hd (own_snoc ho6); clear hga hva)
                rw [hmap.out] at ho6
                have hme := hd (show ((e2 : Int)) = (fieldEnd l a : Nat) from (hx.out (by first | rfl | trivial)).2)
                go_roundw
                case rel => exact ⟨fieldEnd l a, m', acc ++ [⟨fieldAt l a, (a : Nat)⟩], hend.out, by have := hdl.out; omega, by simp; omega, ho6, hrf2, by have := hm'.out; omega, hB6⟩
                case measure => have h1 := hme.out; have h2 := hdl.out; simp [intOf]; omega
          · have hkb : ((n : Int) % 8 == 0) = false := by simp; omega
            by_cases hmx : m + e2 ≤ s.size
            · have hmI : ¬ (s.size : Int) - (e2 : Int) < (m : Int) := by omega
              have hml : m + e2 ≤ l.length := by rw [hdl.out]; exact hmx
              have hxt := hext.out e2 m
              obtain ⟨d, hd0⟩ : ∃ d, (l.drop e2).take m = d := ⟨_, rfl⟩
              rw [hd0] at hxt
              obtain ⟨q, hq⟩ : ∃ q, fieldB ⟨(n : Int) / 8, (n : Int) % 8, 0, mkS d⟩ = q := ⟨_, rfl⟩
              have htb : tb l f = (d, e2 + m, true) := by rw [tb, ht2]; dsimp only; rw [if_pos ⟨rfl, hml⟩, hd0]
              have hF := hd (show fieldOkAt l a = q by
                by_cases hk2 : n % 8 = 2
                · have hA : fieldAt l a = ⟨(n : Int) / 8, (n : Int) % 8, 0, mkS d⟩ := by rw [fieldAt, ht]; dsimp only; rw [if_pos hk2, htb]; simp; omega
                  rw [fieldOkAt, hA, hq, ht]; dsimp only; rw [if_pos hk2, htb]; simp
                · rw [fieldOkAt, fieldB_kind, ← hq, fieldB_kind]
                  · simp
                  · show ¬ (n : Int) % 8 = 0; omega
                  · show ¬ (n : Int) % 8 = 2; omega
                  · rw [fieldAt, ht]; dsimp only; rw [if_neg hk2]; show ¬ ((n % 8 : Nat) : Int) = 0; omega
                  · rw [fieldAt, ht]; dsimp only; rw [if_neg hk2]; show ¬ ((n % 8 : Nat) : Int) = 2; omega)
              have hx := hd (show q = true → (⟨(n : Int) / 8, (n : Int) % 8, 0, mkS d⟩ : DField) = fieldAt l a ∧ ((e2 : Int) + (m : Int)) = (fieldEnd l a : Nat) from fun hqt => by
                by_cases hk2 : n % 8 = 2
                · refine ⟨?_, ?_⟩
                  · rw [fieldAt, ht]; dsimp only; rw [if_pos hk2, htb]; simp; omega
                  · rw [fieldEnd, ht]; dsimp only; rw [if_pos hk2, htb]; simp
                · rw [← hq, fieldB_kind (by show ¬ (n : Int) % 8 = 0; omega) (by show ¬ (n : Int) % 8 = 2; omega)] at hqt; cases hqt)
              replace hd0 := hd hd0
              replace htb := hd htb
              clear hk ht ht2
              go_wp2_with fail
              refine c1.out.mono ?_
              rintro e w3 ⟨rfl, rfl⟩
              go_wp2_with fail
              refine c2.out.mono ?_
              rintro e w3 ⟨rfl, rfl⟩
              go_upto_region 17 with (fail)
              try rw [hxt]
              clear hxt
              have hX := hd (show BoxN (wo.alloc (.cells #[.int .i64 ((n : Int) / 8), .int .i64 ((n : Int) % 8), .int .i64 0, .string (mkS d)] 141)) wo.heap.size [.int .i64 ((n : Int) / 8), .int .i64 ((n : Int) % 8), .int .i64 0, .string (mkS d)] from BoxN.new wo [.int .i64 ((n : Int) / 8), .int .i64 ((n : Int) % 8), .int .i64 0, .string (mkS d)] 141)
              have ho3 := hd (hown.out.below (below_a1 wo (a := .cells #[.int .i64 ((n : Int) / 8), .int .i64 ((n : Int) % 8), .int .i64 0, .string (mkS d)] 141)))
              have hB3 := hd (hbl.out.next (below_a1 wo (a := .cells #[.int .i64 ((n : Int) / 8), .int .i64 ((n : Int) % 8), .int .i64 0, .string (mkS d)] 141)))
              have p0 := hX.out.1 0 _ rfl; have p1 := hX.out.1 1 _ rfl; have p2 := hX.out.1 2 _ rfl; have p3 := hX.out.1 3 _ rfl
              generalize wo.alloc (.cells #[.int .i64 ((n : Int) / 8), .int .i64 ((n : Int) % 8), .int .i64 0, .string (mkS d)] 141) = w3 at *
              have c4 := hd (fun w => field_s ⟨(n : Int) / 8, (n : Int) % 8, 0, mkS d⟩ w q hq)
              replace hq := hd hq
              cases q with
              | false =>
                have hr := hd (hrb.out none (by rw [← hrf.out]; exact (readF_stop hal2 (fun h => by rw [hF.out] at h; cases h.1)).symm))
                go_wp2_with fail
                refine (c4.out _).mono ?_
                rintro e w5 ⟨rfl, hb5⟩
                have hB5 := hd (hB3.out.next hb5)
                clear hb5
                go_wp2_with fail
                go_ret2
                exact ⟨_, by rw [hr.out.1]; rfl, by rw [show readFs l = [] by rw [readFs, hr.out.2]; rfl]; exact Own.nil, hB5.out⟩
              | true =>
                by_cases h40 : acc.length = 40
                · have h40I : ((acc.length : Int) == 40) = true := by simp; omega
                  have hr := hd (hrb.out none (by rw [← hrf.out]; exact (readF_stop hal2 (fun h => h.2 h40)).symm))
                  clear h40
                  go_wp2_with fail
                  refine (c4.out _).mono ?_
                  rintro e w5 ⟨rfl, hb5⟩
                  have hB5 := hd (hB3.out.next hb5)
                  clear hb5
                  go_wp2_with fail
                  go_ret2
                  exact ⟨_, by rw [hr.out.1]; rfl, by rw [show readFs l = [] by rw [readFs, hr.out.2]; rfl]; exact Own.nil, hB5.out⟩
                · have h40I : ((acc.length : Int) == 40) = false := by simp; omega
                  have hrn := hd (readF_go (n := nn) hal2 hF.out h40)
                  obtain ⟨m', hm'⟩ : ∃ m', nn = m' + 1 := ⟨nn - 1, by omega⟩
                  have hbd2 := hfe.out a hF.out
                  have hrf2 := hd (show readF l (m' + 1) (fieldEnd l a) (acc ++ [⟨fieldAt l a, (a : Nat)⟩]) = readF l (l.length + 1) 0 [] by rw [← hrf.out, hrn.out, hm'])
                  have hend := hd (show Value.int .i64 ((e2 : Int) + (m : Int)) = .int .i64 (fieldEnd l a : Nat) by rw [(hx.out (by first | rfl | trivial)).2])
                  have hmap := hd (show acc.map (fun p => p.f) ++ [⟨(n : Int) / 8, (n : Int) % 8, 0, mkS d⟩] = (acc ++ [(⟨fieldAt l a, (a : Nat)⟩ : DPlaced)]).map (fun p => p.f) by rw [List.map_append, ← (hx.out (by first | rfl | trivial)).1]; rfl)
                  replace hm' := hd hm'
                  go_wp2_with fail
                  refine (c4.out _).mono ?_
                  rintro e w5 ⟨rfl, hb5⟩
                  have hB5 := hd (hB3.out.next hb5)
                  have ho5 := hd (ho3.out.below hb5)
                  have k0 := keepCell hb5 p0
                  have k1 := keepCell hb5 p1
                  have k2 := keepCell hb5 p2
                  have k3 := keepCell hb5 p3
                  have hsz5 := hB5.out.size
                  clear hb5 p0 p1 p2 p3
                  go_wp2_with (at_builtin; refine wpList_appOwn rfl (.tmp 70) (.tmp 72) 81 rfl w.heap.size 141 i0 _ 4 40 Try.underlying81 Hi.out Hz0.out Hz1.out Hz2.out rfl (by decide) _ ((acc.map (fun p => p.f)).map DField.enc) [DField.enc ⟨(n : Int) / 8, (n : Int) % 8, 0, mkS d⟩] rfl (ho5.out.below (below_a1 _)) _ 1 1 rfl rfl (one_row rfl) (cells_new _ _ _) (DField.enc_one [⟨(n : Int) / 8, (n : Int) % 8, 0, mkS d⟩]) (by simp only [List.length_map]; omega) (by decide) (by first | omega | exact Nat.le_refl _ | (simp; done) | (simp; omega)) ?_; intro v6 w6 ho6 hga hva; have hB6 := hd ((hB5.out.next (below_a1 _)).grown hga (by first | omega | exact Nat.le_refl _ | (simp; done) | (simp; omega)) (fun g hg => (ho5.out.lt g hg).1)); replace ho6 := hd (own_snoc ho6); clear hga hva)
                  rw [hmap.out] at ho6
                  have hme := hd (show ((e2 : Int) + (m : Int)) = (fieldEnd l a : Nat) from (hx.out (by first | rfl | trivial)).2)
                  go_roundw
                  case rel => exact ⟨fieldEnd l a, m', acc ++ [⟨fieldAt l a, (a : Nat)⟩], hend.out, by have := hdl.out; omega, by simp; omega, ho6, hrf2, by have := hm'.out; omega, hB6⟩
                  case measure => have h1 := hme.out; have h2 := hdl.out; simp [intOf]; omega
            · have hmI : (s.size : Int) - (e2 : Int) < (m : Int) := by omega
              have hr := hd (hrb.out none (by
                rw [← hrf.out]
                refine (readF_stop hal2 (fun h => ?_)).symm
                have h1 := h.1
                by_cases hk2 : n % 8 = 2
                · rw [fieldOkAt, ht] at h1
                  dsimp only at h1
                  rw [if_pos hk2, tb_bad (fun hh => by rw [ht2, hdl.out] at hh; dsimp only at hh; omega)] at h1
                  cases h1
                · rw [fieldOkAt, fieldB_kind] at h1
                  · simp at h1
                  · rw [fieldAt, ht]; dsimp only; rw [if_neg hk2]; show ¬ ((n % 8 : Nat) : Int) = 0; omega
                  · rw [fieldAt, ht]; dsimp only; rw [if_neg hk2]; show ¬ ((n % 8 : Nat) : Int) = 2; omega))
              clear hk ht ht2
              have hB3 := hd (fun (o : Obj) => hbl.out.next (below_a1 wo (a := o)))
              go_wp2_with fail
              refine c1.out.mono ?_
              rintro e w3 ⟨rfl, rfl⟩
              go_wp2_with fail
              refine c2.out.mono ?_
              rintro e w3 ⟨rfl, rfl⟩
              go_wp2_with fail
              go_ret2
              exact ⟨_, by rw [hr.out.1]; rfl, by rw [show readFs l = [] by rw [readFs, hr.out.2]; rfl]; exact Own.nil, hB3.out _⟩
    · have hltI : ¬ (a : Int) < (s.size : Int) := by omega
      have hr := hd (hrb.out (some acc) (by rw [← hrf.out]; exact (readF_end (by have := hdl.out; omega)).symm))
      go_wp2_with fail
      go_ret2
      exact ⟨_, by rw [hr.out.1]; rfl, by rw [show readFs l = acc.map (fun p => p.f) by rw [readFs, hr.out.2]; rfl]; exact hown.out, hbl.out⟩
theorem readB_long {l : List UInt8} (h : 400 < l.length) : readB l = false := by rw [readB, readP, if_neg (by omega)]; rfl
theorem ReadFields_so (s : ByteArray) (w : World) (hs : s.size ≤ 1048576) (b : Bool) (hb : readB s.data.toList = b) (r : List DField) (hr : readFs s.data.toList = r) :
    Calls Try.prog 139 #[.string s] w (OwnBPost 141 4 (r.map DField.enc) b w) := by
  have hdl := data_len s
  by_cases h400 : s.size ≤ 400
  · have c1 := hd (fun w => read_s s w h400)
    rw [hb, hr] at c1
    have hg : ¬ (400 : Int) < (s.size : Int) := by omega
    clear hb hr
    go_enter Try.func139, Try.ntmps139
    go_wp2_with fail
    refine (c1.out _).mono ?_
    rintro e w2 ⟨v2, rfl, ho2, hb2⟩
    replace hb2 := hd hb2
    replace ho2 := hd ho2
    go_wp2_with fail
    go_ret2
    exact ⟨_, rfl, ho2.out, hb2.out⟩
  · have hg : (400 : Int) < (s.size : Int) := by omega
    have hb1 := readB_long (l := s.data.toList) (by omega)
    have hbf := hd (show b = false by rw [← hb, hb1])
    have hrf := hd (show r = [] by rw [← hr, readFs, readL_false hb1]; rfl)
    clear hb hr hb1
    go_enter Try.func139, Try.ntmps139
    go_wp2_with fail
    go_ret2
    exact ⟨_, by rw [hbf.out]; rfl, by rw [hrf.out]; exact Own.nil, Below.refl _ _⟩
theorem ReadFields_s (s : ByteArray) (w : World) (hs : s.size ≤ 1048576) (b : Bool) (hb : readB s.data.toList = b) (r : List DField) (hr : readFs s.data.toList = r) :
    Calls Try.prog 139 #[.string s] w (SlbPost 141 4 (r.map DField.enc) b w) :=
  (ReadFields_so s w hs b hb r hr).mono fun e w' ⟨v, h1, h2, h3⟩ => ⟨v, _, h1, h2.r, h3⟩
end Go.Proofs.Ytbjilpemckoioaa
/- Fields that rise: risingFields of the program, l5Fields of the reference. -/
namespace Go.Proofs.Ytbjilpemckoioaa
open Go.RowKit
set_option linter.unusedVariables false
set_option maxRecDepth 100000

def nBad (ns : List Int) (i : Nat) : Bool := decide (0 < i) && decide (ns.getD i 0 ≤ ns.getD (i - 1) 0)
def risNB (ns : List Int) : Bool := (List.range ns.length).all fun i => !nBad ns i
theorem risN_true {ns : List Int} (h : ∀ i, i < ns.length → nBad ns i = false) : risNB ns = true := by
  rw [risNB, List.all_eq_true]
  intro i hi
  rw [h i (by simpa using hi)]; rfl
theorem risN_false {ns : List Int} {k : Nat} (hk : k < ns.length) (h : nBad ns k = true) : risNB ns = false := by
  rw [risNB, List.all_eq_false]
  exact ⟨k, by simpa using hk, by simp [h]⟩
theorem nBad_zero (ns : List Int) : nBad ns 0 = false := by simp [nBad]
theorem nBad_succ {ns : List Int} {j : Nat} (h : j + 1 < ns.length) : nBad ns (j + 1) = decide (ns[j + 1] ≤ ns[j]) := by
  rw [nBad, getD_lt h, Nat.add_sub_cancel, getD_lt (by omega)]; simp
def nosF (l : List DField) : List Int := l.map (·.no)
/-- Whether bytes are rising fields. -/
def rfB (l : List UInt8) : Bool := readB l && risNB (nosF (readFs l))
def rfL (l : List UInt8) : List DPlaced := if rfB l then readL l else []
def rfF (l : List UInt8) : List DField := if rfB l then readFs l else []
theorem rfF_map (l : List UInt8) : rfF l = (rfL l).map (·.f) := by rw [rfF, rfL]; split <;> simp [readFs]
theorem rfL_len (l : List UInt8) : (rfL l).length ≤ 40 := by
  rw [rfL]
  split
  · exact readL_len l
  · simp
theorem rfF_len (l : List UInt8) : (rfF l).length ≤ 40 := by rw [rfF_map, List.length_map]; exact rfL_len l
set_option maxHeartbeats 1600000 in
theorem rising_i (s : ByteArray) (w : World) (hs : s.size ≤ 1048576) :
    Calls Try.prog 90 #[.string s] w (OwnBPost 143 5 ((rfL s.data.toList).map DPlaced.enc) (rfB s.data.toList) w) := by
  have c1 := hd (fun w => readPlaced_i s w hs)
  have hlen := readL_len s.data.toList
  obtain ⟨b, hb⟩ : ∃ b, readB s.data.toList = b := ⟨_, rfl⟩
  have hB := hd (show rfB s.data.toList = (b && risNB ((readL s.data.toList).map (fun p => p.f.no))) by rw [rfB, hb, nosF, readFs, List.map_map]; rfl)
  have hL := hd (show rfL s.data.toList = if rfB s.data.toList then readL s.data.toList else [] from rfl)
  rw [hb] at c1
  generalize readL s.data.toList = l at *
  generalize rfB s.data.toList = rb at *
  generalize rfL s.data.toList = rl at *
  clear hb
  cases b with
  | false =>
    have hb2 := hd (show rb = false by rw [hB.out]; rfl)
    have hl2 := hd (show rl = [] by rw [hL.out, hb2.out]; rfl)
    go_enter Try.func90, Try.ntmps90
    go_wp2_with fail
    refine (c1.out _).mono ?_
    rintro e w2 ⟨v2, rfl, ho2, hb3⟩
    replace hb3 := hd hb3
    replace ho2 := hd ho2
    go_wp2_with fail
    go_ret2
    exact ⟨_, by rw [hb2.out]; rfl, by rw [hl2.out]; exact Own.nil, hb3.out⟩
  | true =>
    go_enter Try.func90, Try.ntmps90
    go_wp2_with fail
    refine (c1.out _).mono ?_
    rintro e w2 ⟨v2, rfl, ho2, hb3⟩
    obtain ⟨a1, k1, rfl, hrr⟩ := ho2.sl
    replace hb3 := hd hb3
    replace ho2 := hd ho2
    replace hrr := hd hrr
    simp only [List.length_map] at *
    go_wp2_with fail
    go_loopw [16] (fun i wr => ∃ k : Nat, k ≤ l.length ∧ i = .int .i64 k ∧ Hd (UpTo (nBad (l.map (fun p => p.f.no))) k) ∧ Hd (Below w2.heap.size w2 wr)) (fun i _ => l.length - (intOf i).toNat)
    case atStart => exact ⟨0, Nat.zero_le _, rfl, UpTo.zero _, Below.refl _ _⟩
    case round =>
      obtain ⟨k, hk, rfl, hup, hbl⟩ := hrel
      obtain ⟨wo, rfl⟩ : ∃ wo : World, wo = wr := ⟨_, rfl⟩
      by_cases hlt : k < l.length
      · have hltI : (k : Int) < (l.length : Int) := by omega
        cases k with
        | zero =>
          have hup2 := hd (hup.out.step (nBad_zero _))
          have h00 : decide ((0 : Int) < ((0 : Nat) : Int)) = false := by simp
          go_wp2_with fail
          go_region
          all_goals go_wp2_with fail
          all_goals go_roundw
          case rel => exact ⟨1, by omega, by go_num, hup2, hbl.out.drew⟩
          case measure => simp [intOf]; omega
        | succ j =>
          obtain ⟨b1, o1, rfl, C1⟩ := rows_at hrr.out (k := j) (by rw [List.length_map]; omega)
          obtain ⟨f0, _⟩ := Cells.rowPlaced l j (by omega) (C1.mono hbl.out)
          obtain ⟨g0, _⟩ := Cells.rowPlaced l (j + 1) hlt (C1.mono hbl.out)
          have hn := nBad_succ (ns := l.map (fun p => p.f.no)) (j := j) (by simpa using hlt)
          simp only [List.getElem_map] at hn
          generalize l[j] = x at *
          generalize l[j + 1] = y at *
          have hj0 : (0 : Int) < ((j + 1 : Nat) : Int) := by omega
          have hjw : IntKind.i64.wrap (((j + 1 : Nat) : Int) - 1) = (j : Int) := by rw [IntWalk.i64_in _ (by omega)]; omega
          have hjl : (j : Int) < (l.length : Int) := by omega
          by_cases hge : y.f.no ≤ x.f.no
          · have hb2 := hd (show rb = false by rw [hB.out, risN_false (by simpa using hlt) (by rw [hn]; simpa using hge)]; rfl)
            have hl2 := hd (show rl = [] by rw [hL.out, hb2.out]; rfl)
            clear hn
            go_wp2_with fail
            go_quiet (fail)
            go_wp2_with fail
            go_ret2
            exact ⟨_, by rw [hb2.out]; rfl, by rw [hl2.out]; exact Own.nil, hb3.out.next (below_drewN hbl.out _)⟩
          · have hup2 := hd (hup.out.step (by rw [hn]; simpa using hge))
            clear hn
            go_wp2_with fail
            go_quiet (fail)
            go_wp2_with fail
            go_roundw
            case rel => exact ⟨j + 1 + 1, by omega, by go_num, hup2, below_drewN hbl.out _⟩
            case measure => simp [intOf]; omega
      · have hltI : ¬ (k : Int) < (l.length : Int) := by omega
        have hb2 := hd (show rb = true by rw [hB.out, risN_true (fun i hi => hup.out i (by rw [List.length_map] at hi; omega))]; rfl)
        have hl2 := hd (show rl = l by rw [hL.out, hb2.out]; rfl)
        go_wp2_with fail
        go_ret2
        exact ⟨_, by rw [hb2.out]; rfl, by rw [hl2.out]; exact ho2.out.below hbl.out, hb3.out.next hbl.out⟩
end Go.Proofs.Ytbjilpemckoioaa
/- l5Fields and l5Pick of the reference. -/
namespace Go.Proofs.Ytbjilpemckoioaa
open Go.RowKit
set_option linter.unusedVariables false
set_option maxRecDepth 100000
set_option maxHeartbeats 1600000 in
theorem fields5_s (s : ByteArray) (w : World) (hs : s.size ≤ 1048576) :
    Calls Try.prog 86 #[.string s] w (OwnBPost 141 4 ((rfF s.data.toList).map DField.enc) (rfB s.data.toList) w) := by
  have c1 := hd (fun w => ReadFields_so s w hs _ rfl _ rfl)
  have hlen := readFs_len s.data.toList
  obtain ⟨b, hb⟩ : ∃ b, readB s.data.toList = b := ⟨_, rfl⟩
  have hB := hd (show rfB s.data.toList = (b && risNB ((readFs s.data.toList).map (·.no))) by rw [rfB, hb, nosF])
  have hL := hd (show rfF s.data.toList = if rfB s.data.toList then readFs s.data.toList else [] from rfl)
  rw [hb] at c1
  generalize readFs s.data.toList = l at *
  generalize rfB s.data.toList = rb at *
  generalize rfF s.data.toList = rl at *
  clear hb
  cases b with
  | false =>
    have hb2 := hd (show rb = false by rw [hB.out]; rfl)
    have hl2 := hd (show rl = [] by rw [hL.out, hb2.out]; rfl)
    go_enter Try.func86, Try.ntmps86
    go_wp2_with fail
    refine (c1.out _).mono ?_
    rintro e w2 ⟨v2, rfl, ho2, hb3⟩
    replace hb3 := hd hb3
    replace ho2 := hd ho2
    go_wp2_with fail
    go_ret2
    exact ⟨_, by rw [hb2.out]; rfl, by rw [hl2.out]; exact Own.nil, hb3.out⟩
  | true =>
    go_enter Try.func86, Try.ntmps86
    go_wp2_with fail
    refine (c1.out _).mono ?_
    rintro e w2 ⟨v2, rfl, ho2, hb3⟩
    obtain ⟨a1, k1, rfl, hrr⟩ := ho2.sl
    replace hb3 := hd hb3
    replace ho2 := hd ho2
    replace hrr := hd hrr
    simp only [List.length_map] at *
    go_wp2_with fail
    go_loopw [17] (fun i wr => ∃ k : Nat, k ≤ l.length ∧ i = .int .i64 k ∧ Hd (UpTo (nBad (l.map (·.no))) k) ∧ Hd (Below w2.heap.size w2 wr)) (fun i _ => l.length - (intOf i).toNat)
    case atStart => exact ⟨0, Nat.zero_le _, rfl, UpTo.zero _, Below.refl _ _⟩
    case round =>
      obtain ⟨k, hk, rfl, hup, hbl⟩ := hrel
      obtain ⟨wo, rfl⟩ : ∃ wo : World, wo = wr := ⟨_, rfl⟩
      by_cases hlt : k < l.length
      · have hltI : (k : Int) < (l.length : Int) := by omega
        obtain ⟨b1, o1, rfl, C1⟩ := rows_at hrr.out (k := k) (by rw [List.length_map]; omega)
        obtain ⟨f0, f1, f2, f3⟩ := Cells.rowField l k hlt (C1.mono hbl.out)
        cases k with
        | zero =>
          have hup2 := hd (hup.out.step (nBad_zero _))
          generalize l[0] = x at *
          have f00 : wo.cell? ⟨b1, o1, none⟩ = some (.int .i64 x.no) := by simpa using f0
          have f01 : wo.cell? ⟨b1, o1 + 1, none⟩ = some (.int .i64 x.kind) := by simpa using f1
          have f02 : wo.cell? ⟨b1, o1 + 2, none⟩ = some (.int .i64 x.num) := by simpa using f2
          have f03 : wo.cell? ⟨b1, o1 + 3, none⟩ = some (.string x.data) := by simpa using f3
          have h00 : decide ((0 : Int) < ((0 : Nat) : Int)) = false := by simp
          go_upto_region 7 with (fail)
          have hb4 := hd (hbl.out.next (below_a1 wo (a := .cells #[.int .i64 x.no, .int .i64 x.kind, .int .i64 x.num, .string x.data] 141)))
          go_region
          all_goals go_wp2_with fail
          all_goals go_roundw
          case rel => exact ⟨1, by omega, by go_num, hup2, hb4.out.drew⟩
          case measure => simp [intOf]; omega
        | succ j =>
          obtain ⟨g0, _⟩ := Cells.rowField l j (by omega) (C1.mono hbl.out)
          have hn := nBad_succ (ns := l.map (·.no)) (j := j) (by simpa using hlt)
          simp only [List.getElem_map] at hn
          generalize l[j] = x at *
          generalize l[j + 1] = y at *
          have hj0 : (0 : Int) < ((j + 1 : Nat) : Int) := by omega
          have hjw : IntKind.i64.wrap (((j + 1 : Nat) : Int) - 1) = (j : Int) := by rw [IntWalk.i64_in _ (by omega)]; omega
          have hjl : (j : Int) < (l.length : Int) := by omega
          have hb4 := hd (hbl.out.next (below_a1 wo (a := .cells #[.int .i64 y.no, .int .i64 y.kind, .int .i64 y.num, .string y.data] 141)))
          have hx4 := hd (show BoxN (wo.alloc (.cells #[.int .i64 y.no, .int .i64 y.kind, .int .i64 y.num, .string y.data] 141)) wo.heap.size y.enc from BoxN.new wo y.enc _)
          have hg4 := keepCell (below_a1 wo (a := .cells #[.int .i64 y.no, .int .i64 y.kind, .int .i64 y.num, .string y.data] 141)) g0
          go_upto_region 7 with (fail)
          have p0 := hx4.out.1 0 _ rfl
          generalize wo.alloc (.cells #[.int .i64 y.no, .int .i64 y.kind, .int .i64 y.num, .string y.data] 141) = w4 at *
          clear f0 f1 f2 f3 g0
          by_cases hge : y.no ≤ x.no
          · have hb2 := hd (show rb = false by rw [hB.out, risN_false (by simpa using hlt) (by rw [hn]; simpa using hge)]; rfl)
            have hl2 := hd (show rl = [] by rw [hL.out, hb2.out]; rfl)
            clear hn
            go_quiet (fail)
            go_wp2_with fail
            go_ret2
            exact ⟨_, by rw [hb2.out]; rfl, by rw [hl2.out]; exact Own.nil, hb3.out.next (below_drewN hb4.out _)⟩
          · have hup2 := hd (hup.out.step (by rw [hn]; simpa using hge))
            clear hn
            go_quiet (fail)
            go_wp2_with fail
            go_roundw
            case rel => exact ⟨j + 1 + 1, by omega, by go_num, hup2, below_drewN hb4.out _⟩
            case measure => simp [intOf]; omega
      · have hltI : ¬ (k : Int) < (l.length : Int) := by omega
        have hb2 := hd (show rb = true by rw [hB.out, risN_true (fun i hi => hup.out i (by rw [List.length_map] at hi; omega))]; rfl)
        have hl2 := hd (show rl = l by rw [hL.out, hb2.out]; rfl)
        go_wp2_with fail
        go_ret2
        exact ⟨_, by rw [hb2.out]; rfl, by rw [hl2.out]; exact ho2.out.below hbl.out, hb3.out.next hbl.out⟩
/-- The fields with one of some numbers. -/
def pick (nos : List Int) (want : Bool) (l : List DField) : List DField := l.filter fun f => hasB nos f.no == want
theorem pick_pos {nos : List Int} {q : Bool} {l : List DField} {j : Nat} (hj : j < l.length) (h : hasB nos l[j].no = q) : pick nos q (l.take (j + 1)) = pick nos q (l.take j) ++ [l[j]] := by
  rw [List.take_succ_eq_append_getElem hj, pick, List.filter_append]; simp [pick, h]
theorem pick_neg {nos : List Int} {q : Bool} {l : List DField} {j : Nat} (hj : j < l.length) (h : ¬ hasB nos l[j].no = q) : pick nos q (l.take (j + 1)) = pick nos q (l.take j) := by
  rw [List.take_succ_eq_append_getElem hj, pick, List.filter_append]; simp [pick, h]
theorem pick_len (nos : List Int) (q : Bool) (l : List DField) : (pick nos q l).length ≤ l.length := List.length_filter_le _ _
set_option maxHeartbeats 1600000 in
theorem pick_s (l : List DField) (nos : List Int) (q : Bool) (v u : Value) (w : World) (hl : l.length ≤ 1000000) (hn : nos.length ≤ 1000000000) (h : Sl w v 4 (l.map DField.enc)) (hu : Sl w u 1 (nos.map encI)) :
    Calls Try.prog 88 #[v, u, .bool q] w (OwnVPost 141 4 ((pick nos q l).map DField.enc) w) := by
  have hT := hd hu
  obtain ⟨a0, k0, rfl, hrr⟩ := h
  obtain ⟨a1, k1, rfl, _⟩ := hu
  replace hrr := hd hrr
  simp only [List.length_map] at *
  obtain ⟨i0, hi, hz0, hz1, hz2⟩ := info_parts infoField
  have Hi := hd hi; have Hz0 := hd hz0; have Hz1 := hd hz1; have Hz2 := hd hz2
  clear hi hz0 hz1 hz2
  go_enter Try.func88, Try.ntmps88
  go_wp2_with fail
  go_loopw [7, 12] (fun o i wr => ∃ k : Nat, k ≤ l.length ∧ i = .int .i64 k ∧ Hd (Own wr w.heap.size 141 4 o ((pick nos q (l.take k)).map DField.enc)) ∧ Hd (Below w.heap.size w wr)) (fun _ i _ => l.length - (intOf i).toNat)
  case atStart => exact ⟨0, Nat.zero_le _, rfl, Own.nil, Below.refl _ _⟩
  case round =>
    obtain ⟨k, hk, rfl, hown, hbl⟩ := hrel
    obtain ⟨wo, rfl⟩ : ∃ wo : World, wo = wr := ⟨_, rfl⟩
    by_cases hlt : k < l.length
    · have hltI : (k : Int) < (l.length : Int) := by omega
      obtain ⟨b1, o1, rfl, C1⟩ := rows_at hrr.out (k := k) (by rw [List.length_map]; omega)
      obtain ⟨f0, f1, f2, f3⟩ := Cells.rowField l k hlt (C1.mono hbl.out)
      have hpos := hd (fun h => pick_pos (nos := nos) (q := q) hlt h)
      have hneg := hd (fun h => pick_neg (nos := nos) (q := q) hlt h)
      have hpl := pick_len nos q (l.take k)
      rw [List.length_take] at hpl
      have hpl2 : (pick nos q (l.take k)).length ≤ 1000000 := by omega
      clear hpl
      generalize l[k] = x at *
      obtain ⟨p, hp⟩ : ∃ p, hasB nos x.no = p := ⟨_, rfl⟩
      have c3 := hd (fun w h => has_s nos x.no (.slice a1 nos.length k1) w (by omega) h p hp)
      replace hp := hd hp
      have hb4 := hd (hbl.out.next (below_a1 wo (a := .cells #[.int .i64 x.no, .int .i64 x.kind, .int .i64 x.num, .string x.data] 141)))
      have ho4 := hd (hown.out.below (below_a1 wo (a := .cells #[.int .i64 x.no, .int .i64 x.kind, .int .i64 x.num, .string x.data] 141)))
      have hx4 := hd (show BoxN (wo.alloc (.cells #[.int .i64 x.no, .int .i64 x.kind, .int .i64 x.num, .string x.data] 141)) wo.heap.size x.enc from BoxN.new wo x.enc _)
      go_upto_region 5 with (fail)
      have p0 := hx4.out.1 0 _ rfl; have p1 := hx4.out.1 1 _ rfl; have p2 := hx4.out.1 2 _ rfl; have p3 := hx4.out.1 3 _ rfl
      generalize wo.alloc (.cells #[.int .i64 x.no, .int .i64 x.kind, .int .i64 x.num, .string x.data] 141) = w4 at *
      have hsz4 := hb4.out.size
      clear f0 f1 f2 f3 hx4
      go_wp2_with fail
      refine (c3.out _ (hT.out.mono hb4.out)).mono ?_
      rintro e w3 ⟨rfl, rfl⟩
      by_cases hq : p = q
      · have hqb : (p == q) = true := by simpa using hq
        have hst := hd (hpos.out (by rw [hp.out]; exact hq))
        clear hq
        go_wp2_with (at_builtin; refine wpList_appOwn rfl (.tmp 22) (.tmp 24) 81 rfl w.heap.size 141 i0 _ 4 40 Try.underlying81 Hi.out Hz0.out Hz1.out Hz2.out rfl (by decide) _ ((pick nos q (l.take k)).map DField.enc) [DField.enc x] rfl (ho4.out.below (below_a1 _)) _ 1 1 rfl rfl (one_row rfl) (cells_new _ _ _) (DField.enc_one [x]) (by simp only [List.length_map]; omega) (by decide) (by first | omega | exact Nat.le_refl _ | (simp; done) | (simp; omega)) ?_; intro v5 w5 ho5 hga hva; have hb5 := hd ((hb4.out.next (below_a1 _)).grown hga (by first | omega | exact Nat.le_refl _ | (simp; done) | (simp; omega)) (fun g hg => (ho4.out.lt g hg).1)); replace ho5 := hd (own_snoc ho5); clear hga hva)
        go_roundw
        case rel => exact ⟨k + 1, by omega, by go_num, by rw [hst.out]; exact ho5.out, hb5⟩
        case measure => simp [intOf]; omega
      · have hqb : (p == q) = false := by simpa using hq
        have hst := hd (hneg.out (by rw [hp.out]; exact hq))
        clear hq
        go_wp2_with fail
        go_roundw
        case rel => exact ⟨k + 1, by omega, by go_num, by rw [hst.out]; exact ho4.out, hb4⟩
        case measure => simp [intOf]; omega
    · have hltI : ¬ (k : Int) < (l.length : Int) := by omega
      obtain rfl : k = l.length := by omega
      rw [List.take_length] at hown
      go_wp2_with fail
      go_ret
      exact ⟨_, rfl, hown.out, hbl.out⟩
end Go.Proofs.Ytbjilpemckoioaa
/- ReadFields of the program. -/
namespace Go.Proofs.Ytbjilpemckoioaa
open Go.RowKit
set_option linter.unusedVariables false
set_option maxRecDepth 100000
end Go.Proofs.Ytbjilpemckoioaa

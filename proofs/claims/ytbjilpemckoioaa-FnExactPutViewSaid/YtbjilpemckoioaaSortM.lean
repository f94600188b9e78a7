/- The library's stable sort of fields: symMerge. -/
import Derived.Test.YtbjilpemckoioaaSortL
import Derived.Deep.Cut
import Derived.Deep.CutRange
namespace Go.Proofs.Ytbjilpemckoioaa
open Go.Shelf Go.RowKit Go.Lib Go.Sort Go.Proofs
set_option linter.unusedVariables false
set_option maxRecDepth 1000000
section
variable {P : Program} {α : Type} [Inhabited α] {k : Nat}
def SymPost (kf : α → Int) (enc : α → List Value) (k : Nat) (w0 : World) (blk off a b : Nat) (d : Array α) (e : Ending) (w' : World) : Prop := e = .returned (.tuple #[]) ∧ ∃ d', Turn kf a b d d' ∧ Srt kf a b d' ∧ SWK enc k w0 blk off d' w'
set_option maxHeartbeats 4000000 in
theorem symMerge_up (L : SL P k) (enc : α → List Value) (kf : α → Int) (cf : α → α → Int) (hcf : ∀ x y, cf x y < 0 ↔ kf x < kf y) (g : Nat) (cb : Array Value) (blk off cap sz : Nat) (d0 : Array α) (w0 : World)
    (eg : ∀ args w, (callFunc g args).run P w = .ok (.enter g args) w) (hcmp : CmpLays P g cb enc k cf blk off sz w0) (R : RowK enc k w0 blk off d0) (hs : d0.size = sz) (hsz : sz < 4611686018427387904)
    (a m b : Nat) (d : Array α) (w : World) (hds : d.size = sz) (S : SWK enc k w0 blk off d w) (ham : a < m) (hmb : m < b) (hb : b ≤ sz) (hA : Srt kf a m d) (hB : Srt kf m b d) (hone : m - a = 1) :
    Calls P 187 #[.slice (some ⟨blk, off, none⟩) sz cap, .int .i64 a, .int .i64 m, .int .i64 b, .func (.func g) #[] cb] w (SymPost kf enc k w0 blk off a b d) := by
  have mixed := L.mixed; have t0 := L.t0; have a0 := L.a0; have z0 := L.z0; have v0 := L.v0; have t3 := L.t3; have a3 := L.a3; have z3 := L.z3; have v3 := L.v3; have t4 := L.t4; have a4 := L.a4; have z4 := L.z4; have v4 := L.v4; have tS := L.tS; have aS := L.aS; have zS := L.zS; have vS := L.vS; have tF := L.tF; have aF := L.aF; have zF := L.zF; have vF := L.vF; have aE := L.aE; have zE := L.zE; have tU := L.tU; have aU := L.aU; have zU := L.zU; have vU := L.vU
  have FG := L.fSym
  have S0 : Aside (SWK enc k w0 blk off d w) := S
  have HC : Aside _ := hcmp
  have HA : Aside _ := hA
  have HB : Aside _ := hB
  have HCF : Aside _ := hcf
  clear S hcmp hA hB hcf
  have hwm : IntKind.i64.wrap ((m : Int) - (a : Int)) = ((m - a : Nat) : Int) := by rw [IntKind.wrap_i64]; omega
  have hone' : ((m - a : Nat) : Int) = 1 := by omega
  rw [hone'] at hwm
  go_enter FG, Try.ntmps187
  go_wp2
  go_loopg [10, 11] b (fun kx s10 s11 wr => ∃ (i j : Nat), s10 = .int .i64 i ∧ s11 = .int .i64 j ∧ j - i ≤ kx ∧ m ≤ i ∧ i ≤ j ∧ j ≤ b ∧ Aside (SWK enc k w0 blk off d wr) ∧ Aside (UpI kf a m b i j d))
  case atStart => exact ⟨m, b, rfl, rfl, by omega, by omega, by omega, by omega, S0, UpI.start (by omega)⟩
  case round =>
    clear S0
    obtain ⟨i, j, rfl, rfl, hkx, hmi, hile, hjb, S1, U1⟩ := hrel
    by_cases hij : i < j
    · have hijz : (i : Int) < (j : Int) := by omega
      have hwij : IntKind.i64.wrap ((i : Int) + (j : Int)) = (i : Int) + (j : Int) := by rw [IntKind.wrap_i64]; omega
      go_upto_region 5 with (fail)
      obtain ⟨h, hh⟩ : ∃ h, h = (i + j) / 2 := ⟨_, rfl⟩
      rw [show ((i : Int) + (j : Int)) / 2 = (h : Int) by omega]
      have hwh : IntKind.i64.wrap ((h : Int) + 1) = (h : Int) + 1 := by rw [IntKind.wrap_i64]; omega
      have hh1 : i ≤ h := by omega
      have hh2 : h < j := by omega
      clear hh
      have ea1 : ((h : Int)).toNat = h := by omega
      have pa1 : (0 : Int) ≤ (h : Int) := by omega
      have ba1 : (h : Int) < (sz : Int) := by omega
      have ra1 : IntKind.i64.wrap ((h : Int)) = (h : Int) := by rw [IntKind.wrap_i64]; omega
      have ea2 : ((a : Int)).toNat = a := by omega
      have pa2 : (0 : Int) ≤ (a : Int) := by omega
      have ba2 : (a : Int) < (sz : Int) := by omega
      have ra2 : IntKind.i64.wrap ((a : Int)) = (a : Int) := by rw [IntKind.wrap_i64]; omega
      obtain ⟨x1, hx1⟩ : ∃ x, x = d[h]! := ⟨_, rfl⟩
      obtain ⟨y1, hy1⟩ : ∃ x, x = d[a]! := ⟨_, rfl⟩
      have l1a := S1.out.ld R (by omega) P (h) (by omega)
      have l1b := S1.out.ld R (by omega) P (a) (by omega)
      rw [← hx1] at l1a
      rw [← hy1] at l1b
      have hc1 := S1.out.cmp HC.out (by omega) x1 y1
      by_cases hlv : kf x1 < kf y1
      · have hv1 : cf x1 y1 < 0 := (HCF.out x1 y1).2 hlv
        have hd1 : decide (cf x1 y1 < 0) = true := decide_eq_true hv1
        rw [hx1, hy1] at hlv
        have HLV := hd hlv
        clear hx1 hy1 hlv
        go_wp2_with fail
        go_quiet_grown (first | (go_at_fn g; refine Calls.grown_of (hc1 _ _)))
        have S2 : Aside (SWK enc k w0 blk off d (grow (wr.drewN nq) osq)) := S1.out.grown nq osq
        clear l1a l1b hc1 S1
        generalize grow (wr.drewN nq) osq = w2 at S2 ⊢
        clear nq osq
        go_wp2
        go_roundg (j - (h + 1))
        case measure => omega
        case rel => exact ⟨h + 1, j, by first | go_num | (congr 1; omega), rfl, Nat.le_refl _, by omega, by omega, hjb, S2, U1.out.up HB.out (by omega) (by omega) HLV.out⟩
      · have hv1 : ¬ cf x1 y1 < 0 := fun h => hlv ((HCF.out x1 y1).1 h)
        have hd1 : decide (cf x1 y1 < 0) = false := decide_eq_false hv1
        rw [hx1, hy1] at hlv
        have HLV := hd hlv
        clear hx1 hy1 hlv
        go_wp2_with fail
        go_quiet_grown (first | (go_at_fn g; refine Calls.grown_of (hc1 _ _)))
        have S2 : Aside (SWK enc k w0 blk off d (grow (wr.drewN nq) osq)) := S1.out.grown nq osq
        clear l1a l1b hc1 S1
        generalize grow (wr.drewN nq) osq = w2 at S2 ⊢
        clear nq osq
        go_wp2
        go_roundg (h - i)
        case measure => omega
        case rel => exact ⟨i, h, rfl, by first | go_num | (congr 1; omega), Nat.le_refl _, hmi, by omega, by omega, S2, U1.out.down HB.out (by omega) (by omega) (Int.not_lt.2 HLV.out)⟩
    · have hijz : ¬ (i : Int) < (j : Int) := by omega
      obtain rfl : i = j := by omega
      have hwi : IntKind.i64.wrap ((i : Int) - 1) = (i : Int) - 1 := by rw [IntKind.wrap_i64]; omega
      go_wp2
      go_loopg [13] (i - 1 - a) (fun kx s13 wr => ∃ (q : Nat) (dk : Array α), s13 = .int .i64 q ∧ i - 1 - q ≤ kx ∧ a ≤ q ∧ q + 1 ≤ i ∧ dk.size = sz ∧ Aside (SWK enc k w0 blk off dk wr) ∧ Aside (UpK kf a b q d dk))
      case atStart => exact ⟨a, d, rfl, Nat.le_refl _, Nat.le_refl _, by omega, hds, S1, UpK.start a b d⟩
      case round =>
        clear S1
        obtain ⟨q, dk, rfl, hkx, haq, hqi, hdk, S1, K1⟩ := hrel
        by_cases hq : q + 1 < i
        · have hqz : (q : Int) < (i : Int) - 1 := by omega
          have hwq : IntKind.i64.wrap ((q : Int) + 1) = (q : Int) + 1 := by rw [IntKind.wrap_i64]; omega
          have ea1 : ((q : Int)).toNat = q := by omega
          have pa1 : (0 : Int) ≤ (q : Int) := by omega
          have ba1 : (q : Int) < (sz : Int) := by omega
          have ra1 : IntKind.i64.wrap ((q : Int)) = (q : Int) := by rw [IntKind.wrap_i64]; omega
          have ea2 : ((q : Int) + 1).toNat = q + 1 := by omega
          have pa2 : (0 : Int) ≤ (q : Int) + 1 := by omega
          have ba2 : (q : Int) + 1 < (sz : Int) := by omega
          have ra2 : IntKind.i64.wrap ((q : Int) + 1) = (q : Int) + 1 := by rw [IntKind.wrap_i64]; omega
          have S2 : Aside (SWK enc k w0 blk off (swp dk (q) (q + 1)) ((wr.drew.setCells blk (off + (q) * k) (enc dk[q + 1]!)).setCells blk (off + (q + 1) * k) (enc dk[q]!))) := S1.out.swapped R (q) (q + 1) (by omega) (by omega)
          have l1a := S1.out.ld1 R (by omega) P (q) (by omega)
          have l1b := S1.out.ld1 R (by omega) P (q + 1) (by omega)
          have s1a := S1.out.st1 R (by omega) P (q) (by omega) dk[q + 1]!
          have s1b := S1.out.st2 R (by omega) P (q) (q + 1) (by omega) (by omega) dk[q + 1]! dk[q]!
          have n1a : (enc dk[q]!).length = k := R.hk _
          have n1b : (enc dk[q + 1]!).length = k := R.hk _
          generalize enc dk[q]! = cI at S2 l1a s1b n1a
          generalize enc dk[q + 1]! = cJ at S2 l1b s1a s1b n1b
          clear S1
          go_wp2_with fail
          go_big_region_o
          clear l1a l1b s1a s1b
          generalize (wr.drew.setCells blk (off + (q) * k) cJ).setCells blk (off + (q + 1) * k) cI = w2 at S2 ⊢
          go_wp2
          go_roundg (i - 1 - (q + 1))
          case measure => omega
          case rel => exact ⟨q + 1, swp dk q (q + 1), by go_num, Nat.le_refl _, by omega, by omega, by rw [size_swp]; exact hdk, S2, UpK.step K1.out (by omega) U1.out (by omega) haq hq⟩
        · have hqz : ¬ (q : Int) < (i : Int) - 1 := by omega
          go_wp2
          go_end0
          exact ⟨rfl, dk, K1.out.1, UpK.done K1.out (by omega) U1.out HB.out haq (by omega), S1.out⟩
set_option maxHeartbeats 4000000 in
theorem symMerge_dn (L : SL P k) (enc : α → List Value) (kf : α → Int) (cf : α → α → Int) (hcf : ∀ x y, cf x y < 0 ↔ kf x < kf y) (g : Nat) (cb : Array Value) (blk off cap sz : Nat) (d0 : Array α) (w0 : World)
    (eg : ∀ args w, (callFunc g args).run P w = .ok (.enter g args) w) (hcmp : CmpLays P g cb enc k cf blk off sz w0) (R : RowK enc k w0 blk off d0) (hs : d0.size = sz) (hsz : sz < 4611686018427387904)
    (a m b : Nat) (d : Array α) (w : World) (hds : d.size = sz) (S : SWK enc k w0 blk off d w) (ham : a < m) (hmb : m < b) (hb : b ≤ sz) (hA : Srt kf a m d) (hB : Srt kf m b d) (hne : m - a ≠ 1) (hone : b - m = 1) :
    Calls P 187 #[.slice (some ⟨blk, off, none⟩) sz cap, .int .i64 a, .int .i64 m, .int .i64 b, .func (.func g) #[] cb] w (SymPost kf enc k w0 blk off a b d) := by
  have mixed := L.mixed; have t0 := L.t0; have a0 := L.a0; have z0 := L.z0; have v0 := L.v0; have t3 := L.t3; have a3 := L.a3; have z3 := L.z3; have v3 := L.v3; have t4 := L.t4; have a4 := L.a4; have z4 := L.z4; have v4 := L.v4; have tS := L.tS; have aS := L.aS; have zS := L.zS; have vS := L.vS; have tF := L.tF; have aF := L.aF; have zF := L.zF; have vF := L.vF; have aE := L.aE; have zE := L.zE; have tU := L.tU; have aU := L.aU; have zU := L.zU; have vU := L.vU
  have FG := L.fSym
  have S0 : Aside (SWK enc k w0 blk off d w) := S
  have HC : Aside _ := hcmp
  have HA : Aside _ := hA
  have HB : Aside _ := hB
  have HCF : Aside _ := hcf
  clear S hcmp hA hB hcf
  have hwm : IntKind.i64.wrap ((m : Int) - (a : Int)) = ((m - a : Nat) : Int) := by rw [IntKind.wrap_i64]; omega
  have hne1 : (((m - a : Nat) : Int) == 1) = false := by simp; omega
  have hwb : IntKind.i64.wrap ((b : Int) - (m : Int)) = 1 := by rw [IntKind.wrap_i64]; omega
  go_enter FG, Try.ntmps187
  go_wp2
  go_loopg [14, 15] b (fun kx s10 s11 wr => ∃ (i j : Nat), s10 = .int .i64 i ∧ s11 = .int .i64 j ∧ j - i ≤ kx ∧ a ≤ i ∧ i ≤ j ∧ j ≤ m ∧ Aside (SWK enc k w0 blk off d wr) ∧ Aside (DnI kf a m i j d))
  case atStart => exact ⟨a, m, rfl, rfl, by omega, by omega, by omega, by omega, S0, DnI.start (by omega)⟩
  case round =>
    clear S0
    obtain ⟨i, j, rfl, rfl, hkx, hmi, hile, hjb, S1, U1⟩ := hrel
    by_cases hij : i < j
    · have hijz : (i : Int) < (j : Int) := by omega
      have hwij : IntKind.i64.wrap ((i : Int) + (j : Int)) = (i : Int) + (j : Int) := by rw [IntKind.wrap_i64]; omega
      go_upto_region 17 with (fail)
      obtain ⟨h, hh⟩ : ∃ h, h = (i + j) / 2 := ⟨_, rfl⟩
      rw [show ((i : Int) + (j : Int)) / 2 = (h : Int) by omega]
      have hwh : IntKind.i64.wrap ((h : Int) + 1) = (h : Int) + 1 := by rw [IntKind.wrap_i64]; omega
      have hh1 : i ≤ h := by omega
      have hh2 : h < j := by omega
      clear hh
      have ea1 : ((m : Int)).toNat = m := by omega
      have pa1 : (0 : Int) ≤ (m : Int) := by omega
      have ba1 : (m : Int) < (sz : Int) := by omega
      have ra1 : IntKind.i64.wrap ((m : Int)) = (m : Int) := by rw [IntKind.wrap_i64]; omega
      have ea2 : ((h : Int)).toNat = h := by omega
      have pa2 : (0 : Int) ≤ (h : Int) := by omega
      have ba2 : (h : Int) < (sz : Int) := by omega
      have ra2 : IntKind.i64.wrap ((h : Int)) = (h : Int) := by rw [IntKind.wrap_i64]; omega
      obtain ⟨x1, hx1⟩ : ∃ x, x = d[m]! := ⟨_, rfl⟩
      obtain ⟨y1, hy1⟩ : ∃ x, x = d[h]! := ⟨_, rfl⟩
      have l1a := S1.out.ld R (by omega) P (m) (by omega)
      have l1b := S1.out.ld R (by omega) P (h) (by omega)
      rw [← hx1] at l1a
      rw [← hy1] at l1b
      have hc1 := S1.out.cmp HC.out (by omega) x1 y1
      by_cases hlv : kf x1 < kf y1
      · have hv1 : cf x1 y1 < 0 := (HCF.out x1 y1).2 hlv
        have hd1 : decide (cf x1 y1 < 0) = true := decide_eq_true hv1
        rw [hx1, hy1] at hlv
        have HLV := hd hlv
        clear hx1 hy1 hlv
        go_wp2_with fail
        go_quiet_grown (first | (go_at_fn g; refine Calls.grown_of (hc1 _ _)))
        have S2 : Aside (SWK enc k w0 blk off d (grow (wr.drewN nq) osq)) := S1.out.grown nq osq
        clear l1a l1b hc1 S1
        generalize grow (wr.drewN nq) osq = w2 at S2 ⊢
        clear nq osq
        go_wp2
        go_roundg (h - i)
        case measure => omega
        case rel => exact ⟨i, h, rfl, by first | go_num | (congr 1; omega), Nat.le_refl _, hmi, by omega, by omega, S2, U1.out.down HA.out (by omega) (by omega) HLV.out⟩
      · have hv1 : ¬ cf x1 y1 < 0 := fun h => hlv ((HCF.out x1 y1).1 h)
        have hd1 : decide (cf x1 y1 < 0) = false := decide_eq_false hv1
        rw [hx1, hy1] at hlv
        have HLV := hd hlv
        clear hx1 hy1 hlv
        go_wp2_with fail
        go_quiet_grown (first | (go_at_fn g; refine Calls.grown_of (hc1 _ _)))
        have S2 : Aside (SWK enc k w0 blk off d (grow (wr.drewN nq) osq)) := S1.out.grown nq osq
        clear l1a l1b hc1 S1
        generalize grow (wr.drewN nq) osq = w2 at S2 ⊢
        clear nq osq
        go_wp2
        go_roundg (j - (h + 1))
        case measure => omega
        case rel => exact ⟨h + 1, j, by first | go_num | (congr 1; omega), rfl, Nat.le_refl _, by omega, by omega, hjb, S2, U1.out.up HA.out (by omega) (by omega) (Int.not_lt.2 HLV.out)⟩
    · have hijz : ¬ (i : Int) < (j : Int) := by omega
      obtain rfl : i = j := by omega
      go_wp2
      go_loopg [17] (m - i) (fun kx s17 wr => ∃ (q : Nat) (dk : Array α), s17 = .int .i64 q ∧ q - i ≤ kx ∧ i ≤ q ∧ q ≤ m ∧ dk.size = sz ∧ Aside (SWK enc k w0 blk off dk wr) ∧ Aside (DnK kf a m b q d dk))
      case atStart => exact ⟨m, d, rfl, Nat.le_refl _, hjb, Nat.le_refl _, hds, S1, DnK.start a m b d⟩
      case round =>
        clear S1
        obtain ⟨q, dk, rfl, hkx, haq, hqi, hdk, S1, K1⟩ := hrel
        by_cases hq : i < q
        · obtain ⟨r, rfl⟩ : ∃ r, q = r + 1 := ⟨q - 1, by omega⟩
          have hqz : (i : Int) < (r : Int) + 1 := by omega
          have hwq : IntKind.i64.wrap (r : Int) = (r : Int) := by rw [IntKind.wrap_i64]; omega
          have ea1 : ((r : Int) + 1).toNat = r + 1 := by omega
          have pa1 : (0 : Int) ≤ (r : Int) + 1 := by omega
          have ba1 : (r : Int) + 1 < (sz : Int) := by omega
          have ra1 : IntKind.i64.wrap ((r : Int) + 1) = (r : Int) + 1 := by rw [IntKind.wrap_i64]; omega
          have ea2 : ((r : Int)).toNat = r := by omega
          have pa2 : (0 : Int) ≤ (r : Int) := by omega
          have ba2 : (r : Int) < (sz : Int) := by omega
          have ra2 : IntKind.i64.wrap ((r : Int)) = (r : Int) := by rw [IntKind.wrap_i64]; omega
          have S2 : Aside (SWK enc k w0 blk off (swp dk (r + 1) (r)) ((wr.drew.setCells blk (off + (r + 1) * k) (enc dk[r]!)).setCells blk (off + (r) * k) (enc dk[r + 1]!))) := S1.out.swapped R (r + 1) (r) (by omega) (by omega)
          have l1a := S1.out.ld1 R (by omega) P (r + 1) (by omega)
          have l1b := S1.out.ld1 R (by omega) P (r) (by omega)
          have s1a := S1.out.st1 R (by omega) P (r + 1) (by omega) dk[r]!
          have s1b := S1.out.st2 R (by omega) P (r + 1) (r) (by omega) (by omega) dk[r]! dk[r + 1]!
          have n1a : (enc dk[r + 1]!).length = k := R.hk _
          have n1b : (enc dk[r]!).length = k := R.hk _
          generalize enc dk[r + 1]! = cI at S2 l1a s1b n1a
          generalize enc dk[r]! = cJ at S2 l1b s1a s1b n1b
          clear S1
          go_wp2_with fail
          go_big_region_o
          clear l1a l1b s1a s1b
          generalize (wr.drew.setCells blk (off + (r + 1) * k) cJ).setCells blk (off + (r) * k) cI = w2 at S2 ⊢
          go_wp2
          go_roundg (r - i)
          case measure => omega
          case rel => exact ⟨r, swp dk (r + 1) r, by first | rfl | go_num, Nat.le_refl _, by omega, by omega, by rw [size_swp]; exact hdk, S2, DnK.step K1.out hmb (by omega) U1.out (by omega) (by omega)⟩
        · have hqz : ¬ (i : Int) < (q : Int) := by omega
          obtain rfl : q = i := by omega
          go_wp2
          go_end0
          exact ⟨rfl, dk, K1.out.1, DnK.done K1.out (by omega) U1.out HA.out, S1.out⟩
set_option maxHeartbeats 8000000 in
theorem symMerge_mid (L : SL P k) (enc : α → List Value) (kf : α → Int) (cf : α → α → Int) (hcf : ∀ x y, cf x y < 0 ↔ kf x < kf y) (g : Nat) (cb : Array Value) (blk off cap sz : Nat) (d0 : Array α) (w0 : World)
    (eg : ∀ args w, (callFunc g args).run P w = .ok (.enter g args) w) (hcmp : CmpLays P g cb enc k cf blk off sz w0) (R : RowK enc k w0 blk off d0) (hs : d0.size = sz) (hsz : sz < 4611686018427387904)
    (N : Nat) (ih : ∀ (a m b : Nat) (d : Array α) (w : World), b - a ≤ N → d.size = sz → SWK enc k w0 blk off d w → a < m → m < b → b ≤ sz → Srt kf a m d → Srt kf m b d → Calls P 187 #[.slice (some ⟨blk, off, none⟩) sz cap, .int .i64 a, .int .i64 m, .int .i64 b, .func (.func g) #[] cb] w (SymPost kf enc k w0 blk off a b d))
    (a m b : Nat) (d : Array α) (w : World) (hds : d.size = sz) (S : SWK enc k w0 blk off d w) (ham : a < m) (hmb : m < b) (hb : b ≤ sz) (hA : Srt kf a m d) (hB : Srt kf m b d) (hN : b - a ≤ N + 1) (hne : m - a ≠ 1) (hne2 : b - m ≠ 1) :
    Calls P 187 #[.slice (some ⟨blk, off, none⟩) sz cap, .int .i64 a, .int .i64 m, .int .i64 b, .func (.func g) #[] cb] w (SymPost kf enc k w0 blk off a b d) := by
  have mixed := L.mixed; have t0 := L.t0; have a0 := L.a0; have z0 := L.z0; have v0 := L.v0; have t3 := L.t3; have a3 := L.a3; have z3 := L.z3; have v3 := L.v3; have t4 := L.t4; have a4 := L.a4; have z4 := L.z4; have v4 := L.v4; have tS := L.tS; have aS := L.aS; have zS := L.zS; have vS := L.vS; have tF := L.tF; have aF := L.aF; have zF := L.zF; have vF := L.vF; have aE := L.aE; have zE := L.zE; have tU := L.tU; have aU := L.aU; have zU := L.zU; have vU := L.vU
  have FG := L.fSym
  have S0 : Aside (SWK enc k w0 blk off d w) := S
  have HC : Aside _ := hcmp
  have HA : Aside _ := hA
  have HB : Aside _ := hB
  have HCF : Aside _ := hcf
  clear S hcmp hA hB hcf
  have hwm : IntKind.i64.wrap ((m : Int) - (a : Int)) = ((m - a : Nat) : Int) := by rw [IntKind.wrap_i64]; omega
  have hne1 : (((m - a : Nat) : Int) == 1) = false := by simp; omega
  have hwb : IntKind.i64.wrap ((b : Int) - (m : Int)) = ((b - m : Nat) : Int) := by rw [IntKind.wrap_i64]; omega
  have hne2' : (((b - m : Nat) : Int) == 1) = false := by simp; omega
  have hwab : IntKind.i64.wrap ((a : Int) + (b : Int)) = (a : Int) + (b : Int) := by rw [IntKind.wrap_i64]; omega
  have eRot : ∀ args w, (callFunc 203 args).run P w = .ok (.enter 203 args) w := enters_of L.fRot (by kernel_rfl) rfl
  have eSym : ∀ args w, (callFunc 187 args).run P w = .ok (.enter 187 args) w := enters_of L.fSym (by kernel_rfl) rfl
  have hRot : Aside (∀ (s m e : Nat) (W : World), SWK enc k w0 blk off d W → s < m → m < e → e ≤ sz → Calls P 203 #[.slice (some ⟨blk, off, none⟩) sz cap, .int .i64 s, .int .i64 m, .int .i64 e, .func (.func g) #[] cb] W fun e' w' => e' = .returned (.tuple #[]) ∧ ∃ d', RotP s m e d d' ∧ SWK enc k w0 blk off d' w') := by
    intro s m e W hS h1 h2 h3
    have := rotate_k L enc g cb blk off cap s m e d0 d w0 W R (by omega) hS h1 h2 (by omega) (by omega)
    rw [hds] at this
    exact this
  have IH : Aside _ := ih
  clear ih L
  go_enter FG, Try.ntmps187
  go_upto_region 25 with (fail)
  obtain ⟨mid, hmid⟩ : ∃ mid, mid = (a + b) / 2 := ⟨_, rfl⟩
  rw [show ((a : Int) + (b : Int)) / 2 = (mid : Int) by omega]
  have hwn : IntKind.i64.wrap ((mid : Int) + (m : Int)) = (mid : Int) + (m : Int) := by rw [IntKind.wrap_i64]; omega
  have hwp : IntKind.i64.wrap ((mid : Int) + (m : Int) - 1) = (mid : Int) + (m : Int) - 1 := by rw [IntKind.wrap_i64]; omega
  obtain ⟨lo, hi, hlo⟩ : ∃ lo hi, (mid < m ∧ lo = mid + m - b ∧ hi = mid) ∨ (m ≤ mid ∧ lo = a ∧ hi = m) := by
    by_cases h : mid < m
    · exact ⟨_, _, .inl ⟨h, rfl, rfl⟩⟩
    · exact ⟨_, _, .inr ⟨by omega, rfl, rfl⟩⟩
  have HLO := hd hlo
  have HMID := hd hmid
  have hm1 : a < mid := by omega
  have hm2 : mid < b := by omega
  have hm3 : mid - a ≤ N := by omega
  have hm4 : b - mid ≤ N := by omega
  have hlo1 : lo ≤ hi := by omega
  have hlo2 : hi ≤ m := by omega
  have hlo3 : hi ≤ mid := by omega
  have hlo4 : a ≤ lo := by omega
  have hlo5 : mid + m ≤ lo + b := by omega
  clear hlo hmid
  go_upto_region 27 with (fail)
  obtain ⟨t0, ht0⟩ : ∃ t, t = decide (mid < m) := ⟨_, rfl⟩
  have Ht0 := hd ht0
  clear ht0
  go_cut [140] from 138 to 139 (fun t wy => t = .bool t0 ∧ Aside (SWK enc k w0 blk off d wy))
  case first =>
    by_cases h1 : mid < m
    · have h1z : (mid : Int) < (m : Int) := by omega
      have hv := hd (show true = t0 by rw [Ht0.out]; simp [h1])
      go_wp2_with fail
      go_meet
      exact ⟨by rw [← hv.out], S0⟩
    · have h1z : ¬ (mid : Int) < (m : Int) := by omega
      have hv := hd (show false = t0 by rw [Ht0.out]; simp [h1])
      go_wp2_with fail
      go_meet
      exact ⟨by rw [← hv.out], S0⟩
  clear S0
  obtain ⟨rfl, S0⟩ := hcut
  obtain ⟨Wt0, hWt0⟩ : ∃ W, W = wc := ⟨_, rfl⟩
  subst hWt0
  go_upto_if 140 with (fail)
  go_cut [20, 21] from 141 to 146 (fun s20 s21 wy => s20 = .int .i64 lo ∧ s21 = .int .i64 hi ∧ Aside (SWK enc k w0 blk off d wy))
  case first =>
    have hlo := HLO.out
    cases t0 with
    | true =>
      have hcz : (mid : Int) < (m : Int) := Int.ofNat_lt.2 (of_decide_eq_true Ht0.out.symm)
      have hmid := HMID.out
      have hwl : IntKind.i64.wrap ((mid : Int) + (m : Int) - (b : Int)) = (lo : Int) := by rw [IntKind.wrap_i64]; omega
      have hhi := hd (show hi = mid by omega)
      clear hlo hmid
      go_wp2_with fail
      go_meet
      exact ⟨rfl, (show Value.int .i64 (mid : Int) = .int .i64 (hi : Int) by rw [hhi.out]), S0⟩
    | false =>
      have hcz : ¬ (mid : Int) < (m : Int) := fun h => of_decide_eq_false Ht0.out.symm (Int.ofNat_lt.1 h)
      have hhi := hd (show lo = a ∧ hi = m by omega)
      clear hlo
      go_wp2_with fail
      go_meet
      exact ⟨(show Value.int .i64 (a : Int) = .int .i64 (lo : Int) by rw [hhi.out.1]), (show Value.int .i64 (m : Int) = .int .i64 (hi : Int) by rw [hhi.out.2]), S0⟩
  case rest =>
    clear S0 Ht0
    obtain ⟨rfl, rfl, S1⟩ := hcut
    obtain ⟨W1, hW1⟩ : ∃ W1, W1 = wc := ⟨_, rfl⟩
    subst hW1
    go_upto_region 33 with (fail)
    obtain ⟨p, hp⟩ : ∃ p, p = mid + m - 1 := ⟨_, rfl⟩
    rw [show (mid : Int) + (m : Int) - 1 = (p : Int) by omega]
    have HP := hd hp
    have hp1 : p < sz + sz := by omega
    have hp2 : hi ≤ p + 1 := by omega
    have hp3 : p < lo + sz := by omega
    clear hwp hp
    go_loopg [20, 21] (hi - lo) (fun kx s20 s21 wr => ∃ (st r : Nat), s20 = .int .i64 st ∧ s21 = .int .i64 r ∧ r - st ≤ kx ∧ lo ≤ st ∧ st ≤ r ∧ r ≤ hi ∧ Aside (SWK enc k w0 blk off d wr) ∧ Aside (CutI kf lo hi p st r d))
    case atStart => exact ⟨lo, hi, rfl, rfl, Nat.le_refl _, Nat.le_refl _, hlo1, Nat.le_refl _, S1, ⟨Nat.le_refl _, hlo1, Nat.le_refl _, .inl rfl, .inl rfl⟩⟩
    case round =>
      clear S1
      obtain ⟨st, r, rfl, rfl, hkx, hs1, hs2, hs3, S1, U1⟩ := hrel
      by_cases hij : st < r
      · have hijz : (st : Int) < (r : Int) := by omega
        have hwij : IntKind.i64.wrap ((st : Int) + (r : Int)) = (st : Int) + (r : Int) := by rw [IntKind.wrap_i64]; omega
        go_upto_region 35 with (fail)
        obtain ⟨h, hh⟩ : ∃ h, h = (st + r) / 2 := ⟨_, rfl⟩
        rw [show ((st : Int) + (r : Int)) / 2 = (h : Int) by omega]
        have hwh : IntKind.i64.wrap ((h : Int) + 1) = (h : Int) + 1 := by rw [IntKind.wrap_i64]; omega
        have hh1 : st ≤ h := by omega
        have hh2 : h < r := by omega
        clear hh
        obtain ⟨q, hq1, hq2⟩ : ∃ q, q + h ≤ p ∧ p ≤ q + h := ⟨p - h, by omega, by omega⟩
        have hwq : IntKind.i64.wrap ((p : Int) - (h : Int)) = (q : Int) := by rw [IntKind.wrap_i64]; omega
        have ea1 : ((q : Int)).toNat = q := by omega
        have pa1 : (0 : Int) ≤ (q : Int) := by omega
        have ba1 : (q : Int) < (sz : Int) := by omega
        have ra1 : IntKind.i64.wrap ((q : Int)) = (q : Int) := by rw [IntKind.wrap_i64]; omega
        have ea2 : ((h : Int)).toNat = h := by omega
        have pa2 : (0 : Int) ≤ (h : Int) := by omega
        have ba2 : (h : Int) < (sz : Int) := by omega
        have ra2 : IntKind.i64.wrap ((h : Int)) = (h : Int) := by rw [IntKind.wrap_i64]; omega
        obtain ⟨x1, hx1⟩ : ∃ x, x = d[q]! := ⟨_, rfl⟩
        obtain ⟨y1, hy1⟩ : ∃ x, x = d[h]! := ⟨_, rfl⟩
        have l1a := S1.out.ld R (by omega) P (q) (by omega)
        have l1b := S1.out.ld R (by omega) P (h) (by omega)
        rw [← hx1] at l1a
        rw [← hy1] at l1b
        have hc1 := S1.out.cmp HC.out (by omega) x1 y1
        by_cases hlv : kf x1 < kf y1
        · have hv1 : cf x1 y1 < 0 := (HCF.out x1 y1).2 hlv
          have hd1 : decide (cf x1 y1 < 0) = true := decide_eq_true hv1
          rw [hx1, hy1] at hlv
          have HLV := hd hlv
          clear hx1 hy1 hlv
          go_wp2_with fail
          go_quiet_grown (first | (go_at_fn g; refine Calls.grown_of (hc1 _ _)))
          have S2 : Aside (SWK enc k w0 blk off d (grow (wr.drewN nq) osq)) := S1.out.grown nq osq
          clear l1a l1b hc1 S1
          generalize grow (wr.drewN nq) osq = w2 at S2 ⊢
          clear nq osq
          go_wp2
          go_roundg (h - st)
          case measure => omega
          case rel => exact ⟨st, h, rfl, by first | go_num | (congr 1; omega), Nat.le_refl _, hs1, by omega, by omega, S2, U1.out.down (by omega) (by omega) (by rw [show p - h = q by omega]; exact HLV.out)⟩
        · have hv1 : ¬ cf x1 y1 < 0 := fun h => hlv ((HCF.out x1 y1).1 h)
          have hd1 : decide (cf x1 y1 < 0) = false := decide_eq_false hv1
          rw [hx1, hy1] at hlv
          have HLV := hd hlv
          clear hx1 hy1 hlv
          go_wp2_with fail
          go_quiet_grown (first | (go_at_fn g; refine Calls.grown_of (hc1 _ _)))
          have S2 : Aside (SWK enc k w0 blk off d (grow (wr.drewN nq) osq)) := S1.out.grown nq osq
          clear l1a l1b hc1 S1
          generalize grow (wr.drewN nq) osq = w2 at S2 ⊢
          clear nq osq
          go_wp2
          go_roundg (r - (h + 1))
          case measure => omega
          case rel => exact ⟨h + 1, r, by first | go_num | (congr 1; omega), rfl, Nat.le_refl _, by omega, by omega, hs3, S2, U1.out.up (by omega) (by omega) (by rw [show p - h = q by omega]; exact HLV.out)⟩
      · have hijz : ¬ (st : Int) < (r : Int) := by omega
        obtain rfl : st = r := by omega
        have C : Aside (SymCut kf a m b st (mid + m - st) mid d) := by
          have := U1.out
          rw [HP.out] at this
          exact CutI.cut ham hmb HMID.out HLO.out this
        have hwe : IntKind.i64.wrap ((mid : Int) + (m : Int) - (st : Int)) = (mid : Int) + (m : Int) - (st : Int) := by rw [IntKind.wrap_i64]; omega
        go_upto_region 39 with (fail)
        obtain ⟨e, he⟩ : ∃ e, e = mid + m - st := ⟨_, rfl⟩
        rw [show (mid : Int) + (m : Int) - (st : Int) = (e : Int) by omega]
        rw [← he] at C
        have hce : e ≤ b := by omega
        have hce2 : m ≤ e := by omega
        have hce3 : mid ≤ e := by omega
        have hce4 : st ≤ m := by omega
        have hce5 : st ≤ mid := by omega
        have hce6 : a ≤ st := by omega
        clear hwe he hwn HP
        go_upto_region 39 with (fail)
        obtain ⟨t1, ht1⟩ : ∃ t, t = decide (st < m ∧ m < e) := ⟨_, rfl⟩
        have Ht1 := hd ht1
        clear ht1
        go_cut [185] from 178 to 184 (fun t wy => t = .bool t1 ∧ Aside (SWK enc k w0 blk off d wy))
        case first =>
          by_cases h1 : st < m
          · have h1z : (st : Int) < (m : Int) := by omega
            by_cases h2 : m < e
            · have h2z : (m : Int) < (e : Int) := by omega
              have hv := hd (show true = t1 by rw [Ht1.out]; simp [h1, h2])
              go_wp2_with fail
              go_meet
              exact ⟨by rw [← hv.out], S1⟩
            · have h2z : ¬ (m : Int) < (e : Int) := by omega
              have hv := hd (show false = t1 by rw [Ht1.out]; simp [h2])
              go_wp2_with fail
              go_meet
              exact ⟨by rw [← hv.out], S1⟩
          · have h1z : ¬ (st : Int) < (m : Int) := by omega
            have hv := hd (show false = t1 by rw [Ht1.out]; simp [h1])
            go_wp2_with fail
            go_meet
            exact ⟨by rw [← hv.out], S1⟩
        case rest =>
          clear S1
          obtain ⟨rfl, S1⟩ := hcut
          obtain ⟨Wt1, hWt1⟩ : ∃ W, W = wc := ⟨_, rfl⟩
          subst hWt1
          go_upto_if 185 with (fail)
          go_cut [] from 186 to 191 (fun wy => ∃ d1 : Array α, d1.size = sz ∧ Aside (RotP st m e d d1) ∧ Aside (SWK enc k w0 blk off d1 wy))
          case first =>
            cases t1 with
            | true =>
              have hg := of_decide_eq_true Ht1.out.symm
              have hc := hRot.out st m e Wt1 S1.out hg.1 hg.2 (by omega)
              clear hRot S1 hg
              go_wp2_with (go_at_fn 203; refine hc.mono ?_; rintro e9 w2 ⟨rfl, d1, hr1, hS2⟩)
              go_meet
              exact ⟨d1, by rw [hr1.1, hds], hr1, hS2⟩
            | false =>
              have hg := of_decide_eq_false Ht1.out.symm
              have hR1 : Aside (RotP st m e d d) := RotP.none d (by omega) (by omega) (by omega)
              clear hg
              go_wp2_with fail
              go_meet
              exact ⟨d, hds, hR1, S1⟩
          case rest =>
            clear S1 hRot Ht1
            obtain ⟨d1, hd1, HR, S1⟩ := hcut
            obtain ⟨W2, hW2⟩ : ∃ W2, W2 = wc := ⟨_, rfl⟩
            subst hW2
            obtain ⟨f1, f2, f3, f4, _⟩ := C.out.first HA.out HB.out HR.out
            have F1 : Aside _ := f1
            have F2 : Aside _ := f2
            have F3 : Aside _ := f3
            have F4 : Aside _ := f4
            clear f1 f2 f3 f4
            go_upto_region 41 with (fail)
            obtain ⟨t2, ht2⟩ : ∃ t, t = decide (a < st ∧ st < mid) := ⟨_, rfl⟩
            have Ht2 := hd ht2
            clear ht2
            go_cut [199] from 192 to 198 (fun t wy => t = .bool t2 ∧ Aside (SWK enc k w0 blk off d1 wy))
            case first =>
              by_cases h1 : a < st
              · have h1z : (a : Int) < (st : Int) := by omega
                by_cases h2 : st < mid
                · have h2z : (st : Int) < (mid : Int) := by omega
                  have hv := hd (show true = t2 by rw [Ht2.out]; simp [h1, h2])
                  go_wp2_with fail
                  go_meet
                  exact ⟨by rw [← hv.out], S1⟩
                · have h2z : ¬ (st : Int) < (mid : Int) := by omega
                  have hv := hd (show false = t2 by rw [Ht2.out]; simp [h2])
                  go_wp2_with fail
                  go_meet
                  exact ⟨by rw [← hv.out], S1⟩
              · have h1z : ¬ (a : Int) < (st : Int) := by omega
                have hv := hd (show false = t2 by rw [Ht2.out]; simp [h1])
                go_wp2_with fail
                go_meet
                exact ⟨by rw [← hv.out], S1⟩
            case rest =>
              clear S1
              obtain ⟨rfl, S1⟩ := hcut
              obtain ⟨Wt2, hWt2⟩ : ∃ W, W = wc := ⟨_, rfl⟩
              subst hWt2
              go_upto_if 199 with (fail)
              go_cut [] from 200 to 205 (fun wy => ∃ d2 : Array α, d2.size = sz ∧ Aside (Turn kf a mid d1 d2) ∧ Aside (Srt kf a mid d2) ∧ Aside (SWK enc k w0 blk off d2 wy))
              case first =>
                cases t2 with
                | true =>
                  have hg := of_decide_eq_true Ht2.out.symm
                  have hc := IH.out a st mid d1 Wt2 hm3 hd1 S1.out hg.1 hg.2 (by omega) F1.out F2.out
                  clear S1 hg
                  go_wp2_with (go_at_fn 187; refine hc.mono ?_; rintro e9 w2 ⟨rfl, d2, ht2, hs2', hS2⟩)
                  go_meet
                  exact ⟨d2, by rw [ht2.1, hd1], ht2, hs2', hS2⟩
                | false =>
                  have hg := of_decide_eq_false Ht2.out.symm
                  have hs : Aside (Srt kf a mid d1) := by
                    by_cases h1 : a < st
                    · exact Srt.part F1.out (Nat.le_refl _) (by omega)
                    · exact Srt.part F2.out (by omega) (Nat.le_refl _)
                  clear hg
                  go_wp2_with fail
                  go_meet
                  exact ⟨d1, hd1, Turn.refl _ _ _, hs, S1⟩
              case rest =>
                clear S1 Ht2
                obtain ⟨d2, hd2, HT2, HS2, S1⟩ := hcut
                obtain ⟨W3, hW3⟩ : ∃ W3, W3 = wc := ⟨_, rfl⟩
                subst hW3
                have G3 : Aside (Srt kf mid e d2) := fun i j g1 g2 g3 => by rw [HT2.out.2.2 i (by omega), HT2.out.2.2 j (by omega)]; exact F3.out i j g1 g2 g3
                have G4 : Aside (Srt kf e b d2) := fun i j g1 g2 g3 => by rw [HT2.out.2.2 i (by omega), HT2.out.2.2 j (by omega)]; exact F4.out i j g1 g2 g3
                have hdone : Aside (∀ d3 : Array α, Turn kf mid b d2 d3 → Srt kf mid b d3 → Turn kf a b d d3 ∧ Srt kf a b d3) := fun d3 h3 s3 => C.out.done HA.out HB.out HR.out HT2.out HS2.out h3 s3
                clear F1 F2 F3 F4 HT2 HS2 HR
                by_cases h1 : mid < e
                · have h1z : (mid : Int) < (e : Int) := by omega
                  by_cases h2 : e < b
                  · have h2z : (e : Int) < (b : Int) := by omega
                    have hc := IH.out mid e b d2 W3 hm4 hd2 S1.out h1 h2 hb G3.out G4.out
                    clear S1
                    go_wp2_with (go_at_fn 187; refine hc.mono ?_; rintro e9 w2 ⟨rfl, d3, ht3, hs3', hS3⟩)
                    go_end0
                    exact ⟨rfl, d3, (hdone.out d3 ht3 hs3').1, (hdone.out d3 ht3 hs3').2, hS3⟩
                  · have h2z : ¬ (e : Int) < (b : Int) := by omega
                    have hs : Aside (Srt kf mid b d2) := Srt.part G3.out (Nat.le_refl _) (by omega)
                    go_wp2_with fail
                    go_end0
                    exact ⟨rfl, d2, (hdone.out d2 (Turn.refl _ _ _) hs.out).1, (hdone.out d2 (Turn.refl _ _ _) hs.out).2, S1.out⟩
                · have h1z : ¬ (mid : Int) < (e : Int) := by omega
                  have hs : Aside (Srt kf mid b d2) := Srt.part G4.out (by omega) (Nat.le_refl _)
                  go_wp2_with fail
                  go_end0
                  exact ⟨rfl, d2, (hdone.out d2 (Turn.refl _ _ _) hs.out).1, (hdone.out d2 (Turn.refl _ _ _) hs.out).2, S1.out⟩
theorem symMerge_k (L : SL P k) (enc : α → List Value) (kf : α → Int) (cf : α → α → Int) (hcf : ∀ x y, cf x y < 0 ↔ kf x < kf y) (g : Nat) (cb : Array Value) (blk off cap sz : Nat) (d0 : Array α) (w0 : World)
    (eg : ∀ args w, (callFunc g args).run P w = .ok (.enter g args) w) (hcmp : CmpLays P g cb enc k cf blk off sz w0) (R : RowK enc k w0 blk off d0) (hs : d0.size = sz) (hsz : sz < 4611686018427387904) :
    ∀ (N a m b : Nat) (d : Array α) (w : World), b - a ≤ N → d.size = sz → SWK enc k w0 blk off d w → a < m → m < b → b ≤ sz → Srt kf a m d → Srt kf m b d → Calls P 187 #[.slice (some ⟨blk, off, none⟩) sz cap, .int .i64 a, .int .i64 m, .int .i64 b, .func (.func g) #[] cb] w (SymPost kf enc k w0 blk off a b d) := by
  intro N
  induction N with
  | zero => intro a m b d w h1 _ _ h2 h3; omega
  | succ N ih =>
    intro a m b d w hN hds S ham hmb hb hA hB
    by_cases h1 : m - a = 1
    · exact symMerge_up L enc kf cf hcf g cb blk off cap sz d0 w0 eg hcmp R hs hsz a m b d w hds S ham hmb hb hA hB h1
    · by_cases h2 : b - m = 1
      · exact symMerge_dn L enc kf cf hcf g cb blk off cap sz d0 w0 eg hcmp R hs hsz a m b d w hds S ham hmb hb hA hB h1 h2
      · exact symMerge_mid L enc kf cf hcf g cb blk off cap sz d0 w0 eg hcmp R hs hsz N ih a m b d w hds S ham hmb hb hA hB hN h1 h2
end
end Go.Proofs.Ytbjilpemckoioaa

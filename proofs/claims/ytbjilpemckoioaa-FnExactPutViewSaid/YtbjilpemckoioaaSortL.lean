/- The library's stable sort of fields: what its functions lean on; swapRange, rotate. -/
import Derived.Test.YtbjilpemckoioaaStable
import Derived.Test.YtbjilpemckoioaaBases
import Derived.Shelf.SlSortCmp.KitK
import Derived.Shelf.SlSortCmp.WholeK
import Derived.Deep.LoopGhost
namespace Go.Proofs.Ytbjilpemckoioaa
open Go.Shelf Go.RowKit Go.Lib Go.Sort Go.Proofs
set_option linter.unusedVariables false
set_option maxRecDepth 1000000
/-- The numbers of the library's insertion sort here, against the shelf's. -/
def renIns : Go.Shelf.Ren := ⟨fun | 20 => 186 | n => n, fun | 22 => 81 | 24 => 141 | 25 => 155 | n => n, fun | n => n⟩
theorem laysIns : SlLaysF0.n20 Try.prog renIns where
  mixed := by kernel_rfl
  f20 := ⟨Try.f186.name, by kernel_rfl, Try.func186.trans (congrArg some (by kernel_rfl))⟩
  t0 := Try.underlying0
  a0 := Try.isAgg0
  z0 := Try.sizeOf0
  v0 := Try.zeroValue0
  t3 := Try.underlying3
  a3 := Try.isAgg3
  z3 := Try.sizeOf3
  v3 := Try.zeroValue3
  t4 := Try.underlying4
  a4 := Try.isAgg4
  z4 := Try.sizeOf4
  v4 := Try.zeroValue4
  t22 := Try.underlying81
  a22 := Try.isAgg81
  z22 := Try.sizeOf81
  v22 := Try.zeroValue81
  t25 := Try.underlying155
  a25 := Try.isAgg155
  z25 := Try.sizeOf155
  v25 := Try.zeroValue155
/-- What the functions lean on, of a program. -/
structure SL (P : Program) (k : Nat) : Prop where
  mixed : P.follows .mixedOrders = true
  ins : SlLaysF0.n20 P renIns
  fTop : P.funcs[103]? = some Try.f103
  fStable : P.funcs[151]? = some Try.f151
  fSym : P.funcs[187]? = some Try.f187
  fRot : P.funcs[203]? = some Try.f203
  fSwap : P.funcs[206]? = some Try.f206
  t0 : P.underlying 0 = some (TypeDesc.tuple #[])
  a0 : ∀ w, (isAgg 0).run P w = .ok false w
  z0 : ∀ w, (Go.sizeOf 0).run P w = .ok 1 w
  v0 : ∀ w, (zeroValue 0).run P w = .ok (Value.tuple #[]) w
  t3 : P.underlying 3 = some (TypeDesc.int IntKind.i64)
  a3 : ∀ w, (isAgg 3).run P w = .ok false w
  z3 : ∀ w, (Go.sizeOf 3).run P w = .ok 1 w
  v3 : ∀ w, (zeroValue 3).run P w = .ok (Value.int IntKind.i64 0) w
  t4 : P.underlying 4 = some (TypeDesc.bool)
  a4 : ∀ w, (isAgg 4).run P w = .ok false w
  z4 : ∀ w, (Go.sizeOf 4).run P w = .ok 1 w
  v4 : ∀ w, (zeroValue 4).run P w = .ok (Value.bool false) w
  tU : P.underlying 193 = some (TypeDesc.int IntKind.u64)
  aU : ∀ w, (isAgg 193).run P w = .ok false w
  zU : ∀ w, (Go.sizeOf 193).run P w = .ok 1 w
  vU : ∀ w, (zeroValue 193).run P w = .ok (Value.int IntKind.u64 0) w
  tS : P.underlying 81 = some (TypeDesc.slice 141)
  aS : ∀ w, (isAgg 81).run P w = .ok false w
  zS : ∀ w, (Go.sizeOf 81).run P w = .ok 1 w
  vS : ∀ w, (zeroValue 81).run P w = .ok (Value.slice none 0 0) w
  tF : P.underlying 155 = some (TypeDesc.func #[141, 141] #[3] false)
  aF : ∀ w, (isAgg 155).run P w = .ok false w
  zF : ∀ w, (Go.sizeOf 155).run P w = .ok 1 w
  vF : ∀ w, (zeroValue 155).run P w = .ok (Value.nilFunc) w
  aE : ∀ w, (isAgg 141).run P w = .ok true w
  zE : ∀ w, (Go.sizeOf 141).run P w = .ok k w
theorem sl4 : SL Try.prog 4 where
  mixed := by kernel_rfl
  ins := laysIns
  fTop := Try.func103
  fStable := Try.func151
  fSym := Try.func187
  fRot := Try.func203
  fSwap := Try.func206
  t0 := Try.underlying0
  a0 := Try.isAgg0
  z0 := Try.sizeOf0
  v0 := Try.zeroValue0
  t3 := Try.underlying3
  a3 := Try.isAgg3
  z3 := Try.sizeOf3
  v3 := Try.zeroValue3
  t4 := Try.underlying4
  a4 := Try.isAgg4
  z4 := Try.sizeOf4
  v4 := Try.zeroValue4
  tU := Try.underlying193
  aU := Try.isAgg193
  zU := Try.sizeOf193
  vU := Try.zeroValue193
  tS := Try.underlying81
  aS := Try.isAgg81
  zS := Try.sizeOf81
  vS := Try.zeroValue81
  tF := Try.underlying155
  aF := Try.isAgg155
  zF := Try.sizeOf155
  vF := Try.zeroValue155
  aE := Try.isAgg141
  zE := Try.sizeOf141
section
variable {P : Program} {α : Type} [Inhabited α] {k : Nat}
set_option maxHeartbeats 4000000 in
theorem swapRange_k (L : SL P k) (enc : α → List Value) (g : Nat) (cb : Array Value) (blk off cap x y n : Nat) (d0 d : Array α) (w0 w : World)
    (R : RowK enc k w0 blk off d0) (hs : d0.size = d.size) (S : SWK enc k w0 blk off d w) (hxy : x + n ≤ y) (hy : y + n ≤ d.size) (hsz : d.size < 4611686018427387904) :
    Calls P 206 #[.slice (some ⟨blk, off, none⟩) d.size cap, .int .i64 x, .int .i64 y, .int .i64 n, .func (.func g) #[] cb] w fun e w' => e = .returned (.tuple #[]) ∧ ∃ d', SwR x y n d d' ∧ SWK enc k w0 blk off d' w' := by
  have mixed := L.mixed; have t0 := L.t0; have a0 := L.a0; have z0 := L.z0; have v0 := L.v0; have t3 := L.t3; have a3 := L.a3; have z3 := L.z3; have v3 := L.v3; have t4 := L.t4; have a4 := L.a4; have z4 := L.z4; have v4 := L.v4; have tS := L.tS; have aS := L.aS; have zS := L.zS; have vS := L.vS; have tF := L.tF; have aF := L.aF; have zF := L.zF; have vF := L.vF; have aE := L.aE; have zE := L.zE
  have FG := L.fSwap
  have S0 : Aside (SWK enc k w0 blk off d w) := S
  clear S L
  go_enter FG, Try.ntmps206
  go_wp2
  go_loopg [10] n (fun kx s10 wr => ∃ (i : Nat) (dk : Array α), s10 = .int .i64 i ∧ i ≤ n ∧ n - i ≤ kx ∧ dk.size = d.size ∧ Aside (SWK enc k w0 blk off dk wr) ∧ Aside (SwR x y i d dk))
  case atStart => exact ⟨0, d, rfl, Nat.zero_le _, Nat.le_refl _, rfl, S0, SwR.zero x y d⟩
  case round =>
    clear S0
    obtain ⟨i, dk, rfl, hin, hkx, hds, S1, heq⟩ := hrel
    by_cases hlt : i < n
    · have hltz : (i : Int) < (n : Int) := by omega
      have ea44 : ((x : Int) + (i : Int)).toNat = x + i := by omega
      have pa44 : (0 : Int) ≤ (x : Int) + (i : Int) := by omega
      have ba44 : (x : Int) + (i : Int) < (d.size : Int) := by omega
      have ra44 : IntKind.i64.wrap ((x : Int) + (i : Int)) = (x : Int) + (i : Int) := by rw [IntKind.wrap_i64]; omega
      have ec44 : ((y : Int) + (i : Int)).toNat = y + i := by omega
      have pc44 : (0 : Int) ≤ (y : Int) + (i : Int) := by omega
      have bc44 : (y : Int) + (i : Int) < (d.size : Int) := by omega
      have rc44 : IntKind.i64.wrap ((y : Int) + (i : Int)) = (y : Int) + (i : Int) := by rw [IntKind.wrap_i64]; omega
      have S2 : Aside (SWK enc k w0 blk off (swp dk (x + i) (y + i)) ((wr.drew.setCells blk (off + (x + i) * k) (enc dk[y + i]!)).setCells blk (off + (y + i) * k) (enc dk[x + i]!))) := S1.out.swapped R (x + i) (y + i) (by omega) (by omega)
      have l44a := S1.out.ld1 R (by omega) P (x + i) (by omega)
      have l44b := S1.out.ld1 R (by omega) P (y + i) (by omega)
      have s44a := S1.out.st1 R (by omega) P (x + i) (by omega) dk[y + i]!
      have s44b := S1.out.st2 R (by omega) P (x + i) (y + i) (by omega) (by omega) dk[y + i]! dk[x + i]!
      have n44a : (enc dk[x + i]!).length = k := R.hk _
      have n44b : (enc dk[y + i]!).length = k := R.hk _
      generalize enc dk[x + i]! = cI44 at S2 l44a s44b n44a
      generalize enc dk[y + i]! = cJ44 at S2 l44b s44a s44b n44b
      clear S1
      go_wp2_with fail
      go_big_region_o
      clear l44a l44b s44a s44b
      generalize (wr.drew.setCells blk (off + (x + i) * k) cJ44).setCells blk (off + (y + i) * k) cI44 = w2 at S2 ⊢
      go_wp2
      go_roundg (n - (i + 1))
      case measure => omega
      case rel => exact ⟨i + 1, swp dk (x + i) (y + i), by go_num, hlt, Nat.le_refl _, by rw [size_swp]; exact hds, S2, SwR.step heq.out hlt hxy hy⟩
    · have hltz : ¬ (i : Int) < (n : Int) := by omega
      obtain rfl : i = n := by omega
      go_wp2
      go_end0
      exact ⟨rfl, dk, heq.out, S1.out⟩
set_option maxHeartbeats 4000000 in
theorem rotate_k (L : SL P k) (enc : α → List Value) (g : Nat) (cb : Array Value) (blk off cap a m b : Nat) (d0 d : Array α) (w0 w : World)
    (R : RowK enc k w0 blk off d0) (hs : d0.size = d.size) (S : SWK enc k w0 blk off d w) (ham : a < m) (hmb : m < b) (hb : b ≤ d.size) (hsz : d.size < 4611686018427387904) :
    Calls P 203 #[.slice (some ⟨blk, off, none⟩) d.size cap, .int .i64 a, .int .i64 m, .int .i64 b, .func (.func g) #[] cb] w fun e w' => e = .returned (.tuple #[]) ∧ ∃ d', RotP a m b d d' ∧ SWK enc k w0 blk off d' w' := by
  have mixed := L.mixed; have t0 := L.t0; have a0 := L.a0; have z0 := L.z0; have v0 := L.v0; have t3 := L.t3; have a3 := L.a3; have z3 := L.z3; have v3 := L.v3; have t4 := L.t4; have a4 := L.a4; have z4 := L.z4; have v4 := L.v4; have tS := L.tS; have aS := L.aS; have zS := L.zS; have vS := L.vS; have tF := L.tF; have aF := L.aF; have zF := L.zF; have vF := L.vF; have aE := L.aE; have zE := L.zE
  have FG := L.fRot
  have eSwap : ∀ args w, (callFunc 206 args).run P w = .ok (.enter 206 args) w := enters_of L.fSwap (by kernel_rfl) rfl
  have S0 : Aside (SWK enc k w0 blk off d w) := S
  have I0 : Aside (RotI (rotT d a m b) m (m - a) (b - m) d) := RotI.start (Nat.le_of_lt ham) (Nat.le_of_lt hmb) hb
  have hw1 : IntKind.i64.wrap ((m : Int) - (a : Int)) = ((m - a : Nat) : Int) := by rw [IntKind.wrap_i64]; omega
  have hw2 : IntKind.i64.wrap ((b : Int) - (m : Int)) = ((b - m : Nat) : Int) := by rw [IntKind.wrap_i64]; omega
  have hSw : Aside (∀ (x y n : Nat) (dk : Array α) (W : World), dk.size = d.size → SWK enc k w0 blk off dk W → x + n ≤ y → y + n ≤ d.size → Calls P 206 #[.slice (some ⟨blk, off, none⟩) d.size cap, .int .i64 x, .int .i64 y, .int .i64 n, .func (.func g) #[] cb] W fun e w' => e = .returned (.tuple #[]) ∧ ∃ d', SwR x y n dk d' ∧ SWK enc k w0 blk off d' w') := by
    intro x y n dk W hds hS h1 h2
    have := swapRange_k L enc g cb blk off cap x y n d0 dk w0 W R (by omega) hS h1 (by omega) (by omega)
    rw [hds] at this
    exact this
  clear S L
  go_enter FG, Try.ntmps203
  go_wp2
  go_loopg [10, 11] (b - a) (fun kx s10 s11 wr => ∃ (i j : Nat) (dk : Array α), s10 = .int .i64 i ∧ s11 = .int .i64 j ∧ 0 < i ∧ 0 < j ∧ i + j ≤ kx ∧ i ≤ m ∧ m + j ≤ d.size ∧ dk.size = d.size ∧ Aside (SWK enc k w0 blk off dk wr) ∧ Aside (RotI (rotT d a m b) m i j dk))
  case atStart => exact ⟨m - a, b - m, d, by first | rfl | go_num, by first | rfl | go_num, by omega, by omega, by omega, by omega, by omega, rfl, S0, I0⟩
  case round =>
    clear S0 I0 hw1 hw2
    obtain ⟨i, j, dk, rfl, rfl, hi0, hj0, hkx, him, hjm, hds, S1, I1⟩ := hrel
    have hwa : IntKind.i64.wrap ((m : Int) - (i : Int)) = ((m - i : Nat) : Int) := by rw [IntKind.wrap_i64]; omega
    by_cases hij : i = j
    · subst hij
      have hne : ((i : Int) == (i : Int)) = true := by simp
      have hne' : ((i : Int) != (i : Int)) = false := by simp
      have hc := hSw.out (m - i) m i dk wr hds S1.out (by omega) (by omega)
      clear hSw
      go_wp2_with (go_at_fn 206; refine hc.mono ?_; rintro e w2 ⟨rfl, d2, hq2, hS2⟩)
      go_end0
      exact ⟨rfl, d2, rotP_of (Nat.le_of_lt ham) (Nat.le_of_lt hmb) (by rw [hq2.1, hds]) (I1.out.stop hq2), hS2⟩
    · have hne : ((i : Int) == (j : Int)) = false := by simp; omega
      have hne' : ((i : Int) != (j : Int)) = true := by simp; omega
      by_cases hgt : j < i
      · have hgtz : (j : Int) < (i : Int) := by omega
        have hwb : IntKind.i64.wrap ((i : Int) - (j : Int)) = ((i - j : Nat) : Int) := by rw [IntKind.wrap_i64]; omega
        have hc := hSw.out (m - i) m j dk wr hds S1.out (by omega) (by omega)
        go_wp2_with (go_at_fn 206; refine hc.mono ?_; rintro e w2 ⟨rfl, d2, hq2, hS2⟩)
        go_roundg (i - j + j)
        case measure => omega
        case rel => exact ⟨i - j, j, d2, by first | rfl | go_num, rfl, by omega, hj0, by omega, by omega, hjm, by rw [hq2.1, hds], hS2, I1.out.left hgt hq2⟩
      · have hgtz : ¬ (j : Int) < (i : Int) := by omega
        have hwc : IntKind.i64.wrap ((m : Int) + (j : Int)) = (m : Int) + (j : Int) := by rw [IntKind.wrap_i64]; omega
        have hwd : IntKind.i64.wrap ((m : Int) + (j : Int) - (i : Int)) = ((m + j - i : Nat) : Int) := by rw [IntKind.wrap_i64]; omega
        have hwb : IntKind.i64.wrap ((j : Int) - (i : Int)) = ((j - i : Nat) : Int) := by rw [IntKind.wrap_i64]; omega
        have hc := hSw.out (m - i) (m + j - i) i dk wr hds S1.out (by omega) (by omega)
        go_wp2_with (go_at_fn 206; refine hc.mono ?_; rintro e w2 ⟨rfl, d2, hq2, hS2⟩)
        go_roundg (i + (j - i))
        case measure => omega
        case rel => exact ⟨i, j - i, d2, rfl, by first | rfl | go_num, hi0, by omega, by omega, him, by omega, by rw [hq2.1, hds], hS2, I1.out.right (by omega) hq2⟩
end
end Go.Proofs.Ytbjilpemckoioaa

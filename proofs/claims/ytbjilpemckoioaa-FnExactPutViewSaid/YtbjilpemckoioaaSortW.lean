/- The library's stable sort of fields, of forty at most: the blocks and their merge. -/
import Derived.Test.YtbjilpemckoioaaSortM
namespace Go.Proofs.Ytbjilpemckoioaa
open Go.Shelf Go.RowKit Go.Lib Go.Sort Go.Proofs
set_option linter.unusedVariables false
set_option maxRecDepth 1000000
section
variable {P : Program} {α : Type} [Inhabited α] {k : Nat}
theorem ins_k (L : SL P k) (enc : α → List Value) (kf : α → Int) (cf : α → α → Int) (hcf : ∀ x y, cf x y < 0 ↔ kf x < kf y) (g : Nat) (cb : Array Value) (blk off cap sz : Nat) (d0 : Array α) (w0 : World)
    (eg : ∀ args w, (callFunc g args).run P w = .ok (.enter g args) w) (hcmp : CmpLays P g cb enc k cf blk off sz w0) (R : RowK enc k w0 blk off d0) (hs : d0.size = sz) (hsz : sz < 4611686018427387904)
    (a b : Nat) (d : Array α) (w : World) (hds : d.size = sz) (S : SWK enc k w0 blk off d w) (hab : a ≤ b) (hb : b ≤ sz) :
    Calls P 186 #[.slice (some ⟨blk, off, none⟩) sz cap, .int .i64 a, .int .i64 b, .func (.func g) #[] cb] w (SymPost kf enc k w0 blk off a b d) := by
  have hlt : ∀ x y, ltOf cf x y = decide (kf x < kf y) := fun x y => by unfold ltOf; exact decide_eq_decide.2 (hcf x y)
  have hO := swo_of hlt
  have hc := AnyQ.insertionSortCmpFunc_w (P := P) (ρ := renIns) L.ins k L.aE L.zE enc cf g cb blk off cap a b d0 d w0 w eg (by rw [hs]; exact hcmp) R (by omega) S hO hab (by omega) (by omega)
  rw [hds] at hc
  refine Calls.mono hc ?_
  rintro e w' ⟨rfl, hS⟩
  refine ⟨rfl, _, ins_turn hlt (by omega), fun i j h1 h2 h3 => ?_, hS⟩
  have := (insertionSort_holds hO d a b hab (by omega)).2 i j h1 h2 h3
  rw [hlt] at this
  simp at this
  exact this
theorem Turn.srt {kf : α → Int} {a b a' b' : Nat} {d d' : Array α} (h : Turn kf a b d d') (hs : Srt kf a' b' d) (hd : b' ≤ a ∨ b ≤ a') : Srt kf a' b' d' := fun i j h1 h2 h3 => by
  rw [h.2.2 i (by omega), h.2.2 j (by omega)]; exact hs i j h1 h2 h3
set_option maxHeartbeats 8000000 in
theorem stable_k (L : SL P k) (enc : α → List Value) (kf : α → Int) (cf : α → α → Int) (hcf : ∀ x y, cf x y < 0 ↔ kf x < kf y) (g : Nat) (cb : Array Value) (blk off cap sz : Nat) (d0 : Array α) (w0 : World)
    (eg : ∀ args w, (callFunc g args).run P w = .ok (.enter g args) w) (hcmp : CmpLays P g cb enc k cf blk off sz w0) (R : RowK enc k w0 blk off d0) (hs : d0.size = sz) (h40 : sz ≤ 40)
    (d : Array α) (w : World) (hds : d.size = sz) (S : SWK enc k w0 blk off d w) :
    Calls P 151 #[.slice (some ⟨blk, off, none⟩) sz cap, .int .i64 sz, .func (.func g) #[] cb] w (SymPost kf enc k w0 blk off 0 sz d) := by
  have mixed := L.mixed; have t0 := L.t0; have a0 := L.a0; have z0 := L.z0; have v0 := L.v0; have t3 := L.t3; have a3 := L.a3; have z3 := L.z3; have v3 := L.v3; have t4 := L.t4; have a4 := L.a4; have z4 := L.z4; have v4 := L.v4; have tS := L.tS; have aS := L.aS; have zS := L.zS; have vS := L.vS; have tF := L.tF; have aF := L.aF; have zF := L.zF; have vF := L.vF; have aE := L.aE; have zE := L.zE
  have FG := L.fStable
  have eIns : ∀ args w, (callFunc 186 args).run P w = .ok (.enter 186 args) w := Bears.enters L.ins.f20 rfl
  have eSym : ∀ args w, (callFunc 187 args).run P w = .ok (.enter 187 args) w := enters_of L.fSym (by kernel_rfl) rfl
  have hIns : Aside _ := ins_k L enc kf cf hcf g cb blk off cap sz d0 w0 eg hcmp R hs (by omega)
  have hSym : Aside _ := symMerge_k L enc kf cf hcf g cb blk off cap sz d0 w0 eg hcmp R hs (by omega)
  have S0 : Aside (SWK enc k w0 blk off d w) := S
  clear S hcmp hcf L
  go_enter FG, Try.ntmps151
  go_wp2
  go_loopg [7, 8] sz (fun kx s7 s8 wr => ∃ (a b : Nat) (dk : Array α), s7 = .int .i64 a ∧ s8 = .int .i64 b ∧ a + 20 ≤ b ∧ b ≤ a + 20 ∧ a ≤ sz ∧ sz - a ≤ kx ∧ dk.size = sz ∧ Aside (SWK enc k w0 blk off dk wr) ∧ Aside (Turn kf 0 sz d dk) ∧ Hd (a = 0 ∨ (a = 20 ∧ Srt kf 0 20 dk) ∨ (a = 40 ∧ Srt kf 0 20 dk ∧ Srt kf 20 40 dk)))
  case atStart => exact ⟨0, 20, d, rfl, rfl, by omega, by omega, by omega, by omega, hds, S0, Turn.refl _ _ _, .inl rfl⟩
  case round =>
    clear S0
    obtain ⟨a, b, dk, rfl, rfl, hab1, hab2, haz, hkx, hdk, S1, T1, H1⟩ := hrel
    by_cases hb : b ≤ sz
    · have hbz : (b : Int) ≤ (sz : Int) := by omega
      have hwb : IntKind.i64.wrap ((b : Int) + 20) = (b : Int) + 20 := by rw [IntKind.wrap_i64]; omega
      have hc := hIns.out a b dk wr hdk S1.out (by omega) (by omega)
      clear S1 hIns hSym
      go_wp2_with (go_at_fn 186; refine hc.mono ?_; rintro e w2 ⟨rfl, d2, ht2, hs2, hS2⟩)
      go_roundg (sz - b)
      case measure => omega
      case rel =>
        refine ⟨b, b + 20, d2, rfl, by first | rfl | go_num, Nat.le_refl _, Nat.le_refl _, hb, Nat.le_refl _, by rw [ht2.1]; exact hdk, hS2, T1.out.trans (ht2.widen (by omega) (by omega) (by omega)), ?_⟩
        rcases H1.out with h | ⟨h, h2⟩ | ⟨h, h2, h3⟩
        · refine .inr (.inl ⟨by omega, ?_⟩)
          have := hs2
          rw [show a = 0 from h, show b = 20 by omega] at this
          exact this
        · refine .inr (.inr ⟨by omega, ht2.srt h2 (.inl (by omega)), ?_⟩)
          have := hs2
          rw [show a = 20 from h, show b = 40 by omega] at this
          exact this
        · omega
    · have hbz : ¬ (b : Int) ≤ (sz : Int) := by omega
      have hc := hIns.out a sz dk wr hdk S1.out (by omega) (by omega)
      clear S1 hIns
      go_wp2_with (go_at_fn 186; refine hc.mono ?_; rintro e w2 ⟨rfl, d2, ht2, hs2, hS2⟩)
      have T2 : Aside (Turn kf 0 sz d d2) := T1.out.trans (ht2.widen (by omega) (by omega) (by omega))
      have hd2 : d2.size = sz := by rw [ht2.1]; exact hdk
      have Q2 : Hd (Srt kf 0 (min 20 sz) d2 ∧ Srt kf 20 sz d2) := by
        rcases H1.out with h | ⟨h, h2⟩ | ⟨h, h2, h3⟩
        · rw [show a = 0 from h] at hs2
          exact ⟨hs2.part (Nat.le_refl _) (by omega), Srt.one (by omega)⟩
        · rw [show a = 20 from h] at hs2 ht2
          exact ⟨(ht2.srt h2 (.inl (by omega))).part (Nat.le_refl _) (by omega), hs2⟩
        · rw [show a = 40 from h] at hs2 ht2
          exact ⟨(ht2.srt h2 (.inl (by omega))).part (Nat.le_refl _) (by omega), (ht2.srt h3 (.inl (by omega))).part (Nat.le_refl _) (by omega)⟩
      have S2 : Aside (SWK enc k w0 blk off d2 w2) := hS2
      clear ht2 hs2 hS2 T1 H1 hc
      go_loopg [6] 1 (fun kx s6 wr => ∃ (bs : Nat) (dk : Array α), s6 = .int .i64 bs ∧ dk.size = sz ∧ Aside (SWK enc k w0 blk off dk wr) ∧ Aside (Turn kf 0 sz d dk) ∧ Hd ((bs = 20 ∧ 1 ≤ kx ∧ Srt kf 0 (min 20 sz) dk ∧ Srt kf 20 sz dk) ∨ (bs = 40 ∧ Srt kf 0 sz dk)))
      case atStart => exact ⟨20, d2, rfl, hd2, S2, T2, .inl ⟨rfl, Nat.le_refl _, Q2.out.1, Q2.out.2⟩⟩
      case round =>
        clear S2 T2 Q2 hd2
        obtain ⟨bs, dk3, rfl, hd3, S3, T3, H3⟩ := hrel
        rcases H3.out with ⟨rfl, hk1, q1, q2⟩ | ⟨rfl, q1⟩
        · clear H3
          have Q1 := hd q1
          have Q2 := hd q2
          clear q1 q2
          by_cases h20 : 20 < sz
          · have h20z : (20 : Int) < (sz : Int) := by omega
            go_wp2
            go_loopg [7, 8] 1 (fun kx s7 s8 wr => ∃ (a b : Nat) (dk : Array α), s7 = .int .i64 a ∧ s8 = .int .i64 b ∧ dk.size = sz ∧ Aside (SWK enc k w0 blk off dk wr) ∧ Aside (Turn kf 0 sz d dk) ∧ Hd ((a = 0 ∧ b = 40 ∧ 1 ≤ kx ∧ Srt kf 0 20 dk ∧ Srt kf 20 sz dk) ∨ (a = 40 ∧ b = 80 ∧ sz = 40 ∧ Srt kf 0 sz dk)))
            case atStart => exact ⟨0, 40, dk3, rfl, rfl, hd3, S3, T3, .inl ⟨rfl, rfl, Nat.le_refl _, Srt.part Q1.out (Nat.le_refl _) (by omega), Q2.out⟩⟩
            case round =>
              clear S3 T3 Q1 Q2 hd3
              obtain ⟨a4, b4, dk4, rfl, rfl, hd4, S4, T4, H4⟩ := hrel
              rcases H4.out with ⟨rfl, rfl, hk2, q1, q2⟩ | ⟨rfl, rfl, h40e, q1⟩
              · clear H4
                have Q1 := hd q1
                have Q2 := hd q2
                clear q1 q2
                by_cases h40b : 40 ≤ sz
                · have h40z : (40 : Int) ≤ (sz : Int) := by omega
                  have hc := hSym.out 40 0 20 40 dk4 wr (by omega) hd4 S4.out (by omega) (by omega) h40b Q1.out (Srt.part Q2.out (Nat.le_refl _) (by omega))
                  clear S4 hSym
                  go_wp2_with (go_at_fn 187; refine hc.mono ?_; rintro e w5 ⟨rfl, d5, ht5, hs5, hS5⟩)
                  go_roundg 0
                  case measure => omega
                  case rel =>
                    refine ⟨40, 80, d5, rfl, rfl, by rw [ht5.1]; exact hd4, hS5, T4.out.trans (ht5.widen (Nat.le_refl _) (by omega) (by omega)), .inr ⟨rfl, rfl, by omega, ?_⟩⟩
                    rw [show sz = 40 by omega]
                    exact hs5
                · have h40z : ¬ (40 : Int) ≤ (sz : Int) := by omega
                  have hc := hSym.out 40 0 20 sz dk4 wr (by omega) hd4 S4.out (by omega) (by omega) (Nat.le_refl _) Q1.out Q2.out
                  clear S4 hSym
                  go_wp2_with (go_at_fn 187; refine hc.mono ?_; rintro e w5 ⟨rfl, d5, ht5, hs5, hS5⟩)
                  go_roundg 0
                  case measure => omega
                  case rel => exact ⟨40, d5, rfl, by rw [ht5.1]; exact hd4, hS5, T4.out.trans ht5, .inr ⟨rfl, hs5⟩⟩
              · clear H4
                have Q1 := hd q1
                clear q1
                have h80z : ¬ (80 : Int) ≤ (sz : Int) := by omega
                have h60z : ¬ (60 : Int) < (sz : Int) := by omega
                clear h40e
                go_wp2
                go_roundg 0
                case measure => omega
                case rel => exact ⟨40, dk4, rfl, hd4, S4, T4, .inr ⟨rfl, Q1.out⟩⟩
          · have h20z : ¬ (20 : Int) < (sz : Int) := by omega
            go_wp2
            go_end0
            exact ⟨rfl, dk3, T3.out, Srt.part Q1.out (Nat.le_refl _) (by omega), S3.out⟩
        · clear H3
          have Q1 := hd q1
          clear q1
          have h40z : ¬ (40 : Int) < (sz : Int) := by omega
          go_wp2
          go_end0
          exact ⟨rfl, dk3, T3.out, Q1.out, S3.out⟩
set_option maxHeartbeats 1000000 in
theorem sortStable_k (L : SL P k) (enc : α → List Value) (kf : α → Int) (cf : α → α → Int) (hcf : ∀ x y, cf x y < 0 ↔ kf x < kf y) (g : Nat) (cb : Array Value) (blk off cap sz : Nat) (d0 : Array α) (w0 : World)
    (eg : ∀ args w, (callFunc g args).run P w = .ok (.enter g args) w) (hcmp : CmpLays P g cb enc k cf blk off sz w0) (R : RowK enc k w0 blk off d0) (hs : d0.size = sz) (h40 : sz ≤ 40)
    (d : Array α) (w : World) (hds : d.size = sz) (S : SWK enc k w0 blk off d w) :
    Calls P 103 #[.slice (some ⟨blk, off, none⟩) sz cap, .func (.func g) #[] cb] w (SymPost kf enc k w0 blk off 0 sz d) := by
  have mixed := L.mixed; have t0 := L.t0; have a0 := L.a0; have z0 := L.z0; have v0 := L.v0; have t3 := L.t3; have a3 := L.a3; have z3 := L.z3; have v3 := L.v3; have t4 := L.t4; have a4 := L.a4; have z4 := L.z4; have v4 := L.v4; have tS := L.tS; have aS := L.aS; have zS := L.zS; have vS := L.vS; have tF := L.tF; have aF := L.aF; have zF := L.zF; have vF := L.vF; have aE := L.aE; have zE := L.zE
  have FG := L.fTop
  have eSt : ∀ args w, (callFunc 151 args).run P w = .ok (.enter 151 args) w := enters_of L.fStable (by kernel_rfl) rfl
  have hc := stable_k L enc kf cf hcf g cb blk off cap sz d0 w0 eg hcmp R hs h40 d w hds S
  clear S hcmp hcf L
  go_enter FG, Try.ntmps103
  go_wp2_with (go_at_fn 151; refine hc.mono ?_; rintro e w5 ⟨rfl, d5, ht5, hs5, hS5⟩)
  go_end0
  exact ⟨rfl, d5, ht5, hs5, hS5⟩
end
end Go.Proofs.Ytbjilpemckoioaa

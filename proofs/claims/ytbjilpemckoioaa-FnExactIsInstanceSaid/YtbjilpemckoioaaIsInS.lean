/- IsInstance of the reference. -/
import Derived.Test.YtbjilpemckoioaaInstS
import Derived.Test.YtbjilpemckoioaaIsInI
import Derived.Deep.RegionHeld3
namespace Go.Proofs.Ytbjilpemckoioaa
open Go.RowKit
set_option linter.unusedVariables false
set_option maxRecDepth 100000
theorem RepZ.all {w w' : World} {t : K} {v : List Value} (h : RepZ HT 3 w (AllB w) t v) (hb : Below w.heap.size w w') : RepZ HT 3 w' (AllB w') t v :=
  RepZ.same (SameS.below hb (fun q h => h)) (fun q h => Nat.lt_of_lt_of_le h hb.size) _ _ h
theorem RepZ.toAll {w w' : World} {t : K} {v : List Value} (h : RepZ HT 3 w' (NewB w w') t v) : RepZ HT 3 w' (AllB w') t v :=
  RepZ.same (SameS.refl _ _) (fun q h => h.2) _ _ h
def zeroT : List Value := [.int .i64 0, .string ⟨#[]⟩, .slice none 0 0]
def haveL : List Value := zeroT ++ zeroT ++ zeroT ++ zeroT ++ zeroT ++ zeroT
def knowL0 : List Value := [.bool false, .bool false, .bool false, .bool false, .bool false, .bool false]
theorem mkHave (w : World) : (Instr.makeSlice 89 (.int .i64 6) (.int .i64 6)).run Try.prog w = .ok (.slice (some ⟨w.heap.size, 0, none⟩) 6 6) (w.alloc (.cells haveL.toArray 91)) := by
  obtain ⟨i0, hi, hz0, hz1, hz2⟩ := info_parts infoTv
  have h := run_makeSlice w 89 91 i0 _ Try.underlying89 hi hz0 .i64 .i64 6 6 (by decide) (by decide) (by rw [hz1]; decide) (by rw [hz2]; decide) (by decide)
  rw [h, hz1]
  have e : madeCells (Value.agg #[.int .i64 0, .string ⟨#[]⟩, .slice none 0 0]).cells ((6 : Int).toNat * 3) = haveL.toArray := by kernel_rfl
  rw [e]
  rfl
theorem infoBv : (Try.prog.info? 4).map (fun i => (i.zero, i.size, i.bytes)) = some (some (.bool false), 1, 1) := by kernel_rfl
theorem mkKnow (w : World) : (Instr.makeSlice 99 (.int .i64 6) (.int .i64 6)).run Try.prog w = .ok (.slice (some ⟨w.heap.size, 0, none⟩) 6 6) (w.alloc (.cells knowL0.toArray 4)) := by
  obtain ⟨i0, hi, hz0, hz1, hz2⟩ := info_parts infoBv
  have h := run_makeSlice w 99 4 i0 _ Try.underlying99 hi hz0 .i64 .i64 6 6 (by decide) (by decide) (by rw [hz1]; decide) (by rw [hz2]; decide) (by decide)
  rw [h, hz1]
  have e : madeCells (Value.bool false).cells ((6 : Int).toNat * 1) = knowL0.toArray := by kernel_rfl
  rw [e]
  rfl
theorem EnvS.new {w : World} {h k : Nat} {S : Nat → Prop} (hne : h ≠ k) (hk : BoxN w k [.bool false, .bool false, .bool false, .bool false, .bool false, .bool false]) (hh : BoxN w h haveL) : EnvS w h k S (fun _ => none) :=
  ⟨hne, hk, [zeroT, zeroT, zeroT, zeroT, zeroT, zeroT], rfl, (by intro r hr; simp at hr; subst hr; rfl), hh, fun i t r _ h => by cases h⟩
theorem match_new (t0 t1 : K) (r0 r1 : List Value) (w w' : World) (h k : Nat) (h0 : countK t0 ≤ 30 ∧ TmOk t0) (h1 : countK t1 ≤ 30 ∧ TmOk t1) (hA : RepZ HT 3 w (AllB w) t0 r0) (hB : RepZ HT 3 w (AllB w) t1 r1) (z : Bool) (hz : (insK t1 t0 (fun _ => none)).1 = z)
    (hw : Below w.heap.size w w') (hne : h ≠ k) (hh : w.heap.size ≤ h) (hk : w.heap.size ≤ k) (hK : BoxN w' k [.bool false, .bool false, .bool false, .bool false, .bool false, .bool false]) (hH : BoxN w' h haveL) :
    Calls Try.prog 56 #[.agg r0.toArray, .agg r1.toArray, .slice (some ⟨h, 0, none⟩) 6 6, .slice (some ⟨k, 0, none⟩) 6 6] w' (fun e w9 => e = .returned (.bool z) ∧ Below w.heap.size w w9) := by
  have hs : SameS w w' (AllB w) := SameS.below hw (fun q h => h)
  refine (match_s t1 t0 (fun _ => none) r0 r1 w' h k (AllB w) (fun q hq => ?_) hH.2.2 hK.2.2 (by omega) (by omega) h0.2 h1.2 EnvOk.none (RepZ.same hs (fun _ h => h) _ _ hA) (RepZ.same hs (fun _ h => h) _ _ hB) (EnvS.new hne hK hH)).mono ?_
  · have hq : q < w.heap.size := hq
    have := hw.size
    omega
  · rintro e w9 ⟨rfl, _, hg⟩
    exact ⟨by rw [hz], hw.trans (hg.below hw.size hh hk)⟩
theorem match_newA (z : Bool) (x y : Value) (F : FuncId) (W : World) (cu : ∀ (w' : World) (h k : Nat), Below W.heap.size W w' → h ≠ k → W.heap.size ≤ h → W.heap.size ≤ k → BoxN w' k knowL0 → BoxN w' h haveL → Calls Try.prog F #[x, y, .slice (some ⟨h, 0, none⟩) 6 6, .slice (some ⟨k, 0, none⟩) 6 6] w' (fun e w9 => e = .returned (.bool z) ∧ Below W.heap.size W w9)) :
    Calls Try.prog F #[x, y, .slice (some ⟨W.heap.size, 0, none⟩) 6 6, .slice (some ⟨W.heap.size + 1, 0, none⟩) 6 6] ((W.alloc (.cells haveL.toArray 91)).alloc (.cells knowL0.toArray 4)).drew (fun e w9 => e = .returned (.bool z) ∧ Below W.heap.size W w9) := by
  refine cu _ _ _ (below_a2 W).drew (by omega) (Nat.le_refl _) (by omega) ?_ ?_
  · have := BoxN.new (W.alloc (.cells haveL.toArray 91)) knowL0 4
    rw [World.size_alloc] at this
    exact this.drew
  · exact ((BoxN.new W haveL 91).below (below_a1 _)).drew
theorem match_newB (z : Bool) (x y : Value) (F : FuncId) (W : World) (cu : ∀ (w' : World) (h k : Nat), Below W.heap.size W w' → h ≠ k → W.heap.size ≤ h → W.heap.size ≤ k → BoxN w' k knowL0 → BoxN w' h haveL → Calls Try.prog F #[x, y, .slice (some ⟨h, 0, none⟩) 6 6, .slice (some ⟨k, 0, none⟩) 6 6] w' (fun e w9 => e = .returned (.bool z) ∧ Below W.heap.size W w9)) :
    Calls Try.prog F #[x, y, .slice (some ⟨W.heap.size + 1, 0, none⟩) 6 6, .slice (some ⟨W.heap.size, 0, none⟩) 6 6] ((W.alloc (.cells knowL0.toArray 4)).alloc (.cells haveL.toArray 91)).drew (fun e w9 => e = .returned (.bool z) ∧ Below W.heap.size W w9) := by
  refine cu _ _ _ (below_a2 W).drew (by omega) (by omega) (Nat.le_refl _) ?_ ?_
  · exact ((BoxN.new W knowL0 4).below (below_a1 _)).drew
  · have := BoxN.new (W.alloc (.cells knowL0.toArray 4)) haveL 91
    rw [World.size_alloc] at this
    exact this.drew
set_option maxHeartbeats 6400000 in
theorem IsInstance_s (l0 l1 : List DCell) (v0 v1 : Value) (w : World) (hl0 : l0.length ≤ 1000000000) (hl1 : l1.length ≤ 1000000000) (hs0 : ∀ x ∈ l0, x.name.size ≤ 1000000000000) (hs1 : ∀ x ∈ l1, x.name.size ≤ 1000000000000) (h0 : Sl w v0 3 (l0.map DCell.enc)) (h1 : Sl w v1 3 (l1.map DCell.enc)) (r : Bool × Bool) (hr : isInst l0 l1 = r) :
    Calls Try.prog 15 #[.agg #[v0], .agg #[v1]] w (BBPost2 r w) := by
  have h00 := h0
  have h11 := h1
  obtain ⟨a0, c0, rfl, -⟩ := h0
  obtain ⟨a1, c1, rfl, -⟩ := h1
  simp only [List.length_map] at h00 h11 ⊢
  have k0 := hd (fun w' (hbb : Below w.heap.size w w') => tree6_s l0 a0 c0 w' hl0 hs0 (h00.mono hbb))
  have k1 := hd (fun w' (hbb : Below w.heap.size w w') => tree6_s l1 a1 c1 w' hl1 hs1 (h11.mono hbb))
  clear hs0 hs1 h00 h11
  have hB := hd (below_a2 w (a := .cells #[.slice a0 l0.length c0] 29) (b := .cells #[.slice a1 l1.length c1] 29))
  have q1 := hd (show ((w.alloc (.cells #[.slice a0 l0.length c0] 29)).alloc (.cells #[.slice a1 l1.length c1] 29)).cell? ⟨w.heap.size + 1, 0, none⟩ = some (.slice a1 l1.length c1) by go_simp)
  go_enter Try.func15, Try.ntmps15
  go_wp2_with fail
  refine (k0.out _ hB.out).mono ?_
  rintro e w2 ⟨v', nm', a', n', c', rfl, hR0, hb2⟩
  have hB2 := hd (hB.out.next hb2)
  have q12 := keepCell hb2 q1.out
  have hR0 := hd (fun t ht => (hR0 t ht).toAll)
  clear hb2 hB q1
  have hX3 := hd (BoxN.new w2 [.int .i64 v', .string nm', .slice a' n' c'] 91)
  have hb3 := hd (below_a1 w2 (a := .cells #[.int .i64 v', .string nm', .slice a' n' c'] 91))
  go_upto_region 2 with (fail)
  have q13 := keepCell hb3.out q12
  clear q12
  change Hd (BoxN (w2.alloc (.cells #[.int .i64 v', .string nm', .slice a' n' c'] 91)) _ _) at hX3
  generalize w2.alloc (.cells #[.int .i64 v', .string nm', .slice a' n' c'] 91) = W3 at *
  have hB3 := hd (hB2.out.next hb3.out)
  have hR3 := hd (fun t ht => (hR0.out t ht).all hb3.out)
  clear hB2 hb3 hR0
  go_wp2_with fail
  refine (k1.out _ hB3.out).mono ?_
  rintro e w4 ⟨v6, nm6, a6, n6, c6, rfl, hR4, hb4⟩
  have hX4 := hd (hX3.out.below hb4)
  have hB4 := hd (hB3.out.next hb4)
  have hR34 := hd (fun t ht => (hR3.out t ht).all hb4)
  have hR4 := hd (fun t ht => (hR4 t ht).toAll)
  clear hb4 hB3 hR3 hX3 k0 k1 q13
  have hX5 := hd (BoxN.new w4 [.int .i64 v6, .string nm6, .slice a6 n6 c6] 91)
  have hb5 := hd (below_a1 w4 (a := .cells #[.int .i64 v6, .string nm6, .slice a6 n6 c6] 91))
  go_upto_region 3 with (fail)
  change Hd (BoxN (w4.alloc (.cells #[.int .i64 v6, .string nm6, .slice a6 n6 c6] 91)) _ _) at hX5
  generalize w4.alloc (.cells #[.int .i64 v6, .string nm6, .slice a6 n6 c6] 91) = W5 at *
  have hB5 := hd (hB4.out.next hb5.out)
  have hR35 := hd (fun t ht => (hR34.out t ht).all hb5.out)
  have hR45 := hd (fun t ht => (hR4.out t ht).all hb5.out)
  have hX45 := hd (hX4.out.below hb5.out)
  clear hB4 hR34 hR4 hb5 hX4
  cases hT0 : termT l0 with
  | none =>
    have hres := hd (show r = (false, false) by rw [← hr, isInst_n0 hT0])
    go_wp2_with fail
    go_ret2
    exact ⟨by rw [hres.out]; rfl, hB5.out⟩
  | some t0 =>
    cases hT1 : termT l1 with
    | none =>
      have hres := hd (show r = (false, false) by rw [← hr, isInst_n1 hT1])
      go_wp2_with fail
      go_ret2
      exact ⟨by rw [hres.out]; rfl, hB5.out⟩
    | some t1 =>
      obtain ⟨z, hz⟩ : ∃ z, (insK t1 t0 (fun _ => none)).1 = z := ⟨_, rfl⟩
      have hres := hd (show r = (z, true) by rw [← hr, isInst_s hT0 hT1, hz])
      have cu := hd (fun w' h k hw hne hh hk hK hH => match_new t0 t1 _ _ W5 w' h k (termT_good hT0) (termT_good hT1) (hR35.out t0 hT0) (hR45.out t1 hT1) z hz hw hne hh hk hK hH)
      clear hr hT0 hT1 hz hR35 hR45
      have hm1 := mkHave
      have hm2 := mkKnow
      have cuA := hd (match_newA _ _ _ _ W5 cu.out)
      have cuB := hd (match_newB _ _ _ _ W5 cu.out)
      generalize haveL.toArray = HL at hm1 cuA cuB
      generalize knowL0.toArray = KL at hm2 cuA cuB
      clear cu
      have x0 := hX45.out.1 0 _ rfl; have x1 := hX45.out.1 1 _ rfl; have x2 := hX45.out.1 2 _ rfl
      have y0 := hX5.out.1 0 _ rfl; have y1 := hX5.out.1 1 _ rfl; have y2 := hX5.out.1 2 _ rfl
      go_wp2_with fail
      go_region_held3 (fun w' => w'.cell? ⟨w2.heap.size, 0, none⟩ = some (.int .i64 v') ∧ w'.cell? ⟨w2.heap.size, 1, none⟩ = some (.string nm') ∧ w'.cell? ⟨w2.heap.size, 2, none⟩ = some (.slice a' n' c') ∧ w'.cell? ⟨w4.heap.size, 0, none⟩ = some (.int .i64 v6) ∧ w'.cell? ⟨w4.heap.size, 1, none⟩ = some (.string nm6) ∧ w'.cell? ⟨w4.heap.size, 2, none⟩ = some (.slice a6 n6 c6))
        (first | go_keep | (go_split_ands; (repeat' apply And.intro) <;> (with_reducible first | exact keepCell hb9 x0 | exact keepCell hb9 x1 | exact keepCell hb9 x2 | exact keepCell hb9 y0 | exact keepCell hb9 y1 | exact keepCell hb9 y2 | assumption)))
        ((go_at_call 56; (first | with_reducible refine cuA.out.mono ?_ | with_reducible refine cuB.out.mono ?_); rintro e w9 ⟨rfl, hb9⟩))
      all_goals
        have hb10 := hd (hB5.out.next hb9)
        go_wp2_with fail
        go_ret2
        exact ⟨by rw [hres.out]; rfl, hb10.out⟩
end Go.Proofs.Ytbjilpemckoioaa

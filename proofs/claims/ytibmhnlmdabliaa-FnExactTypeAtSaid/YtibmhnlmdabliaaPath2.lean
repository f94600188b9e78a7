/- PathOf and TypeAt of both sides. -/
import Derived.Test.YtibmhnlmdabliaaPath
namespace Go.Proofs.Ytibmhnlmdabliaa
open Go.RowKit
set_option linter.unusedVariables false
set_option maxRecDepth 100000
def poP (l : List DType) (k : Int) (r : Option ByteArray) : Prop := ((goodP l ∧ 0 ≤ k ∧ k < (l.length : Int)) → r = PT l k.toNat) ∧ (¬ (goodP l ∧ 0 ≤ k ∧ k < (l.length : Int)) → r = none)
theorem poP_ex (l : List DType) (k : Int) : ∃ r, poP l k r := by
  by_cases h : goodP l ∧ 0 ≤ k ∧ k < (l.length : Int)
  · exact ⟨_, fun _ => rfl, fun g => absurd h g⟩
  · exact ⟨none, fun g => absurd g h, fun _ => rfl⟩
def taP (l : List DType) (s : ByteArray) (r : Int) (b : Bool) : Prop :=
  (∀ k, k < l.length → PT l k = some s → (∀ i, i < k → PT l i ≠ some s) → goodP l → r = (k : Nat) ∧ b = true) ∧ (goodP l → (∀ i, i < l.length → PT l i ≠ some s) → r = 0 ∧ b = false) ∧ (¬ goodP l → r = 0 ∧ b = false)
theorem taP_ex (l : List DType) (s : ByteArray) : ∃ r b, taP l s r b := by
  by_cases hg : goodP l
  · by_cases h : ∃ k, k < l.length ∧ PT l k = some s
    · have key : ∀ n, (∃ k, k < n ∧ PT l k = some s) → ∃ k, k < n ∧ PT l k = some s ∧ ∀ i, i < k → PT l i ≠ some s := by
        intro n
        induction n with
        | zero => rintro ⟨k, hk, _⟩; omega
        | succ n ih =>
          rintro ⟨k, hk, hp⟩
          by_cases h2 : ∃ k, k < n ∧ PT l k = some s
          · obtain ⟨k2, h3, h4, h5⟩ := ih h2
            exact ⟨k2, by omega, h4, h5⟩
          · exact ⟨k, hk, hp, fun i hi e => h2 ⟨i, by omega, e⟩⟩
      obtain ⟨k, h1, h2, h3⟩ := key _ h
      refine ⟨(k : Nat), true, fun k2 g1 g2 g3 _ => ?_, fun _ g => absurd h2 (g k h1), fun g => absurd hg g⟩
      have : k = k2 := by
        by_cases e1 : k < k2
        · exact absurd h2 (g3 k e1)
        · by_cases e2 : k2 < k
          · exact absurd g2 (h3 k2 e2)
          · omega
      subst this; exact ⟨rfl, rfl⟩
    · exact ⟨0, false, fun k g1 g2 _ _ => absurd ⟨k, g1, g2⟩ h, fun _ _ => ⟨rfl, rfl⟩, fun g => absurd hg g⟩
  · exact ⟨0, false, fun _ _ _ _ g => absurd g hg, fun g => absurd g hg, fun _ => ⟨rfl, rfl⟩⟩
set_option maxHeartbeats 1600000 in
theorem PathOf_i (l : List DType) (k : Int) (v : Value) (w : World) (hl : l.length ≤ 1000000000) (hs : ∀ x ∈ l, x.name.size ≤ 1000000000000) (h : Sl w v 6 (l.map DType.enc)) (r : Option ByteArray) (hr : poP l k r) :
    Calls Try.prog 46 #[.agg #[v], .int .i64 k] w (PathPost r w) := by
  obtain ⟨g, hg⟩ := boolOf (goodP l)
  have cg := hd (fun w' (hbb : Below w.heap.size w w') => GoodSchema_i l v w' (by omega) hs (h.mono hbb) g hg)
  have hw1 : IntKind.i64.wrap ((l.length : Int) - 1) = (l.length : Int) - 1 := IntWalk.i64_in _ (by omega)
  replace hr := hd hr
  cases g with
  | false =>
    obtain ⟨a1, c1, rfl, _⟩ := h
    simp only [List.length_map] at cg ⊢
    have hz := hd (hr.out.2 (fun q => absurd (hg.2 q.1) (by simp)))
    clear hg
    go_enter Try.func46, Try.ntmps46
    go_wp2_with fail
    refine (cg.out _ (below_a1 _)).mono ?_
    rintro e w2 ⟨rfl, hb2⟩
    have hB := hd ((below_a1 w).next hb2)
    clear hb2
    go_wp2_with fail
    go_ret2
    exact ⟨by rw [hz.out]; rfl, hB.out⟩
  | true =>
    have hgp := hd (hg.1 rfl)
    have hn := good_len' hgp.out
    rcases h.open with ⟨a1, c1, rfl, hrr⟩ | ⟨b1, o1, c, rfl, hrr, C⟩
    · exfalso; have : l = [] := by simpa using hrr
      subst this; simp at hn
    clear hrr h
    simp only [List.length_map] at cg ⊢
    by_cases hk : 0 ≤ k ∧ k < (l.length : Int)
    · obtain ⟨j, rfl⟩ := Int.eq_ofNat_of_zero_le hk.1
      have hj : j < l.length := by omega
      have hz := hd (show r = PT l j from hr.out.1 ⟨hgp.out, hk.1, hk.2⟩)
      have cp := hd (fun (w' : World) (hbb : Below w.heap.size w w') => path_i l b1 o1 c hgp.out j w' hj (C.mono hbb))
      have hj0 : ¬ (j : Int) < 0 := by omega
      have hj1 : ¬ (l.length : Int) ≤ (j : Int) := by omega
      have cw := hd (fun w => within_i (j : Int) 0 ((l.length : Int) - 1) w true (by simp; omega))
      clear hg C hk hr
      go_enter Try.func46, Try.ntmps46
      go_wp2_with fail
      refine (cg.out _ (below_a1 _)).mono ?_
      rintro e w2 ⟨rfl, hb2⟩
      have q := keepCell hb2 (show World.cell? _ ⟨w.heap.size, 0, none⟩ = some (.slice (some ⟨b1, o1, none⟩) l.length c) by go_simp)
      have hB := hd ((below_a1 w).next hb2)
      clear hb2
      go_wp2_with fail
      refine (cw.out _).mono ?_
      rintro e w' ⟨rfl, rfl⟩
      go_wp2_with fail
      refine (cp.out _ hB.out).mono ?_
      rintro e w5 ⟨rfl, hb5⟩
      have hB5 := hd (hB.out.next hb5)
      clear hb5
      go_wp2_with fail
      go_ret2
      exact ⟨by rw [hz.out]; try rfl, hB5.out⟩
    · have hz := hd (show r = none from hr.out.2 (fun q => hk q.2))
      have cw := hd (fun w => within_i k 0 ((l.length : Int) - 1) w false (by simp; omega))
      clear hg C hk
      go_enter Try.func46, Try.ntmps46
      go_wp2_with fail
      refine (cg.out _ (below_a1 _)).mono ?_
      rintro e w2 ⟨rfl, hb2⟩
      have q := keepCell hb2 (show World.cell? _ ⟨w.heap.size, 0, none⟩ = some (.slice (some ⟨b1, o1, none⟩) l.length c) by go_simp)
      have hB := hd ((below_a1 w).next hb2)
      clear hb2
      go_wp2_with fail
      refine (cw.out _).mono ?_
      rintro e w' ⟨rfl, rfl⟩
      go_wp2_with fail
      go_ret2
      exact ⟨by rw [hz.out]; rfl, hB.out⟩
set_option maxHeartbeats 1600000 in
theorem PathOf_s (l : List DType) (k : Int) (v : Value) (w : World) (hl : l.length ≤ 1000000000) (hs : ∀ x ∈ l, x.name.size ≤ 1000000000000) (h : Sl w v 6 (l.map DType.enc)) (r : Option ByteArray) (hr : poP l k r) :
    Calls Try.prog 45 #[.agg #[v], .int .i64 k] w (PathPost r w) := by
  obtain ⟨g, hg⟩ := boolOf (goodP l)
  have cg := hd (fun w' (hbb : Below w.heap.size w w') => GoodSchema_s l v w' (by omega) hs (h.mono hbb) g hg)
  have hw1 : IntKind.i64.wrap ((l.length : Int) - 1) = (l.length : Int) - 1 := IntWalk.i64_in _ (by omega)
  replace hr := hd hr
  cases g with
  | false =>
    obtain ⟨a1, c1, rfl, _⟩ := h
    simp only [List.length_map] at cg ⊢
    have hz := hd (hr.out.2 (fun q => absurd (hg.2 q.1) (by simp)))
    clear hg
    go_enter Try.func45, Try.ntmps45
    go_wp2_with fail
    refine (cg.out _ (below_a1 _)).mono ?_
    rintro e w2 ⟨rfl, hb2⟩
    have hB := hd ((below_a1 w).next hb2)
    clear hb2
    go_wp2_with fail
    go_ret2
    exact ⟨by rw [hz.out]; rfl, hB.out⟩
  | true =>
    have hgp := hd (hg.1 rfl)
    have hn := good_len' hgp.out
    rcases h.open with ⟨a1, c1, rfl, hrr⟩ | ⟨b1, o1, c, rfl, hrr, C⟩
    · exfalso; have : l = [] := by simpa using hrr
      subst this; simp at hn
    clear hrr h
    simp only [List.length_map] at cg ⊢
    by_cases hk : 0 ≤ k ∧ k < (l.length : Int)
    · obtain ⟨j, rfl⟩ := Int.eq_ofNat_of_zero_le hk.1
      have hj : j < l.length := by omega
      have hz := hd (show r = PT l j from hr.out.1 ⟨hgp.out, hk.1, hk.2⟩)
      have cp := hd (fun (w' : World) (hbb : Below w.heap.size w w') => path_s l b1 o1 c hgp.out j w' hj (C.mono hbb))
      have hj0 : ¬ (j : Int) < 0 := by omega
      have hj1 : ¬ (l.length : Int) ≤ (j : Int) := by omega
      clear hg C hk hr
      go_enter Try.func45, Try.ntmps45
      go_wp2_with fail
      refine (cg.out _ (below_a1 _)).mono ?_
      rintro e w2 ⟨rfl, hb2⟩
      have q := keepCell hb2 (show World.cell? _ ⟨w.heap.size, 0, none⟩ = some (.slice (some ⟨b1, o1, none⟩) l.length c) by go_simp)
      have hB := hd ((below_a1 w).next hb2)
      clear hb2
      go_wp2_with fail
      refine (cp.out _ hB.out).mono ?_
      rintro e w5 ⟨rfl, hb5⟩
      have hB5 := hd (hB.out.next hb5)
      clear hb5
      go_wp2_with fail
      go_ret2
      exact ⟨by rw [hz.out]; try rfl, hB5.out⟩
    · have hz := hd (show r = none from hr.out.2 (fun q => hk q.2))
      by_cases hk0 : k < 0
      · clear hg C hk
        go_enter Try.func45, Try.ntmps45
        go_wp2_with fail
        refine (cg.out _ (below_a1 _)).mono ?_
        rintro e w2 ⟨rfl, hb2⟩
        have q := keepCell hb2 (show World.cell? _ ⟨w.heap.size, 0, none⟩ = some (.slice (some ⟨b1, o1, none⟩) l.length c) by go_simp)
        have hB := hd ((below_a1 w).next hb2)
        clear hb2
        go_wp2_with fail
        go_ret2
        exact ⟨by rw [hz.out]; rfl, hB.out⟩
      · have hk1 : (l.length : Int) ≤ k := by omega
        clear hg C hk
        go_enter Try.func45, Try.ntmps45
        go_wp2_with fail
        refine (cg.out _ (below_a1 _)).mono ?_
        rintro e w2 ⟨rfl, hb2⟩
        have q := keepCell hb2 (show World.cell? _ ⟨w.heap.size, 0, none⟩ = some (.slice (some ⟨b1, o1, none⟩) l.length c) by go_simp)
        have hB := hd ((below_a1 w).next hb2)
        clear hb2
        go_wp2_with fail
        go_ret2
        exact ⟨by rw [hz.out]; rfl, hB.out⟩
set_option maxHeartbeats 1600000 in
theorem TypeAt_i (l : List DType) (s : ByteArray) (v : Value) (w : World) (hl : l.length ≤ 1000000000) (hs : ∀ x ∈ l, x.name.size ≤ 1000000000000) (h : Sl w v 6 (l.map DType.enc)) (b : Bool) (r : Int) (hr : taP l s r b) :
    Calls Try.prog 48 #[.agg #[v], .string s] w (IBPost r b w) := by
  obtain ⟨g, hg⟩ := boolOf (goodP l)
  have cg := hd (fun w' (hbb : Below w.heap.size w w') => GoodSchema_i l v w' (by omega) hs (h.mono hbb) g hg)
  replace hr := hd hr
  cases g with
  | false =>
    obtain ⟨a1, c1, rfl, _⟩ := h
    simp only [List.length_map] at cg ⊢
    have hz := hd (hr.out.2.2 (fun q => absurd (hg.2 q) (by simp)))
    clear hg
    go_enter Try.func48, Try.ntmps48
    go_wp2_with fail
    refine (cg.out _ (below_a1 _)).mono ?_
    rintro e w2 ⟨rfl, hb2⟩
    have hB := hd ((below_a1 w).next hb2)
    clear hb2
    go_wp2_with fail
    go_ret2
    exact ⟨by rw [hz.out.1, hz.out.2]; rfl, hB.out⟩
  | true =>
    have hgp := hd (hg.1 rfl)
    have hn := good_len' hgp.out
    rcases h.open with ⟨a1, c1, rfl, hrr⟩ | ⟨b1, o1, c, rfl, hrr, C⟩
    · exfalso; have : l = [] := by simpa using hrr
      subst this; simp at hn
    clear hrr h
    simp only [List.length_map] at cg ⊢
    have cp := hd (fun (k : Nat) (w' : World) (hbb : Below w.heap.size w w') (hk : k < l.length) => path_i l b1 o1 c hgp.out k w' hk (C.mono hbb))
    clear hg C
    go_enter Try.func48, Try.ntmps48
    go_wp2_with fail
    refine (cg.out _ (below_a1 _)).mono ?_
    rintro e w2 ⟨rfl, hb2⟩
    have q := keepCell hb2 (show World.cell? _ ⟨w.heap.size, 0, none⟩ = some (.slice (some ⟨b1, o1, none⟩) l.length c) by go_simp)
    have hB := hd ((below_a1 w).next hb2)
    clear hb2
    have hq := hd q
    go_wp2_with fail
    clear q
    go_loopw [15] (fun n wr => ∃ k : Nat, n = .int .i64 k ∧ k ≤ l.length ∧ Hd (∀ i, i < k → PT l i ≠ some s) ∧ Hd (Below w2.heap.size w2 wr)) (fun n _ => l.length - (intOf n).toNat)
    case atStart => exact ⟨0, rfl, Nat.zero_le _, fun i h => by omega, Below.refl _ _⟩
    case round =>
      obtain ⟨k, rfl, hk, hno, hbl⟩ := hrel
      obtain ⟨wo, rfl⟩ : ∃ wo : World, wo = wr := ⟨_, rfl⟩
      have q := keepCell hbl.out hq.out
      have hbw := hd (hB.out.next hbl.out)
      by_cases hlt : k < l.length
      · have hltI : (k : Int) < (l.length : Int) := by omega
        have ck := hd (cp.out k wo hbw.out hlt)
        have hnx := hd (fun (g : PT l k ≠ some s) => (show ∀ i, i < k + 1 → PT l i ≠ some s from fun i hi => by
          by_cases e : i = k
          · subst e; exact g
          · exact hno.out i (by omega)))
        have hhit := hd (fun (g : PT l k = some s) => hr.out.1 k hlt g hno.out hgp.out)
        cases hP : PT l k with
        | none =>
          rw [hP] at ck
          have hnx2 := hd (hnx.out (by rw [hP]; simp))
          clear hP hnx hhit
          go_wp2_with fail
          refine ck.out.mono ?_
          rintro e w5 ⟨rfl, hb5⟩
          have hbl5 := hd (hbl.out.next hb5)
          clear hb5
          simp only [Option.getD_none, Option.isSome_none]
          go_wp2_with fail
          go_roundw
          case rel => exact ⟨k + 1, by go_num, by omega, hnx2, hbl5⟩
          case measure => simp [intOf]; omega
        | some p =>
          rw [hP] at ck
          by_cases hps : p = s
          · have hz := hd (hhit.out (by rw [hP, hps]))
            subst hps
            clear hP hnx hhit
            go_wp2_with fail
            refine ck.out.mono ?_
            rintro e w5 ⟨rfl, hb5⟩
            have hB5 := hd (hbw.out.next hb5)
            clear hb5
            simp only [Option.getD_some, Option.isSome_some]
            go_wp2_with fail
            go_ret2
            exact ⟨by rw [hz.out.1, hz.out.2]; rfl, hB5.out⟩
          · have hnx2 := hd (hnx.out (by rw [hP]; simpa using hps))
            have hpb := str_ne hps
            clear hP hnx hhit hps
            go_wp2_with fail
            refine ck.out.mono ?_
            rintro e w5 ⟨rfl, hb5⟩
            have hbl5 := hd (hbl.out.next hb5)
            clear hb5
            simp only [Option.getD_some, Option.isSome_some]
            go_wp2_with fail
            go_roundw
            case rel => exact ⟨k + 1, by go_num, by omega, hnx2, hbl5⟩
            case measure => simp [intOf]; omega
      · obtain rfl : k = l.length := by omega
        have hltI : ¬ (l.length : Int) < (l.length : Int) := by omega
        have hz := hd (hr.out.2.1 hgp.out (fun i hi => hno.out i hi))
        go_wp2_with fail
        go_ret2
        exact ⟨by rw [hz.out.1, hz.out.2]; rfl, hbw.out⟩
set_option maxHeartbeats 1600000 in
theorem TypeAt_s (l : List DType) (s : ByteArray) (v : Value) (w : World) (hl : l.length ≤ 1000000000) (hs : ∀ x ∈ l, x.name.size ≤ 1000000000000) (h : Sl w v 6 (l.map DType.enc)) (b : Bool) (r : Int) (hr : taP l s r b) :
    Calls Try.prog 47 #[.agg #[v], .string s] w (IBPost r b w) := by
  obtain ⟨g, hg⟩ := boolOf (goodP l)
  have cg := hd (fun w' (hbb : Below w.heap.size w w') => GoodSchema_s l v w' (by omega) hs (h.mono hbb) g hg)
  replace hr := hd hr
  cases g with
  | false =>
    obtain ⟨a1, c1, rfl, _⟩ := h
    simp only [List.length_map] at cg ⊢
    have hz := hd (hr.out.2.2 (fun q => absurd (hg.2 q) (by simp)))
    clear hg
    go_enter Try.func47, Try.ntmps47
    go_wp2_with fail
    refine (cg.out _ (below_a1 _)).mono ?_
    rintro e w2 ⟨rfl, hb2⟩
    have hB := hd ((below_a1 w).next hb2)
    clear hb2
    go_wp2_with fail
    go_ret2
    exact ⟨by rw [hz.out.1, hz.out.2]; rfl, hB.out⟩
  | true =>
    have hgp := hd (hg.1 rfl)
    have hn := good_len' hgp.out
    rcases h.open with ⟨a1, c1, rfl, hrr⟩ | ⟨b1, o1, c, rfl, hrr, C⟩
    · exfalso; have : l = [] := by simpa using hrr
      subst this; simp at hn
    clear hrr h
    simp only [List.length_map] at cg ⊢
    have cp := hd (fun (k : Nat) (w' : World) (hbb : Below w.heap.size w w') (hk : k < l.length) => path_s l b1 o1 c hgp.out k w' hk (C.mono hbb))
    clear hg C
    go_enter Try.func47, Try.ntmps47
    go_wp2_with fail
    refine (cg.out _ (below_a1 _)).mono ?_
    rintro e w2 ⟨rfl, hb2⟩
    have q := keepCell hb2 (show World.cell? _ ⟨w.heap.size, 0, none⟩ = some (.slice (some ⟨b1, o1, none⟩) l.length c) by go_simp)
    have hB := hd ((below_a1 w).next hb2)
    clear hb2
    have hq := hd q
    go_wp2_with fail
    clear q
    go_loopw [15] (fun n wr => ∃ k : Nat, n = .int .i64 k ∧ k ≤ l.length ∧ Hd (∀ i, i < k → PT l i ≠ some s) ∧ Hd (Below w2.heap.size w2 wr)) (fun n _ => l.length - (intOf n).toNat)
    case atStart => exact ⟨0, rfl, Nat.zero_le _, fun i h => by omega, Below.refl _ _⟩
    case round =>
      obtain ⟨k, rfl, hk, hno, hbl⟩ := hrel
      obtain ⟨wo, rfl⟩ : ∃ wo : World, wo = wr := ⟨_, rfl⟩
      have q := keepCell hbl.out hq.out
      have hbw := hd (hB.out.next hbl.out)
      by_cases hlt : k < l.length
      · have hltI : (k : Int) < (l.length : Int) := by omega
        have ck := hd (cp.out k wo hbw.out hlt)
        have hnx := hd (fun (g : PT l k ≠ some s) => (show ∀ i, i < k + 1 → PT l i ≠ some s from fun i hi => by
          by_cases e : i = k
          · subst e; exact g
          · exact hno.out i (by omega)))
        have hhit := hd (fun (g : PT l k = some s) => hr.out.1 k hlt g hno.out hgp.out)
        cases hP : PT l k with
        | none =>
          rw [hP] at ck
          have hnx2 := hd (hnx.out (by rw [hP]; simp))
          clear hP hnx hhit
          go_wp2_with fail
          refine ck.out.mono ?_
          rintro e w5 ⟨rfl, hb5⟩
          have hbl5 := hd (hbl.out.next hb5)
          clear hb5
          simp only [Option.getD_none, Option.isSome_none]
          go_wp2_with fail
          go_roundw
          case rel => exact ⟨k + 1, by go_num, by omega, hnx2, hbl5⟩
          case measure => simp [intOf]; omega
        | some p =>
          rw [hP] at ck
          by_cases hps : p = s
          · have hz := hd (hhit.out (by rw [hP, hps]))
            subst hps
            clear hP hnx hhit
            go_wp2_with fail
            refine ck.out.mono ?_
            rintro e w5 ⟨rfl, hb5⟩
            have hB5 := hd (hbw.out.next hb5)
            clear hb5
            simp only [Option.getD_some, Option.isSome_some]
            go_wp2_with fail
            go_ret2
            exact ⟨by rw [hz.out.1, hz.out.2]; rfl, hB5.out⟩
          · have hnx2 := hd (hnx.out (by rw [hP]; simpa using hps))
            have hpb := str_ne hps
            clear hP hnx hhit hps
            go_wp2_with fail
            refine ck.out.mono ?_
            rintro e w5 ⟨rfl, hb5⟩
            have hbl5 := hd (hbl.out.next hb5)
            clear hb5
            simp only [Option.getD_some, Option.isSome_some]
            go_wp2_with fail
            go_roundw
            case rel => exact ⟨k + 1, by go_num, by omega, hnx2, hbl5⟩
            case measure => simp [intOf]; omega
      · obtain rfl : k = l.length := by omega
        have hltI : ¬ (l.length : Int) < (l.length : Int) := by omega
        have hz := hd (hr.out.2.1 hgp.out (fun i hi => hno.out i hi))
        go_wp2_with fail
        go_ret2
        exact ⟨by rw [hz.out.1, hz.out.2]; rfl, hbw.out⟩
end Go.Proofs.Ytibmhnlmdabliaa

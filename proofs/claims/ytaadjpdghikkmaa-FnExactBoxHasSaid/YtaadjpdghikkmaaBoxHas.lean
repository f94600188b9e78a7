/- Boxes: a point in a box; BoxHas, of the program and of the reference. -/
import Derived.Test.YtaadjpdghikkmaaBox3
import Derived.Test.YtaadjpdghikkmaaInt
namespace Go.Proofs.Ytaadjpdghikkmaa
open Go.RowKit
set_option linter.unusedVariables false
set_option maxRecDepth 100000

def numBad (n : Int) : Bool := !decide (-1000 ≤ n ∧ n ≤ 1000)
def pointB (l : List Int) : Bool := (l.length == 3) && !l.any numBad
theorem pointOK_cl (x : Int) (w : World) : Calls Try.prog 110 #[.int .i64 x] w (BoolPost (numBad x) w) := by
  have c1 := hd (fun w => within_i x (-1000) 1000 w (!numBad x) (by simp [numBad]))
  generalize numBad x = b at *
  go_enter Try.func110, Try.ntmps110
  go_wp2_with fail
  refine (c1.out _).mono ?_
  rintro e w1 ⟨rfl, rfl⟩
  go_wp2_with fail
  go_ret
  exact ⟨by simp, Below.refl _ _⟩
set_option maxHeartbeats 800000 in
theorem ix_ptCl (p : Int → Bool) (l : List Int) (v : Value) (w : World) (hl : l.length ≤ 1000000000000) (h : Sl w v 1 (l.map encI))
    (hp : ∀ x ∈ l, ∀ w', Below w.heap.size w w' → Calls Try.prog 110 #[.int .i64 x] w' (BoolPost (p x) w')) :
    Calls Try.prog 111 #[v, .func (.func 110) #[] #[]] w (IntPost (fidx p l) w) := by
  replace hp := hd hp
  rcases h.open with ⟨a1, c1, rfl, hr⟩ | ⟨b1, o1, c1, rfl, hr, C1⟩
  · obtain rfl : l = [] := by simpa using hr
    go_enter Try.func111, Try.ntmps111
    go_wp2
    go_loopw [8] (fun i wr => i = .int .i64 0 ∧ wr = w) (fun _ _ => 0)
    case atStart => exact ⟨rfl, rfl⟩
    case round =>
      obtain ⟨rfl, rfl⟩ := hrel
      go_wp2_with fail
      go_ret
      exact ⟨rfl, Below.refl _ _⟩
  · clear h
    simp only [List.length_map]
    go_enter Try.func111, Try.ntmps111
    go_wp2
    go_loopw [8] (fun i wr => ∃ k : Nat, k ≤ l.length ∧ i = .int .i64 k ∧ Hd (fidx_from p l k) ∧ Hd (Below w.heap.size w wr)) (fun i _ => l.length - (intOf i).toNat)
    case atStart => exact ⟨0, Nat.zero_le _, rfl, fidx_zero p l, Below.refl _ _⟩
    case round =>
      obtain ⟨k, hk, rfl, hfx, hbl⟩ := hrel
      by_cases hlt : k < l.length
      · have f0 := Cells.rowI l k hlt (C1.mono hbl.out)
        cases hpx : p l[k] with
        | true =>
          replace hpx := hd hpx
          go_wp2_with fail
          refine (hp.out l[k] (List.getElem_mem hlt) _ hbl.out).mono ?_
          rw [hpx.out]
          rintro e w2 ⟨rfl, hb⟩
          have hb2 := hd (hbl.out.next hb)
          clear hb
          go_wp2_with fail
          go_ret
          exact ⟨ret_int (fidx_hit hlt hfx.out hpx.out).symm, hb2.out⟩
        | false =>
          replace hpx := hd hpx
          go_wp2_with fail
          refine (hp.out l[k] (List.getElem_mem hlt) _ hbl.out).mono ?_
          rw [hpx.out]
          rintro e w2 ⟨rfl, hb⟩
          have hb2 := hd (hbl.out.next hb)
          clear hb
          go_wp2_with fail
          go_roundw
          case rel => exact ⟨k + 1, by omega, by go_num, fidx_step hlt hfx.out hpx.out, hb2⟩
          case measure => simp [intOf]; omega
      · go_wp2_with fail
        go_ret
        exact ⟨ret_int (fidx_none (by omega) hfx.out).symm, hbl.out⟩
set_option maxHeartbeats 400000 in
theorem cf_ptCl (p : Int → Bool) (l : List Int) (v : Value) (w : World) (hl : l.length ≤ 1000000000000) (h : Sl w v 1 (l.map encI))
    (hp : ∀ x ∈ l, ∀ w', Below w.heap.size w w' → Calls Try.prog 110 #[.int .i64 x] w' (BoolPost (p x) w')) (b : Bool) (hb : l.any p = b) :
    Calls Try.prog 89 #[v, .func (.func 110) #[] #[]] w (BoolPost b w) := by
  have hc := hd (fun w' (hb : Below w.heap.size w w') => ix_ptCl p l v w' hl (h.mono hb) (fun x hx w2 h2 => hp x hx w2 (hb.next h2)))
  have hany := hd hb
  have hany2 := fidx_any p l
  rw [hb] at hany2
  generalize fidx p l = r at hc hany2
  clear h hp hb
  cases b with
  | true =>
    have h0 : 0 ≤ r := hany2.2 rfl
    clear hany2
    go_enter Try.func89, Try.ntmps89
    go_wp2_with fail
    refine (hc.out _ (Below.refl _ _)).mono ?_
    rintro e w2 ⟨rfl, hb⟩
    replace hb := hd hb
    go_wp2_with fail
    go_ret
    exact ⟨rfl, hb.out⟩
  | false =>
    have h0 : decide (0 ≤ r) = false := by have := mt hany2.1 (by simp); simp; omega
    clear hany2
    go_enter Try.func89, Try.ntmps89
    go_wp2_with fail
    refine (hc.out _ (Below.refl _ _)).mono ?_
    rintro e w2 ⟨rfl, hb⟩
    replace hb := hd hb
    go_wp2_with fail
    go_ret
    exact ⟨rfl, hb.out⟩

set_option maxHeartbeats 400000 in
theorem pointOK_i (l : List Int) (v : Value) (w : World) (hl : l.length ≤ 1000000000000) (h : Sl w v 1 (l.map encI)) (b : Bool) (hb : pointB l = b) :
    Calls Try.prog 69 #[v] w (BoolPost b w) := by
  have hk := hd h
  obtain ⟨a, c, rfl, _⟩ := h
  simp only [List.length_map] at hk ⊢
  by_cases h3 : l.length = 3
  · have hany := hd (show l.any numBad = !b by rw [← hb, pointB, h3]; simp)
    rw [h3] at hk ⊢
    clear h3 hb
    go_enter Try.func69, Try.ntmps69
    go_wp2_with fail
    refine (cf_ptCl numBad l _ _ hl hk.out (fun x _ w' _ => pointOK_cl x w') _ hany.out).mono ?_
    rintro e w2 ⟨rfl, hb2⟩
    replace hb2 := hd hb2
    go_wp2_with fail
    go_ret
    exact ⟨by simp, hb2.out⟩
  · have h3i : ((l.length : Int) == 3) = false := by simp; omega
    have hbf := hd (show b = false by rw [← hb, pointB]; simp [h3])
    clear h3
    go_enter Try.func69, Try.ntmps69
    go_wp2_with fail
    go_ret
    exact ⟨by rw [hbf.out]; rfl, Below.refl _ _⟩

set_option maxHeartbeats 800000 in
theorem point_s (l : List Int) (v : Value) (w : World) (hl : l.length ≤ 1000000000000) (h : Sl w v 1 (l.map encI)) (b : Bool) (hb : pointB l = b) :
    Calls Try.prog 67 #[v] w (BoolPost b w) := by
  have hbb := hd hb
  clear hb
  rcases h.open with ⟨a1, c1, rfl, hr⟩ | ⟨b1, o1, c1, rfl, hr, C1⟩
  · obtain rfl : l = [] := by simpa using hr
    have hbf := hd (show b = false by rw [← hbb.out]; rfl)
    go_enter Try.func67, Try.ntmps67
    go_wp2
    go_loopw [7] (fun i wr => i = .int .i64 0 ∧ wr = w) (fun _ _ => 0)
    case atStart => exact ⟨rfl, rfl⟩
    case round =>
      obtain ⟨rfl, rfl⟩ := hrel
      go_wp2_with fail
      go_ret
      exact ⟨by rw [hbf.out]; rfl, Below.refl _ _⟩
  · clear h
    simp only [List.length_map]
    go_enter Try.func67, Try.ntmps67
    go_wp2
    go_loopw [7] (fun i wr => ∃ k : Nat, k ≤ l.length ∧ i = .int .i64 k ∧ Hd (fidx_from numBad l k) ∧ wr = w) (fun i _ => l.length - (intOf i).toNat)
    case atStart => exact ⟨0, Nat.zero_le _, rfl, fidx_zero _ _, rfl⟩
    case round =>
      obtain ⟨k, hk, rfl, hfx, rfl⟩ := hrel
      by_cases hlt : k < l.length
      · have f0 := Cells.rowI l k hlt C1
        cases hpx : numBad l[k] with
        | true =>
          have hgf := hd (show b = false by rw [← hbb.out, pointB, show l.any numBad = true from List.any_eq_true.2 ⟨_, List.getElem_mem hlt, hpx⟩]; simp)
          have c1 := hd (fun w => within_s l[k] (-1000) 1000 w false (by simp [numBad] at hpx; simp; omega))
          clear hpx
          go_wp2_with fail
          refine (c1.out _).mono ?_
          rintro e w1 ⟨rfl, rfl⟩
          go_wp2_with fail
          go_ret
          exact ⟨by rw [hgf.out]; rfl, Below.refl _ _⟩
        | false =>
          have c1 := hd (fun w => within_s l[k] (-1000) 1000 w true (by simp [numBad] at hpx; simp; omega))
          have hst := hd (fidx_step hlt hfx.out hpx)
          clear hpx
          go_wp2_with fail
          refine (c1.out _).mono ?_
          rintro e w1 ⟨rfl, rfl⟩
          go_wp2_with fail
          go_roundw
          case rel => exact ⟨k + 1, by omega, by go_num, hst.out, (by first | rfl | trivial)⟩
          case measure => simp [intOf]; omega
      · have hkl : k = l.length := by omega
        have hany := hd (show l.any numBad = false by
          rw [List.any_eq_false]; intro x hx
          obtain ⟨i, hi, rfl⟩ := List.getElem_of_mem hx
          rw [hfx.out i hi (by omega)]; simp)
        have hres := hd (show ((l.length : Int) == 3) = b by rw [← hbb.out, pointB, hany.out]; rw [Bool.eq_iff_iff]; simp; omega)
        clear hkl
        go_wp2_with fail
        go_ret
        exact ⟨by rw [← hres.out]; rfl, Below.refl _ _⟩

def hasBad (x : DSide × Int) : Bool := !decide (x.1.lo ≤ x.2 ∧ x.2 ≤ x.1.hi)
def hasB (la : List DSide) (lb : List Int) : Bool := !(la.zip lb).any hasBad
theorem has_hit {la : List DSide} {lb : List Int} {k : Nat} (h1 : k < la.length) (h2 : k < lb.length) (h : hasBad (la[k], lb[k]) = true) : hasB la lb = false := by
  rw [hasB, show (la.zip lb).any hasBad = true from List.any_eq_true.2 ⟨(la[k], lb[k]), ?_, h⟩]; rfl
  rw [← List.getElem_zip (h := by simp; omega)]
  exact List.getElem_mem _
theorem has_step {la : List DSide} {lb : List Int} {k : Nat} (h1 : k < la.length) (h2 : k < lb.length) (h : fidx_from hasBad (la.zip lb) k) (hp : hasBad (la[k], lb[k]) = false) : fidx_from hasBad (la.zip lb) (k + 1) :=
  fidx_step (by simp; omega) h (by rw [List.getElem_zip]; exact hp)
theorem has_none {la : List DSide} {lb : List Int} {k : Nat} (hk : (la.zip lb).length ≤ k) (h : fidx_from hasBad (la.zip lb) k) : hasB la lb = true := by
  rw [hasB, show (la.zip lb).any hasBad = false from ?_]; rfl
  rw [List.any_eq_false]; intro x hx
  obtain ⟨i, hi, rfl⟩ := List.getElem_of_mem hx
  rw [h i hi (by omega)]; simp

set_option maxHeartbeats 1600000 in
theorem has_i (la : List DSide) (lb : List Int) (va vb : Value) (w : World) (hn : la.length = lb.length) (h0 : 0 < la.length) (hl : la.length ≤ 1000000000000) (ha : Sl w va 2 (la.map DSide.enc)) (hb : Sl w vb 1 (lb.map encI)) :
    Calls Try.prog 70 #[.agg #[va], vb] w (BoolPost (hasB la lb) w) := by
  rcases ha.open with ⟨a1, c1, rfl, hr⟩ | ⟨b1, o1, c1, rfl, hr, C1⟩
  · exfalso; have : la = [] := by simpa using hr
    subst this; simp at h0
  rcases hb.open with ⟨a2, c2, rfl, hr2⟩ | ⟨b2, o2, c2, rfl, _, C2⟩
  · exfalso; have : lb = [] := by simpa using hr2
    subst this; rw [List.length_nil] at hn; omega
  clear ha hb
  have hn' := hd hn
  simp only [List.length_map]
  rw [← hn]
  clear hn
  obtain ⟨W, hW⟩ : ∃ W, W = (w.alloc (.cells #[.slice (some ⟨b1, o1, none⟩) la.length c1] 29)) := ⟨_, rfl⟩
  have hW0 := hd (show Below w.heap.size w W by rw [hW]; exact below_a1 _)
  replace hW := hd hW
  go_enter Try.func70, Try.ntmps70
  go_wp2
  rw [← hW.out]
  go_loopw [10] (fun i wr => ∃ k : Nat, k ≤ la.length ∧ i = .int .i64 k ∧ Hd (fidx_from hasBad (la.zip lb) k) ∧ Hd (Below W.heap.size W wr)) (fun i _ => la.length - (intOf i).toNat)
  case atStart => exact ⟨0, Nat.zero_le _, rfl, fidx_zero _ _, Below.refl _ _⟩
  case round =>
    obtain ⟨k, hk, rfl, hfx, hbl⟩ := hrel
    have hbw := hd (hW0.out.next hbl.out)
    by_cases hlt : k < la.length
    · have hltI : (k : Int) < (la.length : Int) := by omega
      have hlt2 : k < lb.length := by rw [← hn'.out]; exact hlt
      obtain ⟨f0, f1⟩ := Cells.rowSide la k hlt (C1.mono hbw.out)
      have g0 := Cells.rowI lb k hlt2 (C2.mono hbw.out)
      generalize hx : la[k] = x at *
      generalize hy : lb[k] = y at *
      replace hx := hd hx
      replace hy := hd hy
      obtain ⟨p, hp⟩ : ∃ p, hasBad (x, y) = p := ⟨_, rfl⟩
      have c1 := hd (fun w => within_i y x.lo x.hi w (!p) (by rw [← hp]; simp [hasBad]))
      replace hp := hd hp
      go_upto_region 4 with (fail)
      have e0 := keepCell (below_a1 wr (a := (.cells #[.int .i64 x.lo, .int .i64 x.hi] 88))) g0
      have e3 : (wr.alloc (.cells #[.int .i64 x.lo, .int .i64 x.hi] 88)).cell? ⟨wr.heap.size, 0, none⟩ = some (.int .i64 x.lo) := by go_simp
      have e4 : (wr.alloc (.cells #[.int .i64 x.lo, .int .i64 x.hi] 88)).cell? ⟨wr.heap.size, 1, none⟩ = some (.int .i64 x.hi) := by go_simp
      have hbl2 := hd (hbl.out.next (below_a1 wr (a := (.cells #[.int .i64 x.lo, .int .i64 x.hi] 88))))
      have hbw2 := hd (hbw.out.next (below_a1 wr (a := (.cells #[.int .i64 x.lo, .int .i64 x.hi] 88))))
      generalize wr.alloc (.cells #[.int .i64 x.lo, .int .i64 x.hi] 88) = W2 at e0 e3 e4 hbl2 hbw2 ⊢
      clear g0 f0 f1
      go_quiet ((go_at_call 81; exact Calls.quiet_of_same ((c1.out _).mono fun e w' h => ⟨h.1, h.2.symm⟩)))
      cases p with
      | true =>
        have hres := hd (has_hit hlt hlt2 (by rw [hx.out, hy.out]; exact hp.out))
        go_wp2_with fail
        go_ret
        exact ⟨by rw [hres.out]; rfl, below_drewN hbw2.out _⟩
      | false =>
        have hst := hd (has_step hlt hlt2 hfx.out (by rw [hx.out, hy.out]; exact hp.out))
        go_wp2_with fail
        go_roundw
        case rel => exact ⟨k + 1, by omega, by go_num, hst.out, below_drewN hbl2.out _⟩
        case measure => simp [intOf]; omega
    · have hres := hd (has_none (by simp; omega) hfx.out)
      go_wp2_with fail
      go_ret
      exact ⟨by rw [hres.out]; rfl, hbw.out⟩
set_option maxHeartbeats 1600000 in
theorem has_s (la : List DSide) (lb : List Int) (va vb : Value) (w : World) (hn : la.length = lb.length) (h0 : 0 < la.length) (hl : la.length ≤ 1000000000000) (ha : Sl w va 2 (la.map DSide.enc)) (hb : Sl w vb 1 (lb.map encI)) :
    Calls Try.prog 68 #[.agg #[va], vb] w (BoolPost (hasB la lb) w) := by
  rcases ha.open with ⟨a1, c1, rfl, hr⟩ | ⟨b1, o1, c1, rfl, hr, C1⟩
  · exfalso; have : la = [] := by simpa using hr
    subst this; simp at h0
  rcases hb.open with ⟨a2, c2, rfl, hr2⟩ | ⟨b2, o2, c2, rfl, _, C2⟩
  · exfalso; have : lb = [] := by simpa using hr2
    subst this; rw [List.length_nil] at hn; omega
  clear ha hb
  have hn' := hd hn
  simp only [List.length_map]
  rw [← hn]
  clear hn
  obtain ⟨W, hW⟩ : ∃ W, W = (w.alloc (.cells #[.slice (some ⟨b1, o1, none⟩) la.length c1] 29)) := ⟨_, rfl⟩
  have hW0 := hd (show Below w.heap.size w W by rw [hW]; exact below_a1 _)
  replace hW := hd hW
  go_enter Try.func68, Try.ntmps68
  go_wp2
  rw [← hW.out]
  go_loopw [10] (fun i wr => ∃ k : Nat, k ≤ la.length ∧ i = .int .i64 k ∧ Hd (fidx_from hasBad (la.zip lb) k) ∧ Hd (Below W.heap.size W wr)) (fun i _ => la.length - (intOf i).toNat)
  case atStart => exact ⟨0, Nat.zero_le _, rfl, fidx_zero _ _, Below.refl _ _⟩
  case round =>
    obtain ⟨k, hk, rfl, hfx, hbl⟩ := hrel
    have hbw := hd (hW0.out.next hbl.out)
    by_cases hlt : k < la.length
    · have hltI : (k : Int) < (la.length : Int) := by omega
      have hlt2 : k < lb.length := by rw [← hn'.out]; exact hlt
      obtain ⟨f0, f1⟩ := Cells.rowSide la k hlt (C1.mono hbw.out)
      have g0 := Cells.rowI lb k hlt2 (C2.mono hbw.out)
      generalize hx : la[k] = x at *
      generalize hy : lb[k] = y at *
      replace hx := hd hx
      replace hy := hd hy
      obtain ⟨p, hp⟩ : ∃ p, hasBad (x, y) = p := ⟨_, rfl⟩
      have c1 := hd (fun w => within_s y x.lo x.hi w (!p) (by rw [← hp]; simp [hasBad]))
      replace hp := hd hp
      go_upto_region 4 with (fail)
      have e0 := keepCell (below_a1 wr (a := (.cells #[.int .i64 x.lo, .int .i64 x.hi] 88))) g0
      have e3 : (wr.alloc (.cells #[.int .i64 x.lo, .int .i64 x.hi] 88)).cell? ⟨wr.heap.size, 0, none⟩ = some (.int .i64 x.lo) := by go_simp
      have e4 : (wr.alloc (.cells #[.int .i64 x.lo, .int .i64 x.hi] 88)).cell? ⟨wr.heap.size, 1, none⟩ = some (.int .i64 x.hi) := by go_simp
      have hbl2 := hd (hbl.out.next (below_a1 wr (a := (.cells #[.int .i64 x.lo, .int .i64 x.hi] 88))))
      have hbw2 := hd (hbw.out.next (below_a1 wr (a := (.cells #[.int .i64 x.lo, .int .i64 x.hi] 88))))
      generalize wr.alloc (.cells #[.int .i64 x.lo, .int .i64 x.hi] 88) = W2 at e0 e3 e4 hbl2 hbw2 ⊢
      clear g0 f0 f1
      go_quiet ((go_at_call 60; exact Calls.quiet_of_same ((c1.out _).mono fun e w' h => ⟨h.1, h.2.symm⟩)))
      cases p with
      | true =>
        have hres := hd (has_hit hlt hlt2 (by rw [hx.out, hy.out]; exact hp.out))
        go_wp2_with fail
        go_ret
        exact ⟨by rw [hres.out]; rfl, below_drewN hbw2.out _⟩
      | false =>
        have hst := hd (has_step hlt hlt2 hfx.out (by rw [hx.out, hy.out]; exact hp.out))
        go_wp2_with fail
        go_roundw
        case rel => exact ⟨k + 1, by omega, by go_num, hst.out, below_drewN hbl2.out _⟩
        case measure => simp [intOf]; omega
    · have hres := hd (has_none (by simp; omega) hfx.out)
      go_wp2_with fail
      go_ret
      exact ⟨by rw [hres.out]; rfl, hbw.out⟩

def bhR (la : List DSide) (lb : List Int) : Bool × Bool := if goodBox la = true ∧ pointB lb = true then (hasB la lb, true) else (false, false)
theorem pointB_len {l : List Int} (h : pointB l = true) : l.length = 3 := by simp [pointB] at h; exact h.1
set_option maxHeartbeats 800000 in
theorem BoxHas_i (la : List DSide) (lb : List Int) (va vb : Value) (w : World) (hla : la.length ≤ 1000000000000) (hlb : lb.length ≤ 1000000000000) (ha : Sl w va 2 (la.map DSide.enc)) (hb : Sl w vb 1 (lb.map encI)) (r : Bool × Bool) (hr : bhR la lb = r) :
    Calls Try.prog 24 #[.agg #[va], vb] w (BBPost r w) := by
  have hka := hd ha
  have hkb := hd hb
  obtain ⟨a1, c1, rfl, _⟩ := ha
  obtain ⟨a2, c2, rfl, _⟩ := hb
  simp only [List.length_map] at hka hkb ⊢
  cases hga : goodBox la with
  | false =>
    have hres := hd (show r = (false, false) by rw [← hr, bhR, if_neg (by simp [hga])])
    replace hga := hd hga
    clear hr
    go_enter Try.func24, Try.ntmps24
    go_wp2_with fail
    refine (GoodBox_i la _ _ hla (hka.out.mono (below_a1 _)) false hga.out).mono ?_
    rintro e w1 ⟨rfl, hb1⟩
    have hB := hd ((below_a1 w).next hb1)
    clear hb1
    go_wp2_with fail
    go_ret2
    exact ⟨by rw [hres.out]; rfl, hB.out⟩
  | true =>
    replace hga := hd hga
    cases hgb : pointB lb with
    | false =>
      have hres := hd (show r = (false, false) by rw [← hr, bhR, if_neg (by simp [hgb])])
      replace hgb := hd hgb
      clear hr
      go_enter Try.func24, Try.ntmps24
      go_wp2_with fail
      refine (GoodBox_i la _ _ hla (hka.out.mono (below_a1 _)) true hga.out).mono ?_
      rintro e w1 ⟨rfl, hb1⟩
      have hB := hd ((below_a1 w).next hb1)
      clear hb1
      go_wp2_with fail
      refine (pointOK_i lb _ _ hlb (hkb.out.mono hB.out) false hgb.out).mono ?_
      rintro e w2 ⟨rfl, hb2⟩
      have hB2 := hd (hB.out.next hb2)
      clear hb2
      go_wp2_with fail
      go_ret2
      exact ⟨by rw [hres.out]; rfl, hB2.out⟩
    | true =>
      have hres := hd (show r = (hasB la lb, true) by rw [← hr, bhR, if_pos ⟨hga.out, hgb⟩])
      replace hgb := hd hgb
      have h3a := goodBox_len hga.out
      have h3b := pointB_len hgb.out
      have hn := hd (show la.length = lb.length ∧ 0 < la.length by omega)
      clear hr h3a h3b
      go_enter Try.func24, Try.ntmps24
      go_wp2_with fail
      refine (GoodBox_i la _ _ hla (hka.out.mono (below_a1 _)) true hga.out).mono ?_
      rintro e w1 ⟨rfl, hb1⟩
      have q0 := keepCell hb1 (show _ = some (.slice a1 la.length c1) from (by go_simp : World.cell? _ ⟨w.heap.size, 0, none⟩ = _))
      have hB := hd ((below_a1 w).next hb1)
      clear hb1
      go_wp2_with fail
      refine (pointOK_i lb _ _ hlb (hkb.out.mono hB.out) true hgb.out).mono ?_
      rintro e w2 ⟨rfl, hb2⟩
      have q2 := keepCell hb2 q0
      have hB2 := hd (hB.out.next hb2)
      clear hb2 q0 hB
      go_wp2_with fail
      refine (has_i la lb _ _ _ hn.out.1 hn.out.2 hla (hka.out.mono hB2.out) (hkb.out.mono hB2.out)).mono ?_
      rintro e w3 ⟨rfl, hb3⟩
      have hB3 := hd (hB2.out.next hb3)
      clear hb3 q2 hB2
      go_wp2_with fail
      go_ret2
      exact ⟨by rw [hres.out]; rfl, hB3.out⟩
set_option maxHeartbeats 800000 in
theorem BoxHas_s (la : List DSide) (lb : List Int) (va vb : Value) (w : World) (hla : la.length ≤ 1000000000000) (hlb : lb.length ≤ 1000000000000) (ha : Sl w va 2 (la.map DSide.enc)) (hb : Sl w vb 1 (lb.map encI)) (r : Bool × Bool) (hr : bhR la lb = r) :
    Calls Try.prog 22 #[.agg #[va], vb] w (BBPost r w) := by
  have hka := hd ha
  have hkb := hd hb
  obtain ⟨a1, c1, rfl, _⟩ := ha
  obtain ⟨a2, c2, rfl, _⟩ := hb
  simp only [List.length_map] at hka hkb ⊢
  cases hga : goodBox la with
  | false =>
    have hres := hd (show r = (false, false) by rw [← hr, bhR, if_neg (by simp [hga])])
    replace hga := hd hga
    clear hr
    go_enter Try.func22, Try.ntmps22
    go_wp2_with fail
    refine (GoodBox_s la _ _ hla (hka.out.mono (below_a1 _)) false hga.out).mono ?_
    rintro e w1 ⟨rfl, hb1⟩
    have hB := hd ((below_a1 w).next hb1)
    clear hb1
    go_wp2_with fail
    go_ret2
    exact ⟨by rw [hres.out]; rfl, hB.out⟩
  | true =>
    replace hga := hd hga
    cases hgb : pointB lb with
    | false =>
      have hres := hd (show r = (false, false) by rw [← hr, bhR, if_neg (by simp [hgb])])
      replace hgb := hd hgb
      clear hr
      go_enter Try.func22, Try.ntmps22
      go_wp2_with fail
      refine (GoodBox_s la _ _ hla (hka.out.mono (below_a1 _)) true hga.out).mono ?_
      rintro e w1 ⟨rfl, hb1⟩
      have hB := hd ((below_a1 w).next hb1)
      clear hb1
      go_wp2_with fail
      refine (point_s lb _ _ hlb (hkb.out.mono hB.out) false hgb.out).mono ?_
      rintro e w2 ⟨rfl, hb2⟩
      have hB2 := hd (hB.out.next hb2)
      clear hb2
      go_wp2_with fail
      go_ret2
      exact ⟨by rw [hres.out]; rfl, hB2.out⟩
    | true =>
      have hres := hd (show r = (hasB la lb, true) by rw [← hr, bhR, if_pos ⟨hga.out, hgb⟩])
      replace hgb := hd hgb
      have h3a := goodBox_len hga.out
      have h3b := pointB_len hgb.out
      have hn := hd (show la.length = lb.length ∧ 0 < la.length by omega)
      clear hr h3a h3b
      go_enter Try.func22, Try.ntmps22
      go_wp2_with fail
      refine (GoodBox_s la _ _ hla (hka.out.mono (below_a1 _)) true hga.out).mono ?_
      rintro e w1 ⟨rfl, hb1⟩
      have q0 := keepCell hb1 (show _ = some (.slice a1 la.length c1) from (by go_simp : World.cell? _ ⟨w.heap.size, 0, none⟩ = _))
      have hB := hd ((below_a1 w).next hb1)
      clear hb1
      go_wp2_with fail
      refine (point_s lb _ _ hlb (hkb.out.mono hB.out) true hgb.out).mono ?_
      rintro e w2 ⟨rfl, hb2⟩
      have q2 := keepCell hb2 q0
      have hB2 := hd (hB.out.next hb2)
      clear hb2 q0 hB
      go_wp2_with fail
      refine (has_s la lb _ _ _ hn.out.1 hn.out.2 hla (hka.out.mono hB2.out) (hkb.out.mono hB2.out)).mono ?_
      rintro e w3 ⟨rfl, hb3⟩
      have hB3 := hd (hB2.out.next hb3)
      clear hb3 q2 hB2
      go_wp2_with fail
      go_ret2
      exact ⟨by rw [hres.out]; rfl, hB3.out⟩
end Go.Proofs.Ytaadjpdghikkmaa

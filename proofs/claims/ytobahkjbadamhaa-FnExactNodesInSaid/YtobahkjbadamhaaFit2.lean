/- Where what begins at a node ends, if it fits a type: fit of the program. -/
import Derived.Test.YtobahkjbadamhaaFit
import Derived.StillTailTactics
namespace Go.Proofs.Ytobahkjbadamhaa
open Go.RowKit
set_option linter.unusedVariables false
set_option maxRecDepth 100000
def cellN (w : World) (a : Addr) : Nat := match w.cell? a with | some (.int _ n) => n.toNat | _ => 0
theorem cellN_of {w : World} {a : Addr} {k : IntKind} {n : Nat} (h : w.cell? a = some (.int k (n : Int))) : cellN w a = n := by rw [cellN, h]; simp
/-- What a type's test comes to: the place behind, or -1. -/
def fitR (b : Bool) (e : Nat) : Int := if b then (e : Int) else -1
set_option maxHeartbeats 8000000 in
theorem fit_i (l : List DNode) (b1 o1 c : Nat) (hl : l.length ≤ 1000000) (hnm : ∀ x ∈ l, x.text.size ≤ 1000000000000) (t : K) : ∀ (v : K) (a e : Nat) (vt : Value) (w : World) (lo hi : Nat), hi ≤ w.heap.size → rightK t → countK t ≤ 1000000 → enc (trees l) v a e → Stuck (trees l) a e → Cells w b1 o1 5 (l.map DNode.enc) → RepP w lo hi t vt →
    Calls Try.prog 86 #[vt, .slice (some ⟨b1, o1, none⟩) l.length c, .int .i64 a] w (IntPost (fitR (fitsB t v) e) w) := by
  refine K.ind2 (P := fun t => ∀ (v : K) (a e : Nat) (vt : Value) (w : World) (lo hi : Nat), hi ≤ w.heap.size → rightK t → countK t ≤ 1000000 → enc (trees l) v a e → Stuck (trees l) a e → Cells w b1 o1 5 (l.map DNode.enc) → RepP w lo hi t vt →
    Calls Try.prog 86 #[vt, .slice (some ⟨b1, o1, none⟩) l.length c, .int .i64 a] w (IntPost (fitR (fitsB t v) e) w)) ?_ t
  intro t ih v a e vt w lo hi hh hr hct hE hSt hC hR
  have ih := hd ih
  have hnm := hd hnm
  obtain ⟨hal, g0, g1, g2, g3, g4⟩ := encV_top hE
  have halI : (a : Int) < (l.length : Int) := by omega
  have hbd := enc_bd v _ _ hE
  have hel : e ≤ l.length := by have := hbd.2.1; rw [trees_len] at this; exact this
  have hae : a < e := hbd.1
  have hkids := hd (encV_kids hE)
  have hhold := hd (fun (h : v.must = true) => hSt a (Nat.le_refl _) (enc_sp v _ _ hE).1 (encV_holds hE h))
  have hStk := hd hSt
  have hC0 := hd hC
  have hb1 := hC.1
  have hR0 := hd hR
  have hch := hd (fun w' (hb : Below w.heap.size w w') => holds_i t vt w' lo hi (hR.below hh hb))
  have hlf := hd (fun w' (hb : Below w.heap.size w w') up (hn : holdsB t.of = false) => leafOK_i t v up vt w' lo hi (hR.below hh hb) (by rw [← g1]; exact hnm.out _ (List.getElem_mem hal)) hn)
  obtain ⟨f0, f1, f2, f3, f4⟩ := Cells.rowNode l a hal hC
  rw [g0] at f0
  rw [g1] at f1
  rw [g2] at f2
  rw [g3] at f4
  have hpl := len_count t.parts
  rw [countK_eq] at hct
  have hcp := hd (fun p (hp : p ∈ t.parts) => count_part hp)
  have hrp := hd (fun p (hp : p ∈ t.parts) => right_part hr hp)
  have hone := hd (fun (h4 : t.of = 4) => right_one hr h4)
  have hfit := hd (fitsB_eq t v)
  have hw1 : IntKind.i64.wrap ((a : Int) + 1) = (a : Int) + 1 := IntWalk.i64_in _ (by omega)
  have hp4 := hd g4
  have hend := hd (show leafB t.of t.most v = true → e = a + 1 from fun h => by
    have hv : v.must = false := by
      cases hv : v.must with
      | false => rfl
      | true => rw [leafB, hv] at h; simp at h
    have hps : v.parts = [] := hp4.out.resolve_left (by rw [hv]; simp)
    have := hkids.out
    rw [hps, encL] at this
    exact this)
  clear g0 g1 g2 g3 g4 hE hSt hbd hr
  obtain ⟨bk, ak, ck, vs, rfl, hbk, c0, c1, c2, c3, c4, c5, hS, hlv, hg⟩ := hR.open
  have hg := hd hg
  have hS := hd hS
  clear hR c1 c2 c3 c4
  generalize l[a].up = ux at *
  generalize hzl : leafB t.of t.most v = zl at *
  generalize hz : fitsB t v = z at *
  replace hzl := hd hzl
  replace hz := hd hz
  generalize v.most = vn at *
  generalize v.name = vx at *
  generalize v.no = vo at *
  generalize v.must = vm at *
  generalize v.parts = kv at *
  cases hho : holdsB t.of with
  | false =>
    have hlf2 := hd (fun w' hb up => hlf.out w' hb up hho)
    rw [hho] at hch hfit
    have hzz := hd (show z = zl from hfit.out)
    clear hfit hlf hho hhold hStk hkids hone
    cases zl with
    | true =>
      obtain rfl := hend.out rfl
      go_enter Try.func86, Try.ntmps86
      go_wp2_with fail
      refine (hch.out _ (below_a3 _)).mono ?_
      rintro e2 w2 ⟨rfl, rfl⟩
      go_wp2_with fail
      refine (hlf2.out _ (below_a3 _) _).mono ?_
      rintro e2 w2 ⟨rfl, hb2⟩
      have qA := keepCell hb2 (show World.cell? _ ⟨w.heap.size + 1, 0, none⟩ = some (.int .i64 a) by go_simp)
      have hB := hd ((below_a3 w).next hb2)
      clear hb2
      go_wp2_with fail
      go_ret
      exact ⟨by rw [hzz.out]; rfl, hB.out⟩
    | false =>
      go_enter Try.func86, Try.ntmps86
      go_wp2_with fail
      refine (hch.out _ (below_a3 _)).mono ?_
      rintro e2 w2 ⟨rfl, rfl⟩
      go_wp2_with fail
      refine (hlf2.out _ (below_a3 _) _).mono ?_
      rintro e2 w2 ⟨rfl, hb2⟩
      have hB := hd ((below_a3 w).next hb2)
      clear hb2
      go_wp2_with fail
      go_ret
      exact ⟨by rw [hzz.out]; rfl, hB.out⟩
  | true =>
    rw [hho] at hch hfit
    rw [if_pos rfl] at hfit
    have hbad := hd (fun (h : (vm && (vn == 0) && vx.toList.isEmpty) = false) => (show z = false by rw [hfit.out, h]; rfl))
    clear hlf hend hzl
    cases vm with
    | false =>
      have hzf := hd (hbad.out rfl)
      go_enter Try.func86, Try.ntmps86
      go_wp2_with fail
      refine (hch.out _ (below_a3 _)).mono ?_
      rintro e2 w2 ⟨rfl, rfl⟩
      go_wp2_with fail
      go_ret
      exact ⟨by rw [hzf.out]; rfl, below_a3 _⟩
    | true =>
      cases hn0 : (vn == 0) with
      | false =>
        have hzf := hd (hbad.out (by rw [hn0]; rfl))
        have hn0b : (vn != 0) = true := by rw [bne, hn0]; rfl
        go_enter Try.func86, Try.ntmps86
        go_wp2_with fail
        refine (hch.out _ (below_a3 _)).mono ?_
        rintro e2 w2 ⟨rfl, rfl⟩
        go_wp2_with fail
        go_ret
        exact ⟨by rw [hzf.out]; rfl, below_a3 _⟩
      | true =>
        have hn0b : (vn != 0) = false := by rw [bne, hn0]; rfl
        cases hx0 : vx.toList.isEmpty with
        | false =>
          have hzf := hd (hbad.out (by rw [hn0, hx0]; rfl))
          have hx0b : (!vx.toList.isEmpty) = true := by rw [hx0]; rfl
          go_enter Try.func86, Try.ntmps86
          go_wp2_with fail
          refine (hch.out _ (below_a3 _)).mono ?_
          rintro e2 w2 ⟨rfl, rfl⟩
          go_wp2_with fail
          go_ret
          exact ⟨by rw [hzf.out]; rfl, below_a3 _⟩
        | true =>
          have hx0b : (!vx.toList.isEmpty) = false := by rw [hx0]; rfl
          have hfit2 := hd (show z = if t.of = 4 then fitsH t.parts kv else mergeB t.parts kv by rw [hfit.out, hn0, hx0]; simp)
          clear hfit hbad
          have hLz := hd (below_a4 w (a := .cells #[.slice (some ⟨b1, o1, none⟩) l.length c] 37) (b := .cells #[.int .i64 a] 3) (c := .cells #[.int .i64 vn, .string vx, .int .i64 vo, .int .i64 ux, .bool true] 113) (d := .cells #[.int .i64 ((a : Int) + 1)] 3))
          have hXE := hd (show Box1 ((((w.alloc (.cells #[.slice (some ⟨b1, o1, none⟩) l.length c] 37)).alloc (.cells #[.int .i64 a] 3)).alloc (.cells #[.int .i64 vn, .string vx, .int .i64 vo, .int .i64 ux, .bool true] 113)).alloc (.cells #[.int .i64 ((a : Int) + 1)] 3)) (w.heap.size + 1 + 1 + 1) (.int .i64 ((a : Int) + 1)) from ⟨by go_simp, by go_simp⟩)
          have qL0 := hd (show ((((w.alloc (.cells #[.slice (some ⟨b1, o1, none⟩) l.length c] 37)).alloc (.cells #[.int .i64 a] 3)).alloc (.cells #[.int .i64 vn, .string vx, .int .i64 vo, .int .i64 ux, .bool true] 113)).alloc (.cells #[.int .i64 ((a : Int) + 1)] 3)).cell? ⟨w.heap.size, 0, none⟩ = some (.slice (some ⟨b1, o1, none⟩) l.length c) by go_simp)
          have qA0 := hd (show ((((w.alloc (.cells #[.slice (some ⟨b1, o1, none⟩) l.length c] 37)).alloc (.cells #[.int .i64 a] 3)).alloc (.cells #[.int .i64 vn, .string vx, .int .i64 vo, .int .i64 ux, .bool true] 113)).alloc (.cells #[.int .i64 ((a : Int) + 1)] 3)).cell? ⟨w.heap.size + 1, 0, none⟩ = some (.int .i64 a) by go_simp)
          have hzW := hd (show ((((w.alloc (.cells #[.slice (some ⟨b1, o1, none⟩) l.length c] 37)).alloc (.cells #[.int .i64 a] 3)).alloc (.cells #[.int .i64 vn, .string vx, .int .i64 vo, .int .i64 ux, .bool true] 113)).alloc (.cells #[.int .i64 ((a : Int) + 1)] 3)).heap.size = w.heap.size + 1 + 1 + 1 + 1 by simp)
          by_cases h4 : t.of = 4
          · obtain ⟨p, hp1⟩ := hone.out h4
            rw [if_pos h4, hp1, fitsH_one] at hfit2
            rw [h4] at c0
            have hpm : p ∈ t.parts := by rw [hp1]; simp
            have ihp := hd (ih.out p hpm)
            have hrp1 := hd (hrp.out p hpm)
            have hcp1 := hcp.out p hpm
            have hgp := hg.out 0 (by rw [hp1]; simp) (by rw [hlv, hp1]; simp)
            rw [show t.parts[0]'(by rw [hp1]; simp) = p by simp [hp1]] at hgp
            replace hgp := hd hgp
            rw [hp1, List.length_singleton] at c5 hS hlv
            obtain ⟨bS, oS, rfl, hbS, hcS⟩ := hS.out.at (j := 0) (by omega)
            have hc0 := hcS 0 (by omega)
            rw [Nat.add_zero] at hc0
            generalize vs[0] = vp at *
            change Hd (RepP w lo hi p vp) at hgp
            have hbadj := hd (fun j (h : j < kv.length) (h2 : ((kv[j].no == 0) && fitsB p kv[j]) = false) => (show z = false by
              rw [hfit2.out, List.all_eq_false]; exact ⟨kv[j], List.getElem_mem h, by rw [h2]; simp⟩))
            have hall := hd (fun (h : ∀ i (h : i < kv.length), ((kv[i].no == 0) && fitsB p kv[i]) = true) => (show z = true by
              rw [hfit2.out, List.all_eq_true]; intro x hx; obtain ⟨i, hi, rfl⟩ := List.getElem_of_mem hx; exact h i hi))
            clear hfit2 hone hcp hrp hg hS ih hp1 h4 hcS hpm hlv
            go_enter Try.func86, Try.ntmps86
            go_wp2_with fail
            refine (hch.out _ (below_a3 _)).mono ?_
            rintro e2 w2 ⟨rfl, rfl⟩
            go_upto_region 10 with (fail)
            generalize (((w.alloc (.cells #[.slice (some ⟨b1, o1, none⟩) l.length c] 37)).alloc (.cells #[.int .i64 a] 3)).alloc (.cells #[.int .i64 vn, .string vx, .int .i64 vo, .int .i64 ux, .bool true] 113)).alloc (.cells #[.int .i64 ((a : Int) + 1)] 3) = W at *
            have k0 := keepCell hLz.out c0
            clear f0 f1 f2 f3 f4 hn0 hn0b hx0 hx0b
            go_wp2_with fail
            go_loopw [6] (fun u wr => u = .int .i64 0 ∧ ∃ (j ej : Nat), j ≤ kv.length ∧ (a < ej ∧ ej ≤ e) ∧ Hd (encL (trees l) (kv.drop j) a ej e) ∧ Hd (∀ i (h : i < kv.length), i < j → ((kv[i].no == 0) && fitsB p kv[i]) = true) ∧ Hd (Box1 wr (w.heap.size + 1 + 1 + 1) (.int .i64 ej)) ∧ Hd (W.grownBy wr (some (w.heap.size + 1 + 1 + 1)))) (fun _ wr => l.length + 1 - cellN wr ⟨w.heap.size + 1 + 1 + 1, 0, none⟩)
            case atStart => exact ⟨rfl, 0, a + 1, Nat.zero_le _, by omega, by rw [List.drop_zero]; exact hkids.out, fun i _ h => by omega, by have := hXE.out; rwa [show ((a : Int) + 1) = ((a + 1 : Nat) : Int) by omega] at this, grownBy_refl _ _⟩
            case round =>
              obtain ⟨rfl, j, ej, hj, ⟨haj, hje⟩, hLj, hok, hXj, hG⟩ := hrel
              obtain ⟨wo, rfl⟩ : ∃ wo : World, wo = wr := ⟨_, rfl⟩
              have hzG := hG.out.size
              have hbw := hd (show Below w.heap.size w wo from hLz.out.grown hG.out (by have := hzW.out; omega) (fun g hg => by cases hg; omega))
              have hCo := hd (hC0.out.mono hbw.out)
              have jL := hG.out.cell qL0.out (fun e => by have : w.heap.size = w.heap.size + 1 + 1 + 1 := Option.some.inj e; omega)
              have jA := hG.out.cell qA0.out (fun e => by have : w.heap.size + 1 = w.heap.size + 1 + 1 + 1 := Option.some.inj e; omega)
              have jE := hXj.out.1
              by_cases hlt : j < kv.length
              · have hLd := hLj.out
                rw [drop_cons hlt, encL] at hLd
                obtain ⟨e1, hu, h1, h2⟩ := hLd
                obtain ⟨hb1', hb2', _⟩ := enc_bd _ _ _ h1
                rw [trees_len] at hb2'
                have hel1 : ej < l.length := by omega
                have helI : (ej : Int) < (l.length : Int) := by omega
                obtain ⟨_, m0, m1, m2, m3, m4⟩ := encV_top h1
                have co := hd (own_c l b1 o1 c _ _ _ ej a wo hl hCo.out jE jL jA true (by simp [hu]))
                obtain ⟨y0, y1, y2, y3, y4⟩ := Cells.rowNode l ej hel1 hCo.out
                rw [m2] at y2
                have he1 : e1 ≤ e := (encL_bd' h2 (by omega) (by rw [trees_len]; exact hb2')).1
                have h2' := hd h2
                have hbj := hd (hbadj.out j hlt)
                have hokj := hd (fun (h : ((kv[j].no == 0) && fitsB p kv[j]) = true) => (show ∀ i (h : i < kv.length), i < j + 1 → ((kv[i].no == 0) && fitsB p kv[i]) = true from fun i hi hi2 => by
                  by_cases e9 : i = j
                  · subst e9; exact h
                  · exact hok.out i hi (by omega)))
                have cf := hd (fun w' (hb : Below wo.heap.size wo w') => ihp.out kv[j] ej e1 vp w' lo hi (by have := hb.size; have := hbw.out.size; omega) hrp1.out (by omega) h1 (hStk.out.part h1 h2 haj) (hCo.out.mono hb) (hgp.out.below hh (hbw.out.next hb)))
                clear hu h1 h2 y0 y1 y3 y4 m0 m1 m2 m3 m4
                generalize kv[j].no = nj at *
                generalize fitsB p kv[j] = fj at *
                go_wp2_with fail
                refine co.out.mono ?_
                rintro e3 w3 ⟨rfl, hb3⟩
                have jL3 := keepCell hb3 jL
                have jE3 := keepCell hb3 jE
                have y23 := keepCell hb3 y2
                have hXj3 := hd (hXj.out.below hb3)
                have rE3 := hXj3.out.2
                have hb3 := hd hb3
                have k5 := keepCell (hbw.out.next hb3.out) c5
                have kc := keepCell (hbw.out.next hb3.out) hc0
                have kkc := keepCell (hbw.out.next hb3.out) c0
                clear jL jE y2 jA
                cases hnj : (nj == 0) with
                | false =>
                  have hzf := hd (hbj.out (by rw [hnj]; rfl))
                  have hnjb : (nj != 0) = true := by rw [bne, hnj]; rfl
                  go_wp2_with fail
                  go_ret
                  exact ⟨by rw [hzf.out]; rfl, hbw.out.next hb3.out⟩
                | true =>
                  have hnjb : (nj != 0) = false := by rw [bne, hnj]; rfl
                  rw [hnj] at hbj hokj
                  have hbd3 := hd (show Below wo.heap.size wo w3.drew from hb3.out.drew)
                  go_wp2_with fail
                  go_still_tail 8, (by kernel_rfl)
                  change wpList _ _ _ _ _ w3.drew
                  have hXd := hd (show Box1 w3.drew (w.heap.size + 1 + 1 + 1) (.int .i64 ej) from hXj3.out)
                  clear jL3 jE3 y23 k5 kc kkc rE3
                  generalize w3.drew = w4 at *
                  go_wp2_with fail
                  refine (cf.out _ hbd3.out).mono ?_
                  rintro e5 w5 ⟨rfl, hb5⟩
                  have hX5 := hd (hXd.out.below hb5)
                  have x5 := hX5.out.1; have r5 := hX5.out.2
                  have hbo5 := hd (hbd3.out.next hb5)
                  clear hb5
                  cases fj with
                  | false =>
                    have hzf := hd (hbj.out rfl)
                    rw [show fitR false e1 = -1 from rfl]
                    go_wp2_with fail
                    go_ret
                    exact ⟨by rw [hzf.out]; rfl, (hbw.out.next hbo5.out).setCell (by simp; omega) _⟩
                  | true =>
                    rw [show fitR true e1 = (e1 : Int) from rfl]
                    have hX6 := hd (show Box1 (w5.setCell ⟨w.heap.size + 1 + 1 + 1, 0, none⟩ (.int .i64 (e1 : Int))) (w.heap.size + 1 + 1 + 1) (.int .i64 (e1 : Int)) from ⟨World.cell?_setCell_same _ _ _ x5, by rw [World.frozen?_setCell]; exact r5⟩)
                    have hG6 := hd (grownBy_trans (grownBy_trans hG.out (below_grownBy hbo5.out (some (w.heap.size + 1 + 1 + 1))) (.inl rfl)) (grownBy_setCell w5 ⟨w.heap.size + 1 + 1 + 1, 0, none⟩ (.int .i64 (e1 : Int))) (.inl rfl))
                    have hokn := hd (hokj.out rfl)
                    have hge : ¬ (e1 : Int) < 0 := by omega
                    have mE := hd (cellN_of hXj.out.1)
                    have mE6 := hd (cellN_of hX6.out.1)
                    go_wp2_with fail
                    go_roundw
                    case rel => exact ⟨rfl, j + 1, e1, by omega, ⟨by omega, he1⟩, h2', hokn, hX6, hG6⟩
                    case measure => rw [mE.out, mE6.out]; omega
              · obtain rfl : j = kv.length := by omega
                have hej : e = ej := by have := hLj.out; rw [List.drop_length, encL] at this; exact this
                subst hej
                have hun := hd (hhold.out (by first | rfl | trivial))
                have co := hd (own_c l b1 o1 c _ _ _ e a wo hl hCo.out jE jL jA false (by simp; exact hun.out))
                have hzt := hd (hall.out (fun i hi => hok.out i hi hi))
                go_wp2_with fail
                refine co.out.mono ?_
                rintro e3 w3 ⟨rfl, hb3⟩
                have jE3 := keepCell hb3 jE
                have hb3 := hd hb3
                go_wp2_with fail
                go_ret
                exact ⟨by rw [hzt.out]; rfl, hbw.out.next hb3.out⟩
          · have h4b : (t.of == 4) = false := by simpa using h4
            rw [if_neg h4] at hfit2
            have h5 : t.of = 5 := by rw [holds_iff] at hho; omega
            rw [h5] at c0
            clear hone h4 h4b h5
            generalize hps : t.parts = ps at *
            replace hps := hd hps
            go_enter Try.func86, Try.ntmps86
            go_wp2_with fail
            refine (hch.out _ (below_a3 _)).mono ?_
            rintro e2 w2 ⟨rfl, rfl⟩
            go_upto_region 10 with (fail)
            generalize (((w.alloc (.cells #[.slice (some ⟨b1, o1, none⟩) l.length c] 37)).alloc (.cells #[.int .i64 a] 3)).alloc (.cells #[.int .i64 vn, .string vx, .int .i64 vo, .int .i64 ux, .bool true] 113)).alloc (.cells #[.int .i64 ((a : Int) + 1)] 3) = W at *
            have k0 := keepCell hLz.out c0
            have k5 := keepCell hLz.out c5
            clear f0 f1 f2 f3 f4 hn0 hn0b hx0 hx0b
            go_wp2_with fail
            clear k0 k5
            go_loopw [6, 71] (fun u ix wr => u = .int .i64 0 ∧ ∃ (i j ej : Nat), i ≤ ps.length ∧ ix = .int .i64 i ∧ j ≤ kv.length ∧ (a < ej ∧ ej ≤ e) ∧ Hd (encL (trees l) (kv.drop j) a ej e) ∧ Hd (z = mergeB (ps.drop i) (kv.drop j)) ∧ Hd (Box1 wr (w.heap.size + 1 + 1 + 1) (.int .i64 ej)) ∧ Hd (W.grownBy wr (some (w.heap.size + 1 + 1 + 1)))) (fun _ ix _ => ps.length - (intOf ix).toNat)
            case atStart => exact ⟨rfl, 0, 0, a + 1, Nat.zero_le _, rfl, Nat.zero_le _, by omega, by rw [List.drop_zero]; exact hkids.out, by rw [List.drop_zero, List.drop_zero]; exact hfit2.out, by have := hXE.out; rwa [show ((a : Int) + 1) = ((a + 1 : Nat) : Int) by omega] at this, grownBy_refl _ _⟩
            case round =>
              obtain ⟨rfl, i, j, ej, hile, rfl, hj, ⟨haj, hje⟩, hLj, hmg, hXj, hG⟩ := hrel
              obtain ⟨wo, rfl⟩ : ∃ wo : World, wo = wr := ⟨_, rfl⟩
              have hzG := hG.out.size
              have hbw := hd (show Below w.heap.size w wo from hLz.out.grown hG.out (by have := hzW.out; omega) (fun g hg => by cases hg; omega))
              have hCo := hd (hC0.out.mono hbw.out)
              have jL := hG.out.cell qL0.out (fun e => by have : w.heap.size = w.heap.size + 1 + 1 + 1 := Option.some.inj e; omega)
              have jA := hG.out.cell qA0.out (fun e => by have : w.heap.size + 1 = w.heap.size + 1 + 1 + 1 := Option.some.inj e; omega)
              have jE := hXj.out.1
              have co := hd (fun r hr => own_c l b1 o1 c _ _ _ ej a wo hl hCo.out jE jL jA r hr)
              have cq := hd (fun r hr k => own_q l b1 o1 c _ _ _ ej a wo hl hCo.out jE jL jA r hr k)
              by_cases hip : i < ps.length
              · have hipI : (i : Int) < (ps.length : Int) := by omega
                obtain ⟨bS, oS, rfl, hbS, hcS⟩ := hS.out.at (j := i) (by omega)
                have hci := hcS i (by omega)
                have hgi := hg.out i hip (by omega)
                have hcp1 := hcp.out ps[i] (List.getElem_mem hip)
                have hrp1 := hd (hrp.out ps[i] (List.getElem_mem hip))
                have ihp := hd (ih.out ps[i] (List.getElem_mem hip))
                have hmg2 := hmg.out
                rw [drop_cons hip] at hmg2
                replace hmg2 := hd hmg2
                obtain ⟨bp, ap, cp, vp, hvp, hbp, p0, p1, p2, p3, p4, p5, _, _, _⟩ := hgi.open
                rw [hvp] at hci hgi
                have hgi := hd hgi
                have kci := keepCell hbw.out hci
                have kp2 := keepCell hbw.out p2
                have kp3 := keepCell hbw.out p3
                clear hcS hvp p0 p1 p2 p3 p4 p5 hci
                by_cases hlt : j < kv.length
                · have hLd := hLj.out
                  rw [drop_cons hlt, encL] at hLd
                  obtain ⟨e1, hu, h1, h2⟩ := hLd
                  obtain ⟨hb1', hb2', _⟩ := enc_bd _ _ _ h1
                  rw [trees_len] at hb2'
                  have hel1 : ej < l.length := by omega
                  have helI : (ej : Int) < (l.length : Int) := by omega
                  obtain ⟨_, m0, m1, m2, m3, m4⟩ := encV_top h1
                  have cq := hd (cq.out true (by simp [hu]))
                  obtain ⟨y0, y1, y2, y3, y4⟩ := Cells.rowNode l ej hel1 hCo.out
                  rw [m2] at y2
                  have he1 : e1 ≤ e := (encL_bd' h2 (by omega) (by rw [trees_len]; exact hb2')).1
                  have h2' := hd h2
                  have cf := hd (fun w' (hb : Below wo.heap.size wo w') => ihp.out kv[j] ej e1 _ w' lo hi (by have := hb.size; have := hbw.out.size; omega) hrp1.out (by omega) h1 (hStk.out.part h1 h2 haj) (hCo.out.mono hb) (hgi.out.below hh (hbw.out.next hb)))
                  have hmg3 := hmg2.out
                  rw [drop_cons hlt] at hmg3
                  have hme := hd (fun (h : kv[j].no = ps[i].no) => (show z = (fitsB ps[i] kv[j] && mergeB (ps.drop (i + 1)) (kv.drop (j + 1))) by rw [hmg3, merge_eq h]))
                  have hmn := hd (fun (h : kv[j].no ≠ ps[i].no) => (show z = (!ps[i].must && mergeB (ps.drop (i + 1)) (kv.drop j)) by rw [hmg3, merge_ne h, drop_cons hlt]))
                  clear hu h1 h2 y0 y1 y3 y4 m0 m1 m2 m3 m4 hmg3
                  generalize kv[j].no = nj at *
                  generalize fitsB ps[i] kv[j] = fj at *
                  generalize ps[i].no = pn at *
                  generalize ps[i].must = pm at *
                  by_cases hnn : nj = pn
                  · have hme := hd (hme.out hnn)
                    have hnb : (nj == pn) = true := by simpa using hnn
                    rw [hnn] at y2
                    clear hmn hnn
                    go_wp2_with fail
                    go_quiet ((go_at_call 125; exact Calls.quiet_of (cq.out _)))
                    go_wp2_with fail
                    refine (cf.out _ (below_drewN (Below.refl _ wo) _)).mono ?_
                    rintro e5 w5 ⟨rfl, hb5⟩
                    have hX5 := hd (hXj.out.below ((below_drewN (Below.refl _ wo) _).next hb5))
                    have x5 := hX5.out.1; have r5 := hX5.out.2
                    have hbo5 := hd ((below_drewN (Below.refl _ wo) _).next hb5)
                    clear hb5
                    cases fj with
                    | false =>
                      have hzf := hd (show z = false by rw [hme.out]; rfl)
                      rw [show fitR false e1 = -1 from rfl]
                      go_wp2_with fail
                      go_ret
                      exact ⟨by rw [hzf.out]; rfl, (hbw.out.next hbo5.out).setCell (by simp; omega) _⟩
                    | true =>
                      rw [show fitR true e1 = (e1 : Int) from rfl]
                      have hX6 := hd (show Box1 (w5.setCell ⟨w.heap.size + 1 + 1 + 1, 0, none⟩ (.int .i64 (e1 : Int))) (w.heap.size + 1 + 1 + 1) (.int .i64 (e1 : Int)) from ⟨World.cell?_setCell_same _ _ _ x5, by rw [World.frozen?_setCell]; exact r5⟩)
                      have hG6 := hd (grownBy_trans (grownBy_trans hG.out (below_grownBy hbo5.out (some (w.heap.size + 1 + 1 + 1))) (.inl rfl)) (grownBy_setCell w5 ⟨w.heap.size + 1 + 1 + 1, 0, none⟩ (.int .i64 (e1 : Int))) (.inl rfl))
                      have hmn := hd (show z = mergeB (ps.drop (i + 1)) (kv.drop (j + 1)) by rw [hme.out]; simp)
                      have hge : ¬ (e1 : Int) < 0 := by omega
                      go_wp2_with fail
                      go_roundw
                      case rel => exact ⟨rfl, i + 1, j + 1, e1, by omega, by go_num, by omega, ⟨by omega, he1⟩, h2', hmn, hX6, hG6⟩
                      case measure => simp [intOf]; omega
                  · have hmn := hd (hmn.out hnn)
                    have hnb : (nj == pn) = false := by simpa using hnn
                    clear hme hnn
                    cases pm with
                    | true =>
                      have hzf := hd (show z = false by rw [hmn.out]; rfl)
                      go_wp2_with fail
                      go_quiet ((go_at_call 125; exact Calls.quiet_of (cq.out _)))
                      go_wp2_with fail
                      go_ret
                      exact ⟨by rw [hzf.out]; rfl, below_drewN hbw.out _⟩
                    | false =>
                      have hmn2 := hd (show z = mergeB (ps.drop (i + 1)) (kv.drop j) by rw [hmn.out]; simp)
                      have hXd := hd (fun k => hXj.out.below (below_drewN (Below.refl _ wo) k))
                      have hGd := hd (fun k => grownBy_trans hG.out (below_grownBy (below_drewN (Below.refl _ wo) k) (some (w.heap.size + 1 + 1 + 1))) (.inl rfl))
                      go_wp2_with fail
                      go_quiet ((go_at_call 125; exact Calls.quiet_of (cq.out _)))
                      go_wp2_with fail
                      go_roundw
                      case rel => exact ⟨rfl, i + 1, j, ej, by omega, by go_num, by omega, ⟨by omega, by omega⟩, hLj, hmn2, hXd.out _, hGd.out _⟩
                      case measure => simp [intOf]; omega
                · obtain rfl : j = kv.length := by omega
                  have hej : e = ej := by have := hLj.out; rw [List.drop_length, encL] at this; exact this
                  subst hej
                  have hun := hd (hhold.out (by first | rfl | trivial))
                  have cq := hd (cq.out false (by simp; exact hun.out))
                  have hmg3 := hmg2.out
                  rw [List.drop_length, merge_none] at hmg3
                  have hmn := hd hmg3
                  clear hmg3
                  generalize ps[i].no = pn at *
                  generalize ps[i].must = pm at *
                  cases pm with
                  | true =>
                    have hzf := hd (show z = false by rw [hmn.out]; rfl)
                    go_wp2_with fail
                    go_quiet ((go_at_call 125; exact Calls.quiet_of (cq.out _)))
                    go_wp2_with fail
                    go_ret
                    exact ⟨by rw [hzf.out]; rfl, below_drewN hbw.out _⟩
                  | false =>
                    have hmn2 := hd (show z = mergeB (ps.drop (i + 1)) (kv.drop kv.length) by rw [hmn.out, List.drop_length]; simp)
                    have hXd := hd (fun k => hXj.out.below (below_drewN (Below.refl _ wo) k))
                    have hGd := hd (fun k => grownBy_trans hG.out (below_grownBy (below_drewN (Below.refl _ wo) k) (some (w.heap.size + 1 + 1 + 1))) (.inl rfl))
                    go_wp2_with fail
                    go_quiet ((go_at_call 125; exact Calls.quiet_of (cq.out _)))
                    go_wp2_with fail
                    go_roundw
                    case rel => exact ⟨rfl, i + 1, kv.length, e, by omega, by go_num, by omega, ⟨by omega, by omega⟩, hLj, hmn2, hXd.out _, hGd.out _⟩
                    case measure => simp [intOf]; omega
              · obtain rfl : i = ps.length := by omega
                have hipI : ¬ (ps.length : Int) < (ps.length : Int) := by omega
                have hmg2 := hmg.out
                rw [List.drop_length, merge_nil] at hmg2
                replace hmg2 := hd hmg2
                by_cases hlt : j < kv.length
                · have hLd := hLj.out
                  rw [drop_cons hlt, encL] at hLd
                  obtain ⟨e1, hu, h1, h2⟩ := hLd
                  have co := hd (co.out true (by simp [hu]))
                  have hzf := hd (show z = false by rw [hmg2.out, drop_cons hlt]; rfl)
                  clear hu h1 h2
                  go_wp2_with fail
                  refine co.out.mono ?_
                  rintro e3 w3 ⟨rfl, hb3⟩
                  have hb3 := hd hb3
                  go_wp2_with fail
                  go_ret
                  exact ⟨by rw [hzf.out]; rfl, hbw.out.next hb3.out⟩
                · obtain rfl : j = kv.length := by omega
                  have hej : e = ej := by have := hLj.out; rw [List.drop_length, encL] at this; exact this
                  subst hej
                  have hun := hd (hhold.out (by first | rfl | trivial))
                  have co := hd (co.out false (by simp; exact hun.out))
                  have hzt := hd (show z = true by rw [hmg2.out, List.drop_length]; rfl)
                  go_wp2_with fail
                  refine co.out.mono ?_
                  rintro e3 w3 ⟨rfl, hb3⟩
                  have jE3 := keepCell hb3 jE
                  have hb3 := hd hb3
                  go_wp2_with fail
                  go_ret
                  exact ⟨by rw [hzt.out]; rfl, hbw.out.next hb3.out⟩
end Go.Proofs.Ytobahkjbadamhaa

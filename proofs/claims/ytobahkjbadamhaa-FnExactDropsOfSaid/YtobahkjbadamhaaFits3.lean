/- Where what begins at a node ends, if it fits a type: leafOK, fit of the program (with Fit2, Fit3). -/
import Derived.Test.YtobahkjbadamhaaFitMM
import Derived.Test.YtobahkjbadamhaaSchemas
import Derived.BigQuiet
import Derived.StillTailTactics
import Derived.Deep.RegionHeld3
/- Where what begins at a node ends, if it fits a type: leafOK, fit of the program. -/
namespace Go.Proofs.Ytobahkjbadamhaa
open Go.RowKit
set_option linter.unusedVariables false
set_option maxRecDepth 100000
set_option maxHeartbeats 1600000 in
theorem leafOK_i (t : K) (v : K) (up : Int) (vt : Value) (w : World) (lo hi : Nat) (hR : RepP w lo hi t vt) (hsz : v.name.size ≤ 1000000000000) (hn : holdsB t.of = false) :
    Calls Try.prog 124 #[vt, .agg #[.int .i64 v.most, .string v.name, .int .i64 v.no, .int .i64 up, .bool v.must]] w (BoolPost (leafB t.of t.most v) w) := by
  obtain ⟨b, a, c, vs, rfl, hb, c0, c1, c2, c3, c4, c5, hS, hl, hg⟩ := hR.open
  have hz := hd (show leafB t.of t.most v = (!v.must && (if t.of = 2 then (v.most == 0) && decide (v.name.size ≤ 30) else if t.of = 3 then decide (0 ≤ v.most ∧ v.most ≤ t.most) && v.name.toList.isEmpty else numB v.most && v.name.toList.isEmpty)) from rfl)
  clear c1 c2 c3 c5 hS hl hg hR hn
  have k0 := fun o => keepCell (below_a1 w (a := o)) c0
  have k4 := fun o => keepCell (below_a1 w (a := o)) c4
  generalize leafB t.of t.most v = z at *
  generalize t.of = o at *
  generalize t.most = tm at *
  generalize v.most = n at *
  generalize v.name = s at *
  generalize v.no = vn at *
  generalize v.must = m at *
  cases m with
  | true =>
    go_enter Try.func124, Try.ntmps124
    go_wp2_with fail
    go_ret
    exact ⟨by rw [hz.out]; rfl, below_a1 _⟩
  | false =>
    by_cases h2 : o = 2
    · subst h2
      cases hn0 : (n == 0) with
      | false =>
        go_enter Try.func124, Try.ntmps124
        go_wp2_with fail
        go_ret
        exact ⟨by rw [hz.out, hn0]; rfl, below_a1 _⟩
      | true =>
        by_cases hs : (s.size : Int) ≤ 30
        · go_enter Try.func124, Try.ntmps124
          go_wp2_with fail
          go_ret
          exact ⟨by rw [hz.out, hn0]; simp; omega, below_a1 _⟩
        · have hsB : decide ((s.size : Int) ≤ 30) = false := by simpa using hs
          go_enter Try.func124, Try.ntmps124
          go_wp2_with fail
          go_ret
          exact ⟨by rw [hz.out, hn0]; simp; omega, below_a1 _⟩
    · have h2b : (o == 2) = false := by simpa using h2
      by_cases h3 : o = 3
      · subst h3
        have hz2 := hd (show z = (decide (0 ≤ n ∧ n ≤ tm) && s.toList.isEmpty) by rw [hz.out]; rfl)
        have cw := hd (fun w => within_i n 0 tm w (decide (0 ≤ n ∧ n ≤ tm)) rfl)
        clear hz
        cases hw : decide (0 ≤ n ∧ n ≤ tm) with
        | false =>
          rw [hw] at cw
          replace hw := hd hw
          go_enter Try.func124, Try.ntmps124
          go_wp2_with fail
          go_quiet ((go_at_call 55; exact Calls.quiet_of_same ((cw.out _).mono fun e w' h => ⟨h.1, h.2.symm⟩)))
          go_wp2_with fail
          go_ret
          exact ⟨by rw [hz2.out, hw.out]; rfl, below_drewN (below_a1 _) _⟩
        | true =>
          rw [hw] at cw
          replace hw := hd hw
          go_enter Try.func124, Try.ntmps124
          go_wp2_with fail
          go_quiet ((go_at_call 55; exact Calls.quiet_of_same ((cw.out _).mono fun e w' h => ⟨h.1, h.2.symm⟩)))
          go_wp2_with fail
          go_ret
          exact ⟨by rw [hz2.out, hw.out]; rfl, below_drewN (below_a1 _) _⟩
      · have h3b : (o == 3) = false := by simpa using h3
        have hz2 := hd (show z = (numB n && s.toList.isEmpty) by rw [hz.out, if_neg h2, if_neg h3]; rfl)
        have cn := hd (fun w => numberOK_i n w)
        clear hz
        cases hw : numB n with
        | false =>
          rw [hw] at cn hz2
          go_enter Try.func124, Try.ntmps124
          go_wp2_with fail
          refine (cn.out _).mono ?_
          rintro e w' ⟨rfl, rfl⟩
          go_wp2_with fail
          go_ret
          exact ⟨by rw [hz2.out]; rfl, below_a1 _⟩
        | true =>
          rw [hw] at cn hz2
          go_enter Try.func124, Try.ntmps124
          go_wp2_with fail
          refine (cn.out _).mono ?_
          rintro e w' ⟨rfl, rfl⟩
          go_wp2_with fail
          go_ret
          exact ⟨by rw [hz2.out]; rfl, below_a1 _⟩
set_option maxHeartbeats 1600000 in
theorem own_q0 (l : List DNode) (b1 o1 c bE bL bA n a : Nat) (w : World) (hl : l.length ≤ 1000000) (hC : Cells w b1 o1 5 (l.map DNode.enc)) (cE : w.cell? ⟨bE, 0, none⟩ = some (.int .i64 n)) (cL : w.cell? ⟨bL, 0, none⟩ = some (.slice (some ⟨b1, o1, none⟩) l.length c)) (cA : w.cell? ⟨bA, 0, none⟩ = some (.int .i64 a)) (r : Bool) (hr : r = true ↔ U (trees l) n = (a : Int)) :
    Calls Try.prog 125 #[.pointer (some ⟨bE, 0, none⟩), .pointer (some ⟨bL, 0, none⟩), .pointer (some ⟨bA, 0, none⟩)] w (fun e w' => e = .returned (.bool r) ∧ ∃ m, w' = w.drewN m) := by
  by_cases hlt : n < l.length
  · have hltI : (n : Int) < (l.length : Int) := by omega
    have hltB : decide (n < l.length) = true := by simpa using hlt
    obtain ⟨f0, f1, f2, f3, f4⟩ := Cells.rowNode l n hlt hC
    have hz := hd (show r = (l[n].up == (a : Int)) by rw [Bool.eq_iff_iff, hr, UN_at hlt]; simp)
    clear hr hC f0 f1 f2 f4
    generalize l[n].up = u at *
    go_enter Try.func125, Try.ntmps125
    go_wp2_with fail
    go_quiet (fail)
    go_wp2_with fail
    go_ret
    exact ⟨by rw [hz.out]; rfl, ⟨_, rfl⟩⟩
  · have hltB : decide (n < l.length) = false := by simpa using hlt
    have hltI : decide ((n : Int) < (l.length : Int)) = false := by simp; omega
    have hz := hd (show r = false from nb hr (fun e => by rw [UN_no (by omega)] at e; omega))
    clear hr hC hlt
    go_enter Try.func125, Try.ntmps125
    go_wp2_with fail
    go_quiet (fail)
    go_wp2_with fail
    go_ret
    exact ⟨by rw [hz.out]; rfl, ⟨_, rfl⟩⟩
theorem own_q (l : List DNode) (b1 o1 c bE bL bA n a : Nat) (w : World) (hl : l.length ≤ 1000000) (hC : Cells w b1 o1 5 (l.map DNode.enc)) (cE : w.cell? ⟨bE, 0, none⟩ = some (.int .i64 n)) (cL : w.cell? ⟨bL, 0, none⟩ = some (.slice (some ⟨b1, o1, none⟩) l.length c)) (cA : w.cell? ⟨bA, 0, none⟩ = some (.int .i64 a)) (r : Bool) (hr : r = true ↔ U (trees l) n = (a : Int)) (k : Nat) :
    Calls Try.prog 125 #[.pointer (some ⟨bE, 0, none⟩), .pointer (some ⟨bL, 0, none⟩), .pointer (some ⟨bA, 0, none⟩)] (w.drewN k) (fun e w' => e = .returned (.bool r) ∧ ∃ m, w' = (w.drewN k).drewN m) :=
  have hb := below_drewN (Below.refl _ w) k
  own_q0 l b1 o1 c bE bL bA n a (w.drewN k) hl (hC.mono hb) (keepCell hb cE) (keepCell hb cL) (keepCell hb cA) r hr
theorem own_c (l : List DNode) (b1 o1 c bE bL bA n a : Nat) (w : World) (hl : l.length ≤ 1000000) (hC : Cells w b1 o1 5 (l.map DNode.enc)) (cE : w.cell? ⟨bE, 0, none⟩ = some (.int .i64 n)) (cL : w.cell? ⟨bL, 0, none⟩ = some (.slice (some ⟨b1, o1, none⟩) l.length c)) (cA : w.cell? ⟨bA, 0, none⟩ = some (.int .i64 a)) (r : Bool) (hr : r = true ↔ U (trees l) n = (a : Int)) :
    Calls Try.prog 125 #[.pointer (some ⟨bE, 0, none⟩), .pointer (some ⟨bL, 0, none⟩), .pointer (some ⟨bA, 0, none⟩)] w (BoolPost r w) :=
  (own_q0 l b1 o1 c bE bL bA n a w hl hC cE cL cA r hr).mono fun e w' ⟨h1, m, h2⟩ => ⟨h1, by rw [h2]; exact below_drewN (Below.refl _ w) m⟩
end Go.Proofs.Ytobahkjbadamhaa
/- Where what begins at a node ends, if it fits a type: fit of the program. -/
namespace Go.Proofs.Ytobahkjbadamhaa
open Go.RowKit
set_option linter.unusedVariables false
set_option maxRecDepth 100000
def cellN (w : World) (a : Addr) : Nat := match w.cell? a with | some (.int _ n) => n.toNat | _ => 0
theorem cellN_of {w : World} {a : Addr} {k : IntKind} {n : Nat} (h : w.cell? a = some (.int k (n : Int))) : cellN w a = n := by rw [cellN, h]; simp
/-- What a type's test comes to: the place behind, or -1. -/
def fitR (b : Bool) (e : Nat) : Int := if b then (e : Int) else -1
set_option maxHeartbeats 8000000 in
theorem fit_i (l : List DNode) (b1 o1 c : Nat) (hl : l.length ≤ 1000000) (hnm : ∀ x ∈ l, x.text.size ≤ 1000000000000) (t : K) : ∀ (v : K) (a e : Nat) (vt : Value) (w : World) (lo hi : Nat), hi ≤ w.heap.size → rightK t → countK t ≤ 1000000 → enc (trees l) v a e → Stuck (trees l) a e → Cells w b1 o1 5 (l.map DNode.enc) → RepP w lo hi t vt →
    Calls Try.prog 86 #[vt, .slice (some ⟨b1, o1, none⟩) l.length c, .int .i64 a] w (IntPost (fitR (fitsB t v) e) w) := by
  refine K.ind2 (P := fun t => ∀ (v : K) (a e : Nat) (vt : Value) (w : World) (lo hi : Nat), hi ≤ w.heap.size → rightK t → countK t ≤ 1000000 → enc (trees l) v a e → Stuck (trees l) a e → Cells w b1 o1 5 (l.map DNode.enc) → RepP w lo hi t vt →
    Calls Try.prog 86 #[vt, .slice (some ⟨b1, o1, none⟩) l.length c, .int .i64 a] w (IntPost (fitR (fitsB t v) e) w)) ?_ t
  intro t ih v a e vt w lo hi hh hr hct hE hSt hC hR
  have ih := hd ih
  have hnm := hd hnm
  obtain ⟨hal, g0, g1, g2, g3, g4⟩ := encV_top hE
  have halI : (a : Int) < (l.length : Int) := by omega
  have hbd := enc_bd v _ _ hE
  have hel : e ≤ l.length := by have := hbd.2.1; rw [trees_len] at this; exact this
  have hae : a < e := hbd.1
  have hkids := hd (encV_kids hE)
  have hhold := hd (fun (h : v.must = true) => hSt a (Nat.le_refl _) (enc_sp v _ _ hE).1 (encV_holds hE h))
  have hStk := hd hSt
  have hC0 := hd hC
  have hb1 := hC.1
  have hR0 := hd hR
  have hch := hd (fun w' (hb : Below w.heap.size w w') => holds_i t vt w' lo hi (hR.below hh hb))
  have hlf := hd (fun w' (hb : Below w.heap.size w w') up (hn : holdsB t.of = false) => leafOK_i t v up vt w' lo hi (hR.below hh hb) (by rw [← g1]; exact hnm.out _ (List.getElem_mem hal)) hn)
  obtain ⟨f0, f1, f2, f3, f4⟩ := Cells.rowNode l a hal hC
  rw [g0] at f0
  rw [g1] at f1
  rw [g2] at f2
  rw [g3] at f4
  have hpl := len_count t.parts
  rw [countK_eq] at hct
  have hcp := hd (fun p (hp : p ∈ t.parts) => count_part hp)
  have hrp := hd (fun p (hp : p ∈ t.parts) => right_part hr hp)
  have hone := hd (fun (h4 : t.of = 4) => right_one hr h4)
  have hfit := hd (fitsB_eq t v)
  have hw1 : IntKind.i64.wrap ((a : Int) + 1) = (a : Int) + 1 := IntWalk.i64_in _ (by omega)
  have hp4 := hd g4
  have hend := hd (show leafB t.of t.most v = true → e = a + 1 from fun h => by
    have hv : v.must = false := by
      cases hv : v.must with
      | false => rfl
      | true => rw [leafB, hv] at h; simp at h
    have hps : v.parts = [] := hp4.out.resolve_left (by rw [hv]; simp)
    have := hkids.out
    rw [hps, encL] at this
    exact this)
  clear g0 g1 g2 g3 g4 hE hSt hbd hr
  obtain ⟨bk, ak, ck, vs, rfl, hbk, c0, c1, c2, c3, c4, c5, hS, hlv, hg⟩ := hR.open
  have hg := hd hg
  have hS := hd hS
  clear hR c1 c2 c3 c4
  generalize l[a].up = ux at *
  generalize hzl : leafB t.of t.most v = zl at *
  generalize hz : fitsB t v = z at *
  replace hzl := hd hzl
  replace hz := hd hz
  generalize v.most = vn at *
  generalize v.name = vx at *
  generalize v.no = vo at *
  generalize v.must = vm at *
  generalize v.parts = kv at *
  cases hho : holdsB t.of with
  | false =>
    have hlf2 := hd (fun w' hb up => hlf.out w' hb up hho)
    rw [hho] at hch hfit
    have hzz := hd (show z = zl from hfit.out)
    clear hfit hlf hho hhold hStk hkids hone
    cases zl with
    | true =>
      obtain rfl := hend.out rfl
      go_enter Try.func86, Try.ntmps86
      go_wp2_with fail
      refine (hch.out _ (below_a3 _)).mono ?_
      rintro e2 w2 ⟨rfl, rfl⟩
      go_wp2_with fail
      refine (hlf2.out _ (below_a3 _) _).mono ?_
      rintro e2 w2 ⟨rfl, hb2⟩
      have qA := keepCell hb2 (show World.cell? _ ⟨w.heap.size + 1, 0, none⟩ = some (.int .i64 a) by go_simp)
      have hB := hd ((below_a3 w).next hb2)
      clear hb2
      go_wp2_with fail
      go_ret
      exact ⟨by rw [hzz.out]; rfl, hB.out⟩
    | false =>
      go_enter Try.func86, Try.ntmps86
      go_wp2_with fail
      refine (hch.out _ (below_a3 _)).mono ?_
      rintro e2 w2 ⟨rfl, rfl⟩
      go_wp2_with fail
      refine (hlf2.out _ (below_a3 _) _).mono ?_
      rintro e2 w2 ⟨rfl, hb2⟩
      have hB := hd ((below_a3 w).next hb2)
      clear hb2
      go_wp2_with fail
      go_ret
      exact ⟨by rw [hzz.out]; rfl, hB.out⟩
  | true =>
    rw [hho] at hch hfit
    rw [if_pos rfl] at hfit
    have hbad := hd (fun (h : (vm && (vn == 0) && vx.toList.isEmpty) = false) => (show z = false by rw [hfit.out, h]; rfl))
    clear hlf hend hzl
    cases vm with
    | false =>
      have hzf := hd (hbad.out rfl)
      go_enter Try.func86, Try.ntmps86
      go_wp2_with fail
      refine (hch.out _ (below_a3 _)).mono ?_
      rintro e2 w2 ⟨rfl, rfl⟩
      go_wp2_with fail
      go_ret
      exact ⟨by rw [hzf.out]; rfl, below_a3 _⟩
    | true =>
      cases hn0 : (vn == 0) with
      | false =>
        have hzf := hd (hbad.out (by rw [hn0]; rfl))
        have hn0b : (vn != 0) = true := by rw [bne, hn0]; rfl
        go_enter Try.func86, Try.ntmps86
        go_wp2_with fail
        refine (hch.out _ (below_a3 _)).mono ?_
        rintro e2 w2 ⟨rfl, rfl⟩
        go_wp2_with fail
        go_ret
        exact ⟨by rw [hzf.out]; rfl, below_a3 _⟩
      | true =>
        have hn0b : (vn != 0) = false := by rw [bne, hn0]; rfl
        cases hx0 : vx.toList.isEmpty with
        | false =>
          have hzf := hd (hbad.out (by rw [hn0, hx0]; rfl))
          have hx0b : (!vx.toList.isEmpty) = true := by rw [hx0]; rfl
          go_enter Try.func86, Try.ntmps86
          go_wp2_with fail
          refine (hch.out _ (below_a3 _)).mono ?_
          rintro e2 w2 ⟨rfl, rfl⟩
          go_wp2_with fail
          go_ret
          exact ⟨by rw [hzf.out]; rfl, below_a3 _⟩
        | true =>
          have hx0b : (!vx.toList.isEmpty) = false := by rw [hx0]; rfl
          have hfit2 := hd (show z = if t.of = 4 then fitsH t.parts kv else mergeB t.parts kv by rw [hfit.out, hn0, hx0]; simp)
          clear hfit hbad
          have hLz := hd (below_a4 w (a := .cells #[.slice (some ⟨b1, o1, none⟩) l.length c] 37) (b := .cells #[.int .i64 a] 3) (c := .cells #[.int .i64 vn, .string vx, .int .i64 vo, .int .i64 ux, .bool true] 113) (d := .cells #[.int .i64 ((a : Int) + 1)] 3))
          have hXE := hd (show Box1 ((((w.alloc (.cells #[.slice (some ⟨b1, o1, none⟩) l.length c] 37)).alloc (.cells #[.int .i64 a] 3)).alloc (.cells #[.int .i64 vn, .string vx, .int .i64 vo, .int .i64 ux, .bool true] 113)).alloc (.cells #[.int .i64 ((a : Int) + 1)] 3)) (w.heap.size + 1 + 1 + 1) (.int .i64 ((a : Int) + 1)) from ⟨by go_simp, by go_simp⟩)
          have qL0 := hd (show ((((w.alloc (.cells #[.slice (some ⟨b1, o1, none⟩) l.length c] 37)).alloc (.cells #[.int .i64 a] 3)).alloc (.cells #[.int .i64 vn, .string vx, .int .i64 vo, .int .i64 ux, .bool true] 113)).alloc (.cells #[.int .i64 ((a : Int) + 1)] 3)).cell? ⟨w.heap.size, 0, none⟩ = some (.slice (some ⟨b1, o1, none⟩) l.length c) by go_simp)
          have qA0 := hd (show ((((w.alloc (.cells #[.slice (some ⟨b1, o1, none⟩) l.length c] 37)).alloc (.cells #[.int .i64 a] 3)).alloc (.cells #[.int .i64 vn, .string vx, .int .i64 vo, .int .i64 ux, .bool true] 113)).alloc (.cells #[.int .i64 ((a : Int) + 1)] 3)).cell? ⟨w.heap.size + 1, 0, none⟩ = some (.int .i64 a) by go_simp)
          have hzW := hd (show ((((w.alloc (.cells #[.slice (some ⟨b1, o1, none⟩) l.length c] 37)).alloc (.cells #[.int .i64 a] 3)).alloc (.cells #[.int .i64 vn, .string vx, .int .i64 vo, .int .i64 ux, .bool true] 113)).alloc (.cells #[.int .i64 ((a : Int) + 1)] 3)).heap.size = w.heap.size + 1 + 1 + 1 + 1 by simp)
          by_cases h4 : t.of = 4
          · obtain ⟨p, hp1⟩ := hone.out h4
            rw [if_pos h4, hp1, fitsH_one] at hfit2
            rw [h4] at c0
            have hpm : p ∈ t.parts := by rw [hp1]; simp
            have ihp := hd (ih.out p hpm)
            have hrp1 := hd (hrp.out p hpm)
            have hcp1 := hcp.out p hpm
            have hgp := hg.out 0 (by rw [hp1]; simp) (by rw [hlv, hp1]; simp)
            rw [show t.parts[0]'(by rw [hp1]; simp) = p by simp [hp1]] at hgp
            replace hgp := hd hgp
            rw [hp1, List.length_singleton] at c5 hS hlv
            obtain ⟨bS, oS, rfl, hbS, hcS⟩ := hS.out.at (j := 0) (by omega)
            have hc0 := hcS 0 (by omega)
            rw [Nat.add_zero] at hc0
            generalize vs[0] = vp at *
            change Hd (RepP w lo hi p vp) at hgp
            have hbadj := hd (fun j (h : j < kv.length) (h2 : ((kv[j].no == 0) && fitsB p kv[j]) = false) => (show z = false by
              rw [hfit2.out, List.all_eq_false]; exact ⟨kv[j], List.getElem_mem h, by rw [h2]; simp⟩))
            have hall := hd (fun (h : ∀ i (h : i < kv.length), ((kv[i].no == 0) && fitsB p kv[i]) = true) => (show z = true by
              rw [hfit2.out, List.all_eq_true]; intro x hx; obtain ⟨i, hi, rfl⟩ := List.getElem_of_mem hx; exact h i hi))
            clear hfit2 hone hcp hrp hg hS ih hp1 h4 hcS hpm hlv
            go_enter Try.func86, Try.ntmps86
            go_wp2_with fail
            refine (hch.out _ (below_a3 _)).mono ?_
            rintro e2 w2 ⟨rfl, rfl⟩
            go_upto_region 10 with (fail)
            generalize (((w.alloc (.cells #[.slice (some ⟨b1, o1, none⟩) l.length c] 37)).alloc (.cells #[.int .i64 a] 3)).alloc (.cells #[.int .i64 vn, .string vx, .int .i64 vo, .int .i64 ux, .bool true] 113)).alloc (.cells #[.int .i64 ((a : Int) + 1)] 3) = W at *
            have k0 := keepCell hLz.out c0
            clear f0 f1 f2 f3 f4 hn0 hn0b hx0 hx0b
            go_wp2_with fail
            go_loopw [6] (fun u wr => u = .int .i64 0 ∧ ∃ (j ej : Nat), j ≤ kv.length ∧ (a < ej ∧ ej ≤ e) ∧ Hd (encL (trees l) (kv.drop j) a ej e) ∧ Hd (∀ i (h : i < kv.length), i < j → ((kv[i].no == 0) && fitsB p kv[i]) = true) ∧ Hd (Box1 wr (w.heap.size + 1 + 1 + 1) (.int .i64 ej)) ∧ Hd (W.grownBy wr (some (w.heap.size + 1 + 1 + 1)))) (fun _ wr => l.length + 1 - cellN wr ⟨w.heap.size + 1 + 1 + 1, 0, none⟩)
            case atStart => exact ⟨rfl, 0, a + 1, Nat.zero_le _, by omega, by rw [List.drop_zero]; exact hkids.out, fun i _ h => by omega, by have := hXE.out; rwa [show ((a : Int) + 1) = ((a + 1 : Nat) : Int) by omega] at this, grownBy_refl _ _⟩
            case round =>
              obtain ⟨rfl, j, ej, hj, ⟨haj, hje⟩, hLj, hok, hXj, hG⟩ := hrel
              obtain ⟨wo, rfl⟩ : ∃ wo : World, wo = wr := ⟨_, rfl⟩
              have hzG := hG.out.size
              have hbw := hd (show Below w.heap.size w wo from hLz.out.grown hG.out (by have := hzW.out; omega) (fun g hg => by cases hg; omega))
              have hCo := hd (hC0.out.mono hbw.out)
              have jL := hG.out.cell qL0.out (fun e => by have : w.heap.size = w.heap.size + 1 + 1 + 1 := Option.some.inj e; omega)
              have jA := hG.out.cell qA0.out (fun e => by have : w.heap.size + 1 = w.heap.size + 1 + 1 + 1 := Option.some.inj e; omega)
              have jE := hXj.out.1
              by_cases hlt : j < kv.length
              · have hLd := hLj.out
                rw [drop_cons hlt, encL] at hLd
                obtain ⟨e1, hu, h1, h2⟩ := hLd
                obtain ⟨hb1', hb2', _⟩ := enc_bd _ _ _ h1
                rw [trees_len] at hb2'
                have hel1 : ej < l.length := by omega
                have helI : (ej : Int) < (l.length : Int) := by omega
                obtain ⟨_, m0, m1, m2, m3, m4⟩ := encV_top h1
                have co := hd (own_c l b1 o1 c _ _ _ ej a wo hl hCo.out jE jL jA true (by simp [hu]))
                obtain ⟨y0, y1, y2, y3, y4⟩ := Cells.rowNode l ej hel1 hCo.out
                rw [m2] at y2
                have he1 : e1 ≤ e := (encL_bd' h2 (by omega) (by rw [trees_len]; exact hb2')).1
                have h2' := hd h2
                have hbj := hd (hbadj.out j hlt)
                have hokj := hd (fun (h : ((kv[j].no == 0) && fitsB p kv[j]) = true) => (show ∀ i (h : i < kv.length), i < j + 1 → ((kv[i].no == 0) && fitsB p kv[i]) = true from fun i hi hi2 => by
                  by_cases e9 : i = j
                  · subst e9; exact h
                  · exact hok.out i hi (by omega)))
                have cf := hd (fun w' (hb : Below wo.heap.size wo w') => ihp.out kv[j] ej e1 vp w' lo hi (by have := hb.size; have := hbw.out.size; omega) hrp1.out (by omega) h1 (hStk.out.part h1 h2 haj) (hCo.out.mono hb) (hgp.out.below hh (hbw.out.next hb)))
                clear hu h1 h2 y0 y1 y3 y4 m0 m1 m2 m3 m4
                generalize kv[j].no = nj at *
                generalize fitsB p kv[j] = fj at *
                go_wp2_with fail
                refine co.out.mono ?_
                rintro e3 w3 ⟨rfl, hb3⟩
                have jL3 := keepCell hb3 jL
                have jE3 := keepCell hb3 jE
                have y23 := keepCell hb3 y2
                have hXj3 := hd (hXj.out.below hb3)
                have rE3 := hXj3.out.2
                have hb3 := hd hb3
                have k5 := keepCell (hbw.out.next hb3.out) c5
                have kc := keepCell (hbw.out.next hb3.out) hc0
                have kkc := keepCell (hbw.out.next hb3.out) c0
                clear jL jE y2 jA
                cases hnj : (nj == 0) with
                | false =>
                  have hzf := hd (hbj.out (by rw [hnj]; rfl))
                  have hnjb : (nj != 0) = true := by rw [bne, hnj]; rfl
                  go_wp2_with fail
                  go_ret
                  exact ⟨by rw [hzf.out]; rfl, hbw.out.next hb3.out⟩
                | true =>
                  have hnjb : (nj != 0) = false := by rw [bne, hnj]; rfl
                  rw [hnj] at hbj hokj
                  have hbd3 := hd (show Below wo.heap.size wo w3.drew from hb3.out.drew)
                  go_wp2_with fail
                  go_still_tail 8, (by kernel_rfl)
                  change wpList _ _ _ _ _ w3.drew
                  have hXd := hd (show Box1 w3.drew (w.heap.size + 1 + 1 + 1) (.int .i64 ej) from hXj3.out)
                  clear jL3 jE3 y23 k5 kc kkc rE3
                  generalize w3.drew = w4 at *
                  go_wp2_with fail
                  refine (cf.out _ hbd3.out).mono ?_
                  rintro e5 w5 ⟨rfl, hb5⟩
                  have hX5 := hd (hXd.out.below hb5)
                  have x5 := hX5.out.1; have r5 := hX5.out.2
                  have hbo5 := hd (hbd3.out.next hb5)
                  clear hb5
                  cases fj with
                  | false =>
                    have hzf := hd (hbj.out rfl)
                    rw [show fitR false e1 = -1 from rfl]
                    go_wp2_with fail
                    go_ret
                    exact ⟨by rw [hzf.out]; rfl, (hbw.out.next hbo5.out).setCell (by simp; omega) _⟩
                  | true =>
                    rw [show fitR true e1 = (e1 : Int) from rfl]
                    have hX6 := hd (show Box1 (w5.setCell ⟨w.heap.size + 1 + 1 + 1, 0, none⟩ (.int .i64 (e1 : Int))) (w.heap.size + 1 + 1 + 1) (.int .i64 (e1 : Int)) from ⟨World.cell?_setCell_same _ _ _ x5, by rw [World.frozen?_setCell]; exact r5⟩)
                    have hG6 := hd (grownBy_trans (grownBy_trans hG.out (below_grownBy hbo5.out (some (w.heap.size + 1 + 1 + 1))) (.inl rfl)) (grownBy_setCell w5 ⟨w.heap.size + 1 + 1 + 1, 0, none⟩ (.int .i64 (e1 : Int))) (.inl rfl))
                    have hokn := hd (hokj.out rfl)
                    have hge : ¬ (e1 : Int) < 0 := by omega
                    have mE := hd (cellN_of hXj.out.1)
                    have mE6 := hd (cellN_of hX6.out.1)
                    go_wp2_with fail
                    go_roundw
                    case rel => exact ⟨rfl, j + 1, e1, by omega, ⟨by omega, he1⟩, h2', hokn, hX6, hG6⟩
                    case measure => rw [mE.out, mE6.out]; omega
              · obtain rfl : j = kv.length := by omega
                have hej : e = ej := by have := hLj.out; rw [List.drop_length, encL] at this; exact this
                subst hej
                have hun := hd (hhold.out (by first | rfl | trivial))
                have co := hd (own_c l b1 o1 c _ _ _ e a wo hl hCo.out jE jL jA false (by simp; exact hun.out))
                have hzt := hd (hall.out (fun i hi => hok.out i hi hi))
                go_wp2_with fail
                refine co.out.mono ?_
                rintro e3 w3 ⟨rfl, hb3⟩
                have jE3 := keepCell hb3 jE
                have hb3 := hd hb3
                go_wp2_with fail
                go_ret
                exact ⟨by rw [hzt.out]; rfl, hbw.out.next hb3.out⟩
          · have h4b : (t.of == 4) = false := by simpa using h4
            rw [if_neg h4] at hfit2
            have h5 : t.of = 5 := by rw [holds_iff] at hho; omega
            rw [h5] at c0
            clear hone h4 h4b h5
            generalize hps : t.parts = ps at *
            replace hps := hd hps
            go_enter Try.func86, Try.ntmps86
            go_wp2_with fail
            refine (hch.out _ (below_a3 _)).mono ?_
            rintro e2 w2 ⟨rfl, rfl⟩
            go_upto_region 10 with (fail)
            generalize (((w.alloc (.cells #[.slice (some ⟨b1, o1, none⟩) l.length c] 37)).alloc (.cells #[.int .i64 a] 3)).alloc (.cells #[.int .i64 vn, .string vx, .int .i64 vo, .int .i64 ux, .bool true] 113)).alloc (.cells #[.int .i64 ((a : Int) + 1)] 3) = W at *
            have k0 := keepCell hLz.out c0
            have k5 := keepCell hLz.out c5
            clear f0 f1 f2 f3 f4 hn0 hn0b hx0 hx0b
            go_wp2_with fail
            clear k0 k5
            go_loopw [6, 71] (fun u ix wr => u = .int .i64 0 ∧ ∃ (i j ej : Nat), i ≤ ps.length ∧ ix = .int .i64 i ∧ j ≤ kv.length ∧ (a < ej ∧ ej ≤ e) ∧ Hd (encL (trees l) (kv.drop j) a ej e) ∧ Hd (z = mergeB (ps.drop i) (kv.drop j)) ∧ Hd (Box1 wr (w.heap.size + 1 + 1 + 1) (.int .i64 ej)) ∧ Hd (W.grownBy wr (some (w.heap.size + 1 + 1 + 1)))) (fun _ ix _ => ps.length - (intOf ix).toNat)
            case atStart => exact ⟨rfl, 0, 0, a + 1, Nat.zero_le _, rfl, Nat.zero_le _, by omega, by rw [List.drop_zero]; exact hkids.out, by rw [List.drop_zero, List.drop_zero]; exact hfit2.out, by have := hXE.out; rwa [show ((a : Int) + 1) = ((a + 1 : Nat) : Int) by omega] at this, grownBy_refl _ _⟩
            case round =>
              obtain ⟨rfl, i, j, ej, hile, rfl, hj, ⟨haj, hje⟩, hLj, hmg, hXj, hG⟩ := hrel
              obtain ⟨wo, rfl⟩ : ∃ wo : World, wo = wr := ⟨_, rfl⟩
              have hzG := hG.out.size
              have hbw := hd (show Below w.heap.size w wo from hLz.out.grown hG.out (by have := hzW.out; omega) (fun g hg => by cases hg; omega))
              have hCo := hd (hC0.out.mono hbw.out)
              have jL := hG.out.cell qL0.out (fun e => by have : w.heap.size = w.heap.size + 1 + 1 + 1 := Option.some.inj e; omega)
              have jA := hG.out.cell qA0.out (fun e => by have : w.heap.size + 1 = w.heap.size + 1 + 1 + 1 := Option.some.inj e; omega)
              have jE := hXj.out.1
              have co := hd (fun r hr => own_c l b1 o1 c _ _ _ ej a wo hl hCo.out jE jL jA r hr)
              have cq := hd (fun r hr k => own_q l b1 o1 c _ _ _ ej a wo hl hCo.out jE jL jA r hr k)
              by_cases hip : i < ps.length
              · have hipI : (i : Int) < (ps.length : Int) := by omega
                obtain ⟨bS, oS, rfl, hbS, hcS⟩ := hS.out.at (j := i) (by omega)
                have hci := hcS i (by omega)
                have hgi := hg.out i hip (by omega)
                have hcp1 := hcp.out ps[i] (List.getElem_mem hip)
                have hrp1 := hd (hrp.out ps[i] (List.getElem_mem hip))
                have ihp := hd (ih.out ps[i] (List.getElem_mem hip))
                have hmg2 := hmg.out
                rw [drop_cons hip] at hmg2
                replace hmg2 := hd hmg2
                obtain ⟨bp, ap, cp, vp, hvp, hbp, p0, p1, p2, p3, p4, p5, _, _, _⟩ := hgi.open
                rw [hvp] at hci hgi
                have hgi := hd hgi
                have kci := keepCell hbw.out hci
                have kp2 := keepCell hbw.out p2
                have kp3 := keepCell hbw.out p3
                clear hcS hvp p0 p1 p2 p3 p4 p5 hci
                by_cases hlt : j < kv.length
                · have hLd := hLj.out
                  rw [drop_cons hlt, encL] at hLd
                  obtain ⟨e1, hu, h1, h2⟩ := hLd
                  obtain ⟨hb1', hb2', _⟩ := enc_bd _ _ _ h1
                  rw [trees_len] at hb2'
                  have hel1 : ej < l.length := by omega
                  have helI : (ej : Int) < (l.length : Int) := by omega
                  obtain ⟨_, m0, m1, m2, m3, m4⟩ := encV_top h1
                  have cq := hd (cq.out true (by simp [hu]))
                  obtain ⟨y0, y1, y2, y3, y4⟩ := Cells.rowNode l ej hel1 hCo.out
                  rw [m2] at y2
                  have he1 : e1 ≤ e := (encL_bd' h2 (by omega) (by rw [trees_len]; exact hb2')).1
                  have h2' := hd h2
                  have cf := hd (fun w' (hb : Below wo.heap.size wo w') => ihp.out kv[j] ej e1 _ w' lo hi (by have := hb.size; have := hbw.out.size; omega) hrp1.out (by omega) h1 (hStk.out.part h1 h2 haj) (hCo.out.mono hb) (hgi.out.below hh (hbw.out.next hb)))
                  have hmg3 := hmg2.out
                  rw [drop_cons hlt] at hmg3
                  have hme := hd (fun (h : kv[j].no = ps[i].no) => (show z = (fitsB ps[i] kv[j] && mergeB (ps.drop (i + 1)) (kv.drop (j + 1))) by rw [hmg3, merge_eq h]))
                  have hmn := hd (fun (h : kv[j].no ≠ ps[i].no) => (show z = (!ps[i].must && mergeB (ps.drop (i + 1)) (kv.drop j)) by rw [hmg3, merge_ne h, drop_cons hlt]))
                  clear hu h1 h2 y0 y1 y3 y4 m0 m1 m2 m3 m4 hmg3
                  generalize kv[j].no = nj at *
                  generalize fitsB ps[i] kv[j] = fj at *
                  generalize ps[i].no = pn at *
                  generalize ps[i].must = pm at *
                  by_cases hnn : nj = pn
                  · have hme := hd (hme.out hnn)
                    have hnb : (nj == pn) = true := by simpa using hnn
                    rw [hnn] at y2
                    clear hmn hnn
                    go_wp2_with fail
                    go_quiet ((go_at_call 125; exact Calls.quiet_of (cq.out _)))
                    go_wp2_with fail
                    refine (cf.out _ (below_drewN (Below.refl _ wo) _)).mono ?_
                    rintro e5 w5 ⟨rfl, hb5⟩
                    have hX5 := hd (hXj.out.below ((below_drewN (Below.refl _ wo) _).next hb5))
                    have x5 := hX5.out.1; have r5 := hX5.out.2
                    have hbo5 := hd ((below_drewN (Below.refl _ wo) _).next hb5)
                    clear hb5
                    cases fj with
                    | false =>
                      have hzf := hd (show z = false by rw [hme.out]; rfl)
                      rw [show fitR false e1 = -1 from rfl]
                      go_wp2_with fail
                      go_ret
                      exact ⟨by rw [hzf.out]; rfl, (hbw.out.next hbo5.out).setCell (by simp; omega) _⟩
                    | true =>
                      rw [show fitR true e1 = (e1 : Int) from rfl]
                      have hX6 := hd (show Box1 (w5.setCell ⟨w.heap.size + 1 + 1 + 1, 0, none⟩ (.int .i64 (e1 : Int))) (w.heap.size + 1 + 1 + 1) (.int .i64 (e1 : Int)) from ⟨World.cell?_setCell_same _ _ _ x5, by rw [World.frozen?_setCell]; exact r5⟩)
                      have hG6 := hd (grownBy_trans (grownBy_trans hG.out (below_grownBy hbo5.out (some (w.heap.size + 1 + 1 + 1))) (.inl rfl)) (grownBy_setCell w5 ⟨w.heap.size + 1 + 1 + 1, 0, none⟩ (.int .i64 (e1 : Int))) (.inl rfl))
                      have hmn := hd (show z = mergeB (ps.drop (i + 1)) (kv.drop (j + 1)) by rw [hme.out]; simp)
                      have hge : ¬ (e1 : Int) < 0 := by omega
                      go_wp2_with fail
                      go_roundw
                      case rel => exact ⟨rfl, i + 1, j + 1, e1, by omega, by go_num, by omega, ⟨by omega, he1⟩, h2', hmn, hX6, hG6⟩
                      case measure => simp [intOf]; omega
                  · have hmn := hd (hmn.out hnn)
                    have hnb : (nj == pn) = false := by simpa using hnn
                    clear hme hnn
                    cases pm with
                    | true =>
                      have hzf := hd (show z = false by rw [hmn.out]; rfl)
                      go_wp2_with fail
                      go_quiet ((go_at_call 125; exact Calls.quiet_of (cq.out _)))
                      go_wp2_with fail
                      go_ret
                      exact ⟨by rw [hzf.out]; rfl, below_drewN hbw.out _⟩
                    | false =>
                      have hmn2 := hd (show z = mergeB (ps.drop (i + 1)) (kv.drop j) by rw [hmn.out]; simp)
                      have hXd := hd (fun k => hXj.out.below (below_drewN (Below.refl _ wo) k))
                      have hGd := hd (fun k => grownBy_trans hG.out (below_grownBy (below_drewN (Below.refl _ wo) k) (some (w.heap.size + 1 + 1 + 1))) (.inl rfl))
                      go_wp2_with fail
                      go_quiet ((go_at_call 125; exact Calls.quiet_of (cq.out _)))
                      go_wp2_with fail
                      go_roundw
                      case rel => exact ⟨rfl, i + 1, j, ej, by omega, by go_num, by omega, ⟨by omega, by omega⟩, hLj, hmn2, hXd.out _, hGd.out _⟩
                      case measure => simp [intOf]; omega
                · obtain rfl : j = kv.length := by omega
                  have hej : e = ej := by have := hLj.out; rw [List.drop_length, encL] at this; exact this
                  subst hej
                  have hun := hd (hhold.out (by first | rfl | trivial))
                  have cq := hd (cq.out false (by simp; exact hun.out))
                  have hmg3 := hmg2.out
                  rw [List.drop_length, merge_none] at hmg3
                  have hmn := hd hmg3
                  clear hmg3
                  generalize ps[i].no = pn at *
                  generalize ps[i].must = pm at *
                  cases pm with
                  | true =>
                    have hzf := hd (show z = false by rw [hmn.out]; rfl)
                    go_wp2_with fail
                    go_quiet ((go_at_call 125; exact Calls.quiet_of (cq.out _)))
                    go_wp2_with fail
                    go_ret
                    exact ⟨by rw [hzf.out]; rfl, below_drewN hbw.out _⟩
                  | false =>
                    have hmn2 := hd (show z = mergeB (ps.drop (i + 1)) (kv.drop kv.length) by rw [hmn.out, List.drop_length]; simp)
                    have hXd := hd (fun k => hXj.out.below (below_drewN (Below.refl _ wo) k))
                    have hGd := hd (fun k => grownBy_trans hG.out (below_grownBy (below_drewN (Below.refl _ wo) k) (some (w.heap.size + 1 + 1 + 1))) (.inl rfl))
                    go_wp2_with fail
                    go_quiet ((go_at_call 125; exact Calls.quiet_of (cq.out _)))
                    go_wp2_with fail
                    go_roundw
                    case rel => exact ⟨rfl, i + 1, kv.length, e, by omega, by go_num, by omega, ⟨by omega, by omega⟩, hLj, hmn2, hXd.out _, hGd.out _⟩
                    case measure => simp [intOf]; omega
              · obtain rfl : i = ps.length := by omega
                have hipI : ¬ (ps.length : Int) < (ps.length : Int) := by omega
                have hmg2 := hmg.out
                rw [List.drop_length, merge_nil] at hmg2
                replace hmg2 := hd hmg2
                by_cases hlt : j < kv.length
                · have hLd := hLj.out
                  rw [drop_cons hlt, encL] at hLd
                  obtain ⟨e1, hu, h1, h2⟩ := hLd
                  have co := hd (co.out true (by simp [hu]))
                  have hzf := hd (show z = false by rw [hmg2.out, drop_cons hlt]; rfl)
                  clear hu h1 h2
                  go_wp2_with fail
                  refine co.out.mono ?_
                  rintro e3 w3 ⟨rfl, hb3⟩
                  have hb3 := hd hb3
                  go_wp2_with fail
                  go_ret
                  exact ⟨by rw [hzf.out]; rfl, hbw.out.next hb3.out⟩
                · obtain rfl : j = kv.length := by omega
                  have hej : e = ej := by have := hLj.out; rw [List.drop_length, encL] at this; exact this
                  subst hej
                  have hun := hd (hhold.out (by first | rfl | trivial))
                  have co := hd (co.out false (by simp; exact hun.out))
                  have hzt := hd (show z = true by rw [hmg2.out, List.drop_length]; rfl)
                  go_wp2_with fail
                  refine co.out.mono ?_
                  rintro e3 w3 ⟨rfl, hb3⟩
                  have jE3 := keepCell hb3 jE
                  have hb3 := hd hb3
                  go_wp2_with fail
                  go_ret
                  exact ⟨by rw [hzt.out]; rfl, hbw.out.next hb3.out⟩
end Go.Proofs.Ytobahkjbadamhaa
/- Whether a value fits a type as a whole: fits, FitsSchema, NodesIn of the program. -/
namespace Go.Proofs.Ytobahkjbadamhaa
open Go.RowKit
set_option linter.unusedVariables false
set_option maxRecDepth 100000
/-- A tree that takes all of a list, and one that was read greedily from its front, are one. -/
theorem whole_uniq {L : List DType} {v v' : K} {e : Nat} (h : enc L v 0 L.length) (h' : enc L v' 0 e) (hs : Stuck L 0 e) : v' = v ∧ e = L.length := by
  obtain ⟨b1, b2, b3⟩ := enc_bd v' _ _ h'
  have he : e = L.length := by
    by_cases hlt : e < L.length
    · exfalso
      obtain ⟨q, hq, hA, hql, hho⟩ := (enc_sp v _ _ h).2 e (by omega) hlt
      exact hs q (Nat.zero_le _) hA ⟨hql, hho⟩ hq
    · omega
  subst he
  exact ⟨Sb.uniq v' 0 v (enc_out h') (enc_out h), rfl⟩
def headP (l : List DNode) : Prop := (1 ≤ l.length ∧ l.length ≤ 40) ∧ ∃ h : 0 < l.length, l[0].up = -1 ∧ l[0].no = 0
theorem headP.up {l : List DNode} (h : headP l) (h0 : 0 < l.length) : l[0].up = -1 ∧ l[0].no = 0 := by obtain ⟨_, _, h1⟩ := h; exact h1
def fitV (t : K) (l : List DNode) : Prop := headP l ∧ ∃ v, enc (trees l) v 0 l.length ∧ fitsB t v = true
set_option maxHeartbeats 3200000 in
theorem fits_i (l : List DNode) (hl : l.length ≤ 1000000000) (hnm : ∀ x ∈ l, x.text.size ≤ 1000000000000) (t : K) (vv vt : Value) (w : World) (lo hi : Nat) (hh : hi ≤ w.heap.size) (hr : rightK t) (hct : countK t ≤ 1000000) (hS : Sl w vv 5 (l.map DNode.enc)) (hR : RepP w lo hi t vt) (r : Bool) (hrr : r = true ↔ fitV t l) :
    Calls Try.prog 76 #[vt, .agg #[vv]] w (BoolPost r w) := by
  by_cases hn : 1 ≤ l.length ∧ l.length ≤ 40
  · rcases hS.open with ⟨a1, c1, rfl, hrw⟩ | ⟨b1, o1, c, rfl, hrw, C⟩
    · exfalso; have : l = [] := by simpa using hrw
      subst this; simp at hn
    have hn0 : 0 < l.length := by omega
    rw [List.length_map]
    have cw := hd (fun w => within_i (l.length : Int) 1 40 w true (by simp; omega))
    obtain ⟨f0, f1, f2, f3, f4⟩ := Cells.rowNode l 0 hn0 C
    rw [Nat.zero_mul, Nat.add_zero] at f2 f3
    have hnI : (0 : Int) < (l.length : Int) := by omega
    have q0 := hd (show (w.alloc (.cells #[.slice (some ⟨b1, o1, none⟩) l.length c] 39)).cell? ⟨w.heap.size, 0, none⟩ = some (.slice (some ⟨b1, o1, none⟩) l.length c) by go_simp)
    have hB := hd (below_a1 w (a := .cells #[.slice (some ⟨b1, o1, none⟩) l.length c] 39))
    by_cases hu : l[0].up = -1
    · by_cases hno : l[0].no = 0
      · obtain ⟨v, e, g1, g2⟩ := parse (l := trees l) l.length 0 (by rw [trees_len]; omega) (by rw [trees_len]; exact hn0) (fun i hi => by
          have : i = 0 := by omega
          subst this; rw [UN_at hn0, hu]; omega)
        have hz := hd (show r = (fitR (fitsB t v) e == (l.length : Int)) by
          rw [Bool.eq_iff_iff, hrr, beq_iff_eq]
          constructor
          · rintro ⟨_, v', h1, h2⟩
            obtain ⟨rfl, rfl⟩ := whole_uniq (by rw [trees_len]; exact h1) g1 g2
            rw [h2, trees_len]; rfl
          · intro h
            have hb : fitsB t v = true := by
              cases hb : fitsB t v with
              | true => rfl
              | false => rw [hb] at h; change (-1 : Int) = _ at h; omega
            rw [hb] at h
            change (e : Int) = _ at h
            have he : e = l.length := by omega
            subst he
            exact ⟨⟨hn, hn0, hu, hno⟩, v, g1, hb⟩)
        have cf := hd (fun w' (hb : Below w.heap.size w w') => fit_i l b1 o1 c (by omega) hnm t v 0 e vt w' lo hi (Nat.le_trans hh hb.size) hr hct g1 g2 (C.mono hb) (hR.below hh hb))
        obtain ⟨bk, _, _, _, rfl, hjk⟩ := hR.open
        rw [hu] at f3
        rw [hno] at f2
        have k2 := keepCell hB.out f2
        have k3 := keepCell hB.out f3
        clear hjk f0 f1 f2 f3 f4 g1 g2 hu hno hrr hR hS hrw
        generalize fitR (fitsB t v) e = z at *
        go_enter Try.func76, Try.ntmps76
        go_upto_region 1 with (fail)
        go_region_held3 (fun w' => w'.cell? ⟨w.heap.size, 0, none⟩ = some (.slice (some ⟨b1, o1, none⟩) l.length c) ∧ w'.cell? ⟨b1, o1 + 3, none⟩ = some (.int .i64 (-1)) ∧ w'.cell? ⟨b1, o1 + 2, none⟩ = some (.int .i64 0))
          (first | go_keep | (go_split_ands; refine ⟨?_, ?_, ?_⟩ <;> exact keepCell hbA (by assumption)))
          (first | (go_at_call 55; refine (cw.out _).mono ?_; rintro eA wA ⟨rfl, rfl⟩) | (go_at_call 86; refine (cf.out _ (by first | exact hB.out.drew | exact hB.out)).mono ?_; rintro eA wA ⟨rfl, hbA⟩))
        all_goals
          have hb10 := hd ((hB.out.drew).next hbA)
          go_wp2_with fail
          go_ret
          exact ⟨by rw [hz.out]; rfl, hb10.out⟩
      · have hzf := hd (nb hrr (fun q => hno (q.1.up hn0).2))
        have hnob : (l[0].no == 0) = false := by simpa using hno
        rw [hu] at f3
        have k2 := keepCell hB.out f2
        have k3 := keepCell hB.out f3
        obtain ⟨bk, _, _, _, rfl, hjk⟩ := hR.open
        clear hjk f0 f1 f2 f3 f4 hu hno hrr hR hS hrw
        generalize l[0].no = n0 at *
        go_enter Try.func76, Try.ntmps76
        go_upto_region 1 with (fail)
        go_quiet ((go_at_call 55; exact Calls.quiet_of_same ((cw.out _).mono fun e w' h => ⟨h.1, h.2.symm⟩)))
        go_wp2_with fail
        go_ret
        exact ⟨by rw [hzf.out]; rfl, below_drewN (below_a1 _) _⟩
    · have hzf := hd (nb hrr (fun q => hu (q.1.up hn0).1))
      have hub : (l[0].up == -1) = false := by simpa using hu
      have k3 := keepCell hB.out f3
      obtain ⟨bk, _, _, _, rfl, hjk⟩ := hR.open
      clear hjk f0 f1 f2 f3 f4 hu hrr hR hS hrw
      generalize l[0].up = n0 at *
      go_enter Try.func76, Try.ntmps76
      go_upto_region 1 with (fail)
      go_quiet ((go_at_call 55; exact Calls.quiet_of_same ((cw.out _).mono fun e w' h => ⟨h.1, h.2.symm⟩)))
      go_wp2_with fail
      go_ret
      exact ⟨by rw [hzf.out]; rfl, below_drewN (below_a1 _) _⟩
  · have hzf := hd (nb hrr (fun q => hn q.1.1))
    have cw := hd (fun w => within_i (l.length : Int) 1 40 w false (by simp; omega))
    obtain ⟨a1, c1, rfl, hjs⟩ := hS
    obtain ⟨bk, _, _, _, rfl, hjk⟩ := hR.open
    simp only [List.length_map]
    clear hjk hjs hrr hR
    go_enter Try.func76, Try.ntmps76
    go_upto_region 1 with (fail)
    go_quiet ((go_at_call 55; exact Calls.quiet_of_same ((cw.out _).mono fun e w' h => ⟨h.1, h.2.symm⟩)))
    go_wp2_with fail
    go_ret
    exact ⟨by rw [hzf.out]; rfl, below_drewN (below_a1 _) _⟩
/-- A value fits a schema. -/
def fitP (ln : List DNode) (l : List DType) : Prop := goodP l ∧ ∃ t, treeOf l t ∧ fitV t ln
theorem fitP_of {ln : List DNode} {l : List DType} {t : K} (hg : goodP l) (ht : treeOf l t) : fitP ln l ↔ fitV t ln := by
  constructor
  · rintro ⟨_, t', h1, h2⟩
    rw [treeOf_uniq ht h1]; exact h2
  · intro h; exact ⟨hg, t, ht, h⟩
set_option maxHeartbeats 3200000 in
theorem FitsSchema_i (ln : List DNode) (l : List DType) (vv v : Value) (w : World) (hln : ln.length ≤ 1000000000) (hl : l.length ≤ 1000000000) (hnm : ∀ x ∈ ln, x.text.size ≤ 1000000000000) (hs : ∀ x ∈ l, x.name.size ≤ 1000000000000) (hV : Sl w vv 5 (ln.map DNode.enc)) (h : Sl w v 6 (l.map DType.enc)) (r : Bool) (hr : r = true ↔ fitP ln l) :
    Calls Try.prog 31 #[.agg #[vv], .agg #[v]] w (BoolPost r w) := by
  obtain ⟨g, hg⟩ := boolOf (goodP l)
  have ck := hd (fun w' (hbb : Below w.heap.size w w') => kindOf_i l v w' (by omega) hs (h.mono hbb) g hg)
  have hV0 := hd hV
  obtain ⟨a1, c1, rfl, _⟩ := h
  obtain ⟨av, cv, rfl, _⟩ := hV
  simp only [List.length_map] at ck hV0 ⊢
  replace hr := hd hr
  replace hg := hd hg
  go_enter Try.func31, Try.ntmps31
  go_wp2_with fail
  refine (ck.out _ (below_a2 _)).mono ?_
  intro e w2 hp
  cases g with
  | true =>
    obtain ⟨t, vp, rfl, ht, hrp, hb2⟩ := KoPost_t hp
    have hgp := hg.out.1 rfl
    have hsm := good_small ht.2
    have q := keepCell hb2 (show World.cell? _ ⟨w.heap.size, 0, none⟩ = some (.slice av ln.length cv) by go_simp)
    have hB := hd ((below_a2 w).next hb2)
    have cf := hd (fits_i ln hln hnm t _ vp w2 _ _ (Nat.le_refl _) ht.2.2.2.1 (by omega) (hV0.out.mono hB.out) hrp r (by rw [hr.out]; exact fitP_of hgp ht))
    obtain ⟨bp, _, _, _, rfl, hjk⟩ := hrp.open
    clear hp hb2 hrp ht hgp hjk
    go_wp2_with fail
    refine cf.out.mono ?_
    rintro e3 w3 ⟨rfl, hb3⟩
    have hB3 := hd (hB.out.next hb3)
    clear hb3
    go_wp2_with fail
    go_ret
    exact ⟨rfl, hB3.out⟩
  | false =>
    obtain ⟨rfl, hb2⟩ := KoPost_f hp
    have hrf := hd (nb hr.out (fun q => absurd (hg.out.2 q.1) (by simp)))
    have hB := hd ((below_a2 w).next hb2)
    clear hp hb2
    go_wp2_with fail
    go_ret
    exact ⟨by rw [hrf.out]; rfl, hB.out⟩
end Go.Proofs.Ytobahkjbadamhaa

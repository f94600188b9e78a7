/- A term out of cells: l6Read of the reference. -/
import Derived.Test.YtbjilpemckoioaaDoorTermI
namespace Go.Proofs.YtbjilpemckoioaaDoor
open Go.RowKit
set_option linter.unusedVariables false
set_option maxRecDepth 100000
theorem infoTv : (Tryd.prog.info? 41).map (fun i => (i.zero, i.size, i.bytes)) = some (some (.agg #[.int .i64 0, .string ⟨#[]⟩, .slice none 0 0]), 3, 48) := by kernel_rfl
theorem rowT_one {v : Int} {nm : ByteArray} {a : Option Addr} {n c : Nat} : ∀ u ∈ [[Value.int .i64 v, .string nm, .slice a n c]].flatten, u.oneCell' = true := by
  intro u hu
  simp at hu
  rcases hu with rfl | rfl | rfl <;> rfl
theorem name6_s (s : ByteArray) (w : World) (hs : s.size ≤ 1000000000000) (b : Bool) (hb : b = (nameB s && decide (s.size ≤ 4))) : Calls Tryd.prog 42 #[.string s] w (fun e w' => e = .returned (.bool b) ∧ w = w') := by
  obtain ⟨nb, hnb⟩ := boolOf (nameP s)
  have cn := hd (fun w' => name_s s w' hs nb hnb)
  have hnb2 : nameB s = nb := by rw [Bool.eq_iff_iff, nameB_iff, hnb]
  rw [hnb2] at hb
  replace hb := hd hb
  clear hnb hnb2
  cases nb with
  | false =>
    go_enter Tryd.func42, Tryd.ntmps42
    go_wp2_with fail
    refine (cn.out _).mono ?_
    rintro e w2 ⟨rfl, rfl⟩
    go_wp2_with fail
    go_ret
    exact ⟨by rw [hb.out]; rfl, rfl⟩
  | true =>
    by_cases h4 : (s.size : Int) ≤ 4
    · go_enter Tryd.func42, Tryd.ntmps42
      go_wp2_with fail
      refine (cn.out _).mono ?_
      rintro e w2 ⟨rfl, rfl⟩
      go_wp2_with fail
      go_ret
      exact ⟨by rw [hb.out]; simp; omega, rfl⟩
    · go_enter Tryd.func42, Tryd.ntmps42
      go_wp2_with fail
      refine (cn.out _).mono ?_
      rintro e w2 ⟨rfl, rfl⟩
      go_wp2_with fail
      go_ret
      exact ⟨by rw [hb.out]; simp; omega, rfl⟩
def RdPost (L : List DCell) (o : Option (K × List DCell)) (w : World) (e : Ending) (w' : World) : Prop := match o with
  | none => e = .returned (.tuple #[.agg #[.int .i64 0, .string ⟨#[]⟩, .slice none 0 0], .int .i64 0]) ∧ Below w.heap.size w w'
  | some (t, r) => ∃ (rows : List Value) (k : Nat), e = .returned (.tuple #[.agg rows.toArray, .int .i64 k]) ∧ (0 < k ∧ k ≤ L.length ∧ r = L.drop k) ∧ RepZ HT 3 w' (NewB w w') t rows ∧ Below w.heap.size w w'
theorem RdPost_n {L : List DCell} {w w' : World} {e : Ending} (h : RdPost L none w e w') : e = .returned (.tuple #[.agg #[.int .i64 0, .string ⟨#[]⟩, .slice none 0 0], .int .i64 0]) ∧ Below w.heap.size w w' := h
theorem RdPost_s {L : List DCell} {t : K} {r : List DCell} {w w' : World} {e : Ending} (h : RdPost L (some (t, r)) w e w') : ∃ (rows : List Value) (k : Nat), e = .returned (.tuple #[.agg rows.toArray, .int .i64 k]) ∧ (0 < k ∧ k ≤ L.length ∧ r = L.drop k) ∧ RepZ HT 3 w' (NewB w w') t rows ∧ Below w.heap.size w w' := h
theorem grownBy_setCells (g : Nat) : ∀ (us : List Value) (w : World) (p : Nat), w.grownBy (setCells w g p us) (some g) := by
  intro us
  induction us with
  | nil => intro w p; exact grownBy_refl _ _
  | cons u us ih => intro w p; exact grownBy_trans (grownBy_setCell w ⟨g, p, none⟩ u) (ih _ _) (.inl rfl)
/-- A node by value, made whole and handed over: the result's block is another. -/
theorem nodeZ {w wr : World} {rb xb E B : Nat} {v : Int} {nm : ByteArray} {ks : List K} {rws : List (List Value)} {sk : Value} (hrb : rb < wr.heap.size) (hw : w.heap.size ≤ rb) (hO : Own wr B E 3 sk rws) (hB : rb < B) (hS : SepZ HT 3 wr (fun b => rb < b) xb sk ks rws) :
    RepZ HT 3 (setCells wr rb 0 [.int .i64 v, .string nm, sk]) (NewB w (setCells wr rb 0 [.int .i64 v, .string nm, sk])) (tmK v nm ks) [.int .i64 v, .string nm, sk] := by
  have hg := grownBy_setCells rb [.int .i64 v, .string nm, sk] wr 0
  have h1 : RepZ HT 3 wr (fun b => rb < b ∧ b < wr.heap.size) (tmK v nm ks) [.int .i64 v, .string nm, sk] := by
    refine RepZ.mk (H := HT) (t := tmK v nm ks) (XSlS.own hO (fun g hg => ?_)) ?_
    · have := hO.lt g hg
      exact ⟨by omega, this.2⟩
    · exact hS.rep
  refine RepZ.same (SameS.grown hg (fun b hb => hb.2) (fun b hb e => ?_)) (fun b hb => ⟨?_, ?_⟩) _ _ h1
  · have : b = rb := Option.some.inj e
    have := hb.1; omega
  · have := hb.1; omega
  · exact Nat.lt_of_lt_of_le hb.2 hg.size
theorem RepZ.openT {w : World} {S : Nat → Prop} {t : K} {r : List Value} (h : RepZ HT 3 w S t r) : ∃ (a : Option Addr) (c : Nat) (rows : List (List Value)), r = [.int .i64 t.of, .string t.name, .slice a t.parts.length c] ∧
    XSlS 3 w S (.slice a t.parts.length c) rows ∧ rows.length = t.parts.length ∧ ∀ j (h : j < t.parts.length) (h' : j < rows.length), RepZ HT 3 w S t.parts[j] rows[j] := h.open
theorem BoxN.set3 {w : World} {b : Nat} {a0 a1 a2 : Value} (h : BoxN w b [a0, a1, a2]) (u0 u1 u2 : Value) : BoxN (setCells w b 0 [u0, u1, u2]) b [u0, u1, u2] :=
  ((h.set (i := 0) (by simp) u0).set (i := 1) (by simp) u1).set (i := 2) (by simp) u2
set_option maxHeartbeats 6400000 in
theorem read6_s (L : List DCell) (a : Option Addr) (c b1 o1 : Nat) (hLn : L.length ≤ 1000) (hnm : ∀ x ∈ L, x.name.size ≤ 1000000000000) : ∀ (n k : Nat) (w : World), L.length ≤ k + n → k ≤ L.length → (L = [] ∨ a = some ⟨b1, o1, none⟩ ∧ Cells w b1 o1 3 (L.map DCell.enc)) →
    Calls Tryd.prog 30 #[.slice a L.length c, .int .i64 k] w (RdPost L (rdT n (L.drop k)) w) := by
  replace hnm := hd hnm
  intro n
  induction n with
  | zero =>
    intro k w hl hk hC
    obtain rfl : k = L.length := by omega
    have hge : ¬ (L.length : Int) < (L.length : Int) := by omega
    have h0 := hd (show rdT 0 (L.drop L.length) = none from rfl)
    rw [h0.out]
    have hX := hd (show BoxN (w.alloc (.cells #[.int .i64 0, .string ⟨#[]⟩, .slice none 0 0] 41)) w.heap.size [.int .i64 0, .string ⟨#[]⟩, .slice none 0 0] from BoxN.new w _ _)
    have hb := hd (below_a1 w (a := .cells #[.int .i64 0, .string ⟨#[]⟩, .slice none 0 0] 41))
    go_enter Tryd.func30, Tryd.ntmps30
    go_upto_region 1 with (fail)
    generalize w.alloc (.cells #[.int .i64 0, .string ⟨#[]⟩, .slice none 0 0] 41) = W at *
    have z0 := hX.out.1 0 _ rfl; have rz0 := hX.out.2.1 0; have z1 := hX.out.1 1 _ rfl; have rz1 := hX.out.2.1 1; have z2 := hX.out.1 2 _ rfl; have rz2 := hX.out.2.1 2
    go_wp2_with fail
    exact bodyPost_ret (v := .tuple #[.agg #[.int .i64 0, .string ⟨#[]⟩, .slice none 0 0], .int .i64 0]) (by simp [results, Tryd.results30, go_sem, z0, z1, z2]) rfl ⟨rfl, hb.out.grown (grownBy_setCells w.heap.size [.int .i64 0, .string ⟨#[]⟩, .slice none 0 0] W 0) hb.out.size (fun g hg => by cases hg; exact Nat.le_refl _)⟩
  | succ n ih =>
    intro k w hl hk hC
    replace ih := hd ih
    have hX := hd (show BoxN (w.alloc (.cells #[.int .i64 0, .string ⟨#[]⟩, .slice none 0 0] 41)) w.heap.size [.int .i64 0, .string ⟨#[]⟩, .slice none 0 0] from BoxN.new w _ _)
    have hbW := hd (below_a1 w (a := .cells #[.int .i64 0, .string ⟨#[]⟩, .slice none 0 0] 41))
    have hsW : w.heap.size + 1 ≤ (w.alloc (.cells #[.int .i64 0, .string ⟨#[]⟩, .slice none 0 0] 41)).heap.size := by simp
    have hret := hd (fun (wr : World) (hw : Below w.heap.size w wr) => (show RdPost L none w (.returned (.tuple #[.agg #[.int .i64 0, .string ⟨#[]⟩, .slice none 0 0], .int .i64 0])) (setCells wr w.heap.size 0 [.int .i64 0, .string ⟨#[]⟩, .slice none 0 0]) from
      ⟨rfl, hw.grown (grownBy_setCells w.heap.size [.int .i64 0, .string ⟨#[]⟩, .slice none 0 0] wr 0) hw.size (fun g hg => by cases hg; exact Nat.le_refl _)⟩))
    by_cases hlt : k < L.length
    · have hltI : (k : Int) < (L.length : Int) := by omega
      have hk0 : (0 : Int) ≤ (k : Int) := by omega
      obtain ⟨rfl, C⟩ : a = some ⟨b1, o1, none⟩ ∧ Cells w b1 o1 3 (L.map DCell.enc) := hC.resolve_left (by intro e; rw [e] at hlt; simp at hlt)
      have hb1w : b1 < w.heap.size := C.1
      have hCC := hd C
      have hdr := List.drop_eq_getElem_cons hlt
      have hxn := hnm.out L[k] (List.getElem_mem hlt)
      obtain ⟨f0, f1, f2⟩ := Cells.rowCell L k hlt (C.mono hbW.out)
      have hvar := hd (fun (h : L[k].var ≠ 0) => rdT_var (n := n) (r := L.drop (k + 1)) h)
      have hnam := hd (fun (h : L[k].var = 0) => rdT_name (n := n) (r := L.drop (k + 1)) h)
      rw [hdr]
      have hvc := hd (show varC L[k] = (decide (1 ≤ L[k].var ∧ L[k].var ≤ 6) && (L[k].name.toList.isEmpty && (L[k].many == 0))) by rw [varC, sz_emp]; rfl)
      have hnc := hd (show nmC L[k] = ((nameB L[k].name && decide (L[k].name.size ≤ 4)) && decide (0 ≤ L[k].many ∧ L[k].many ≤ 5)) by rw [nmC, Bool.and_assoc])
      have hmny := hd (fun (h : nmC L[k] = true) => TmKids_le h)
      obtain ⟨o, ho⟩ : ∃ o, rdT (n + 1) (L[k] :: L.drop (k + 1)) = o := ⟨_, rfl⟩
      rw [ho] at hvar hnam ⊢
      clear hdr ho C
      generalize hvC : varC L[k] = vc at *
      generalize hnC : nmC L[k] = nc at *
      clear hvC hnC
      generalize L[k] = x at *
      obtain ⟨xv, xn, xm⟩ := x
      dsimp only at *
      have hX3 := hd (show BoxN ((w.alloc (.cells #[.int .i64 0, .string ⟨#[]⟩, .slice none 0 0] 41)).alloc (.cells #[.int .i64 xv, .string xn, .int .i64 xm] 64)) (w.alloc (.cells #[.int .i64 0, .string ⟨#[]⟩, .slice none 0 0] 41)).heap.size [.int .i64 xv, .string xn, .int .i64 xm] from BoxN.new _ _ _)
      have hal := hd (below_a1 (w.alloc (.cells #[.int .i64 0, .string ⟨#[]⟩, .slice none 0 0] 41)) (a := .cells #[.int .i64 xv, .string xn, .int .i64 xm] 64))
      go_enter Tryd.func30, Tryd.ntmps30
      go_upto_region 1 with (fail)
      generalize w.alloc (.cells #[.int .i64 0, .string ⟨#[]⟩, .slice none 0 0] 41) = W at *
      go_upto_region 4 with (fail)
      have hXr := hd (hX.out.below hal.out)
      have hB3 := hd (hbW.out.next hal.out)
      have hsW3 := hal.out.size
      generalize W.alloc (.cells #[.int .i64 xv, .string xn, .int .i64 xm] 64) = W3 at *
      clear f0 f1 f2
      have x0 := hX3.out.1 0 _ rfl
      have x1 := hX3.out.1 1 _ rfl
      have x2 := hX3.out.1 2 _ rfl
      by_cases hv : xv = 0
      · have hoN := hd (hnam.out hv)
        subst hv
        obtain ⟨nb, hnb⟩ : ∃ nb, (nameB xn && decide (xn.size ≤ 4)) = nb := ⟨_, rfl⟩
        have cn := hd (fun w' => name6_s xn w' hxn nb hnb.symm)
        have cw := hd (fun w' => within_s xm 0 5 w' (decide (0 ≤ xm ∧ xm ≤ 5)) rfl)
        rw [hnb] at hnc
        clear hvar hvc hnb
        have z0 := hXr.out.1 0 _ rfl; have rz0 := hXr.out.2.1 0; have z1 := hXr.out.1 1 _ rfl; have rz1 := hXr.out.2.1 1; have z2 := hXr.out.1 2 _ rfl; have rz2 := hXr.out.2.1 2
        generalize decide (0 ≤ xm ∧ xm ≤ 5) = d2 at *
        cases nb with
        | false =>
          have h0 := hd (show o = none by rw [hoN.out, hnc.out]; rfl)
          go_wp2_with fail
          refine (cn.out _).mono ?_
          rintro e w2 ⟨rfl, rfl⟩
          go_wp2_with fail
          rw [h0.out]
          exact bodyPost_ret (v := .tuple #[.agg #[.int .i64 0, .string ⟨#[]⟩, .slice none 0 0], .int .i64 0]) (by simp [results, Tryd.results30, go_sem, z0, z1, z2]) rfl (hret.out _ hB3.out)
        | true =>
          cases d2 with
          | false =>
            have h0 := hd (show o = none by rw [hoN.out, hnc.out]; rfl)
            go_wp2_with fail
            refine (cn.out _).mono ?_
            rintro e w2 ⟨rfl, rfl⟩
            go_wp2_with fail
            refine (cw.out _).mono ?_
            rintro e w2 ⟨rfl, rfl⟩
            go_wp2_with fail
            rw [h0.out]
            exact bodyPost_ret (v := .tuple #[.agg #[.int .i64 0, .string ⟨#[]⟩, .slice none 0 0], .int .i64 0]) (by simp [results, Tryd.results30, go_sem, z0, z1, z2]) rfl (hret.out _ hB3.out)
          | true =>
            have hnct := hd (show nc = true by rw [hnc.out]; rfl)
            obtain ⟨hm0, hm5⟩ := hmny.out hnct.out
            replace hoN := hd (show o = (rdL (rdT n) xm.toNat (L.drop (k + 1))).map (fun q => (tmK 0 xn q.1, q.2)) by rw [hoN.out, if_pos hnct.out])
            obtain ⟨m, rfl⟩ : ∃ m : Nat, xm = (m : Int) := ⟨xm.toNat, by omega⟩
            rw [Int.toNat_natCast] at hoN
            clear hnc hnct hmny hm0
            obtain ⟨i0, hi, hz0, hz1, hz2⟩ := info_parts infoTv
            have Hi := hd hi; have Hz0 := hd hz0; have Hz1 := hd hz1; have Hz2 := hd hz2
            clear hi hz0 hz1 hz2
            have hXn := hd (show BoxN (W3.alloc (.cells #[.int .i64 0, .string xn, .slice none 0 0] 41)) W3.heap.size [.int .i64 0, .string xn, .slice none 0 0] from BoxN.new W3 _ _)
            have hal4 := hd (below_a1 W3 (a := .cells #[.int .i64 0, .string xn, .slice none 0 0] 41))
            have hsN : W3.heap.size + 1 ≤ (W3.alloc (.cells #[.int .i64 0, .string xn, .slice none 0 0] 41)).heap.size := by simp
            go_wp2_with fail
            refine (cn.out _).mono ?_
            rintro e w2 ⟨rfl, rfl⟩
            go_wp2_with fail
            refine (cw.out _).mono ?_
            rintro e w2 ⟨rfl, rfl⟩
            clear z0 z1 z2 rz0 rz1 rz2
            go_upto_region 11 with (fail)
            clear x0 x1 x2
            generalize W3.alloc (.cells #[.int .i64 0, .string xn, .slice none 0 0] 41) = W4 at *
            have hB4 := hd (hB3.out.next hal4.out)
            have hXr4 := hd (hXr.out.below hal4.out)
            have hX4 := hd (hX3.out.below hal4.out)
            have hcb := hX3.out.2.2
            have hrb := hX.out.2.2
            go_wp2_with fail
            go_loopw [1, 8] (fun p1 p8 wr => ∃ (j k' : Nat) (ks : List K) (rws : List (List Value)) (sk : Value), p1 = .int .i64 k' ∧ p8 = .int .i64 j ∧ j ≤ m ∧ k' ≤ L.length ∧ L.length ≤ k' + n ∧ (0 < k' ∧ rws.length = j) ∧ Hd (rdL (rdT n) j (L.drop (k + 1)) = some (ks, L.drop k')) ∧ Hd (BoxN wr W3.heap.size [.int .i64 0, .string xn, sk]) ∧ Hd (Own wr W4.heap.size 41 3 sk rws) ∧ Hd (SepZ HT 3 wr (fun b => w.heap.size < b) W3.heap.size sk ks rws) ∧ Hd (W4.grownBy wr (some W3.heap.size))) (fun _ p8 _ => m - (intOf p8).toNat)
            case atStart => exact ⟨0, k + 1, [], [], .slice none 0 0, by go_num, rfl, Nat.zero_le _, by omega, by omega, ⟨by omega, rfl⟩, (show rdL _ 0 _ = _ from rfl), hXn.out, Own.nil, SepZ.nil, grownBy_refl _ _⟩
            case round =>
              obtain ⟨j, k', ks, rws, sk, rfl, rfl, hj, hkL, hkn, ⟨hk1, hrl⟩, hrd, hXb, hO, hSep, hG⟩ := hrel
              obtain ⟨wo, rfl⟩ : ∃ wo : World, wo = wr := ⟨_, rfl⟩
              have hBo := hd (hB4.out.grown hG.out hB4.out.size (fun g hg => by cases hg; omega))
              have hXro := hd (hXr4.out.grown hG.out (fun e => by have : w.heap.size = W3.heap.size := Option.some.inj e; omega))
              have hXo := hd (hX4.out.grown hG.out (fun e => by have : W.heap.size = W3.heap.size := Option.some.inj e; omega))
              have hzG := hG.out.size
              have x2 := hXo.out.1 2 _ rfl
              by_cases hlt2 : j < m
              · have hltI2 : (j : Int) < (m : Int) := by omega
                have ci := hd (ih.out k' wo hkn hkL (.inr ⟨by first | rfl | trivial, hCC.out.mono hBo.out⟩))
                have hsn := hd (rdL_snoc (rdT n) j (L.drop (k + 1)))
                cases hq : rdT n (L.drop k') with
                | none =>
                  rw [hq] at ci
                  have h0 := hd (show o = none by
                    have h1 : rdL (rdT n) (j + 1) (L.drop (k + 1)) = none := by rw [hsn.out, hrd.out, Option.bind_some]; simp only [hq]; rfl
                    have h2 := rdL_stop h1 (m - (j + 1))
                    rw [show j + 1 + (m - (j + 1)) = m by omega] at h2
                    rw [hoN.out, h2]; rfl)
                  clear hq
                  go_wp2_with fail
                  refine ci.out.mono ?_
                  intro e w7 hp
                  obtain ⟨rfl, hb7⟩ := RdPost_n hp
                  have hal7 := hd (hb7.next (below_a1 w7 (a := .cells #[.int .i64 0, .string ⟨#[]⟩, .slice none 0 0] 41)))
                  clear hp hb7
                  go_upto_region 16 with (fail)
                  generalize w7.alloc (.cells #[.int .i64 0, .string ⟨#[]⟩, .slice none 0 0] 41) = w8 at *
                  have hB8 := hd (hBo.out.next hal7.out)
                  have hXr8 := hd (hXro.out.below hal7.out)
                  have z0 := hXr8.out.1 0 _ rfl; have rz0 := hXr8.out.2.1 0; have z1 := hXr8.out.1 1 _ rfl; have rz1 := hXr8.out.2.1 1; have z2 := hXr8.out.1 2 _ rfl; have rz2 := hXr8.out.2.1 2
                  go_wp2_with fail
                  rw [h0.out]
                  exact bodyPost_ret (v := .tuple #[.agg #[.int .i64 0, .string ⟨#[]⟩, .slice none 0 0], .int .i64 0]) (by simp [results, Tryd.results30, go_sem, z0, z1, z2]) rfl (hret.out _ hB8.out)
                | some q =>
                  obtain ⟨t, r'⟩ := q
                  rw [hq] at ci
                  have hrd2 := hd (show rdL (rdT n) (j + 1) (L.drop (k + 1)) = some (ks ++ [t], r') by rw [hsn.out, hrd.out, Option.bind_some]; simp only [hq]; rfl)
                  have hrl2 := rdT_len hq
                  rw [List.length_drop] at hrl2
                  clear hq
                  go_wp2_with fail
                  refine ci.out.mono ?_
                  intro e w7 hp
                  obtain ⟨rows, k7, rfl, ⟨hk70, hk7L, rfl⟩, hR7, hb7⟩ := RdPost_s hp
                  obtain ⟨a7, c7, rows7, rfl, hjk⟩ := hR7.openT
                  rw [List.length_drop] at hrl2
                  have hk7I : ((k7 : Int) == 0) = false := by simp; omega
                  have hX7 := hd (show BoxN (w7.alloc (.cells #[.int .i64 t.of, .string t.name, .slice a7 t.parts.length c7] 41)) w7.heap.size [.int .i64 t.of, .string t.name, .slice a7 t.parts.length c7] from BoxN.new w7 _ _)
                  have hal7 := hd (hb7.next (below_a1 w7 (a := .cells #[.int .i64 t.of, .string t.name, .slice a7 t.parts.length c7] 41)))
                  have hxlt := hXb.out.2.2
                  have hzl := hBo.out.size
                  have hR8 := hd (RepZ.same (S' := fun b => wo.heap.size ≤ b ∧ b < w7.heap.size) (SameS.below (below_a1 w7 (a := .cells #[.int .i64 t.of, .string t.name, .slice a7 t.parts.length c7] 41)) (fun b hb => hb.2)) (fun b hb => hb) _ _ hR7)
                  have hz78 := (below_a1 w7 (a := .cells #[.int .i64 t.of, .string t.name, .slice a7 t.parts.length c7] 41)).size
                  clear hp hb7 hjk hR7
                  go_upto_region 18 with (fail)
                  generalize w7.alloc (.cells #[.int .i64 t.of, .string t.name, .slice a7 t.parts.length c7] 41) = w8 at *
                  have hXb8 := hd (hXb.out.below hal7.out)
                  have hO8 := hd (hO.out.below hal7.out)
                  have hS8 := hd ((hSep.out.below hal7.out).snoc hR8.out (fun b hb => ⟨by have := hb.1; omega, by have := hb.2; omega, by have := hb.1; omega, fun e => by have := (hO.out.lt b e).2; have := hb.1; omega⟩))
                  have hG8 := hd (grownBy_trans hG.out (below_grownBy hal7.out (some W3.heap.size)) (.inl rfl))
                  have hO8l : W4.heap.size ≤ w8.heap.size := by have := hal7.out.size; omega
                  have y2 := hXb8.out.1 2 _ rfl
                  have u0 := hX7.out.1 0 _ rfl; have u1 := hX7.out.1 1 _ rfl; have u2 := hX7.out.1 2 _ rfl
                  clear x2
                  go_wp2_with (at_builtin; refine wpList_appOwn rfl (.tmp 75) (.tmp 77) 39 rfl W4.heap.size 41 i0 _ 3 48 Tryd.underlying39 Hi.out Hz0.out Hz1.out Hz2.out rfl (by decide) _ rws [[.int .i64 t.of, .string t.name, .slice a7 t.parts.length c7]] rfl (hO8.out.below (below_a1 _)) _ 1 1 rfl rfl (one_row rfl) (cells_new _ _ _) rowT_one (by omega) (by decide) (by first | omega | exact Nat.le_refl _ | (simp; done) | (simp; omega)) ?_; intro s6 w6 ho6 hg6 hv6; obtain ⟨a6, c6, hs6, hjk⟩ := ho6.sl; clear hjk; rw [List.length_append, List.length_singleton, hrl] at hs6; subst hs6; have hX6 := hd ((hXb8.out.below (below_a1 _)).grown hg6 (by intro e; have := (hO8.out.lt _ e.symm).1; omega)); have y6 := hX6.out.1 2 _ rfl; have r6 := hX6.out.2.1 2; have hg6 := hd hg6; have hv6 := hd hv6; have ho6 := hd ho6; clear y2 u0 u1 u2)
                  have hne6 : ∀ g, (Value.slice a6 (j + 1) c6).ownBlock = some g → W4.heap.size ≤ g := fun g hg => (ho6.out.lt g hg).1
                  have hX9 := hd (hX6.out.set (i := 2) (by simp) (.slice a6 (j + 1) c6))
                  have hg9 := hd (grownBy_setCell w6 ⟨W3.heap.size, 2, none⟩ (.slice a6 (j + 1) c6))
                  have hO9 := hd (ho6.out.kept hg9.out (.inr (fun e => by have : W4.heap.size ≤ W3.heap.size := hne6 _ e; omega)))
                  have hS6 := hd ((hS8.out.below (below_a1 _)).grown hg6.out (.inr (.inr rfl)) (s' := .slice a6 (j + 1) c6) (hv6.out.imp id (fun e g hg => by rw [e] at hg; cases hg; exact Nat.le_refl _)))
                  have hS9 := hd (hS6.out.grown hg9.out (.inr (.inl rfl)) (s' := .slice a6 (j + 1) c6) (.inl rfl))
                  have hG9 := hd (grownBy_trans (grownBy_trans (grownBy_trans hG8.out (below_grownBy (below_a1 w8 (a := _)) (some W3.heap.size)) (.inl rfl)) hg6.out (.inr (fun g hg => by have := (hO8.out.lt g hg).1; omega))) hg9.out (.inl rfl))
                  go_wp2_with fail
                  go_roundw
                  case rel => exact ⟨j + 1, k7, ks ++ [t], rws ++ [[.int .i64 t.of, .string t.name, .slice a7 t.parts.length c7]], .slice a6 (j + 1) c6, rfl, by go_num, by omega, hk7L, by omega, ⟨hk70, by simp [hrl]⟩, hrd2, hX9, hO9, hS9, hG9⟩
                  case measure => simp [intOf]; omega
              · obtain rfl : j = m := by omega
                have hltI2 : ¬ (j : Int) < (j : Int) := by omega
                replace hrl := hd hrl
                have h0 := hd (show o = some (tmK 0 xn ks, L.drop k') by rw [hoN.out, hrd.out]; rfl)
                have hnode := hd (nodeZ (w := w) (rb := w.heap.size) (v := 0) (nm := xn) hXro.out.2.2 (Nat.le_refl _) hO.out (by omega) hSep.out)
                obtain ⟨aS, cS, rfl, hjk⟩ := hO.out.sl
                clear hjk
                have hgf := hd (grownBy_setCells w.heap.size [.int .i64 0, .string xn, .slice aS rws.length cS] wo 0)
                have hbf := hd (hBo.out.grown hgf.out hBo.out.size (fun g hg => by cases hg; exact Nat.le_refl _))
                have y0 := hXb.out.1 0 _ rfl; have y1 := hXb.out.1 1 _ rfl; have y2 := hXb.out.1 2 _ rfl
                have z0 := hXro.out.1 0 _ rfl; have rz0 := hXro.out.2.1 0; have z1 := hXro.out.1 1 _ rfl; have rz1 := hXro.out.2.1 1; have z2 := hXro.out.1 2 _ rfl; have rz2 := hXro.out.2.1 2
                go_wp2_with fail
                rw [h0.out]
                exact bodyPost_ret (v := .tuple #[.agg #[.int .i64 0, .string xn, .slice aS rws.length cS], .int .i64 (k' : Int)]) (by simp [results, Tryd.results30, go_sem, z0, z1, z2]) rfl ⟨[.int .i64 0, .string xn, .slice aS rws.length cS], k', rfl, ⟨hk1, hkL, rfl⟩, hnode.out, hbf.out⟩
      · have hvb : (xv != 0) = true := by simpa using hv
        have hoV := hd (hvar.out hv)
        have cw := hd (fun w' => within_s xv 1 6 w' (decide (1 ≤ xv ∧ xv ≤ 6)) rfl)
        clear hvar hnam hnc hmny
        replace hv := hd hv
        have z0 := hXr.out.1 0 _ rfl; have rz0 := hXr.out.2.1 0; have z1 := hXr.out.1 1 _ rfl; have rz1 := hXr.out.2.1 1; have z2 := hXr.out.1 2 _ rfl; have rz2 := hXr.out.2.1 2
        generalize decide (1 ≤ xv ∧ xv ≤ 6) = d1 at *
        cases d1 with
        | false =>
          have h0 := hd (show o = none by rw [hoV.out, hvc.out]; rfl)
          go_wp2_with fail
          refine (cw.out _).mono ?_
          rintro e w2 ⟨rfl, rfl⟩
          go_wp2_with fail
          rw [h0.out]
          exact bodyPost_ret (v := .tuple #[.agg #[.int .i64 0, .string ⟨#[]⟩, .slice none 0 0], .int .i64 0]) (by simp [results, Tryd.results30, go_sem, z0, z1, z2]) rfl (hret.out _ hB3.out)
        | true =>
          cases hem : xn.toList.isEmpty with
          | false =>
            have h0 := hd (show o = none by rw [hoV.out, hvc.out, hem]; rfl)
            go_wp2_with fail
            refine (cw.out _).mono ?_
            rintro e w2 ⟨rfl, rfl⟩
            go_wp2_with fail
            rw [h0.out]
            exact bodyPost_ret (v := .tuple #[.agg #[.int .i64 0, .string ⟨#[]⟩, .slice none 0 0], .int .i64 0]) (by simp [results, Tryd.results30, go_sem, z0, z1, z2]) rfl (hret.out _ hB3.out)
          | true =>
            cases hmz : (xm == 0) with
            | false =>
              have h0 := hd (show o = none by rw [hoV.out, hvc.out, hem, hmz]; rfl)
              have hmzb : (xm != 0) = true := by simpa using hmz
              go_wp2_with fail
              refine (cw.out _).mono ?_
              rintro e w2 ⟨rfl, rfl⟩
              go_wp2_with fail
              rw [h0.out]
              exact bodyPost_ret (v := .tuple #[.agg #[.int .i64 0, .string ⟨#[]⟩, .slice none 0 0], .int .i64 0]) (by simp [results, Tryd.results30, go_sem, z0, z1, z2]) rfl (hret.out _ hB3.out)
            | true =>
              have h0 := hd (show o = some (tmK xv ⟨#[]⟩ [], L.drop (k + 1)) by rw [hoV.out, hvc.out, hem, hmz]; rfl)
              have hmzb : (xm != 0) = false := by simpa using hmz
              have hnode := hd (nodeZ (w := w) (wr := W3) (rb := w.heap.size) (xb := w.heap.size) (E := 41) (B := w.heap.size + 1) (v := xv) (nm := ⟨#[]⟩) (ks := []) (rws := []) (sk := .slice none 0 0) hXr.out.2.2 (Nat.le_refl _) Own.nil (Nat.lt_succ_self _) SepZ.nil)
              have hkw : IntKind.i64.wrap ((k : Int) + 1) = ((k + 1 : Nat) : Int) := by rw [IntWalk.i64_in _ (by omega)]; omega
              go_wp2_with fail
              refine (cw.out _).mono ?_
              rintro e w2 ⟨rfl, rfl⟩
              go_wp2_with fail
              rw [h0.out]
              refine bodyPost_ret (v := .tuple #[.agg #[.int .i64 xv, .string ⟨#[]⟩, .slice none 0 0], .int .i64 ((k : Int) + 1)]) (by simp [results, Tryd.results30, go_sem, z0, z1, z2]) rfl ⟨[.int .i64 xv, .string ⟨#[]⟩, .slice none 0 0], k + 1, by go_num, ⟨by omega, by omega, rfl⟩, hnode.out, ?_⟩
              exact hB3.out.grown (grownBy_setCells w.heap.size [.int .i64 xv, .string ⟨#[]⟩, .slice none 0 0] W3 0) hB3.out.size (fun g hg => by cases hg; exact Nat.le_refl _)
    · obtain rfl : k = L.length := by omega
      have hge : ¬ (L.length : Int) < (L.length : Int) := by omega
      rw [List.drop_length, rdT_nil]
      go_enter Tryd.func30, Tryd.ntmps30
      go_upto_region 1 with (fail)
      generalize w.alloc (.cells #[.int .i64 0, .string ⟨#[]⟩, .slice none 0 0] 41) = W at *
      have z0 := hX.out.1 0 _ rfl; have rz0 := hX.out.2.1 0; have z1 := hX.out.1 1 _ rfl; have rz1 := hX.out.2.1 1; have z2 := hX.out.1 2 _ rfl; have rz2 := hX.out.2.1 2
      go_wp2_with fail
      exact bodyPost_ret (v := .tuple #[.agg #[.int .i64 0, .string ⟨#[]⟩, .slice none 0 0], .int .i64 0]) (by simp [results, Tryd.results30, go_sem, z0, z1, z2]) rfl (hret.out _ hbW.out)
end Go.Proofs.YtbjilpemckoioaaDoor

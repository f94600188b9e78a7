/- slices.DeleteFunc of numbers of the call's own; ComposeNos of the program. -/
import Derived.Test.YtaadjpdghikkmaaNos
import Derived.Lib.SliceRun
namespace Go.Proofs.Ytaadjpdghikkmaa
open Go.RowKit
set_option linter.unusedVariables false
set_option maxRecDepth 100000
theorem encI_one (l : List Int) : ∀ u ∈ (l.map encI).flatten, u.oneCell' = true := by
  intro u hu
  obtain ⟨r, hr, hu⟩ := List.mem_flatten.1 hu
  obtain ⟨x, _, rfl⟩ := List.mem_map.1 hr
  simp only [encI, List.mem_cons, List.not_mem_nil, or_false] at hu
  rcases hu with rfl <;> rfl
set_option maxHeartbeats 800000 in
theorem clone_int (l : List Int) (v : Value) (w : World) (hl : l.length ≤ 1000000000) (h : Sl w v 1 (l.map encI)) :
    Calls Try.prog 75 #[v] w (OwnVPost 3 1 (l.map encI) w) := by
  obtain ⟨i0, hi, hz0, hz1, hz2⟩ := info_parts infoInt
  have Hi := hd hi; have Hz0 := hd hz0; have Hz1 := hd hz1; have Hz2 := hd hz2
  have hls := hd (encI_len l)
  have hone := hd (encI_one l)
  clear hi hz0 hz1 hz2
  have kn := fun (w : World) (a : Option Addr) (n c : Nat) => Lib.run_eql_slice_nil (P := Try.prog) w 36 3 a n c 0 0 Try.underlying36
  rcases h.open with ⟨a1, c1, rfl, hr⟩ | ⟨b1, o1, c1, rfl, hr, C1⟩
  · obtain rfl : l = [] := by simpa using hr
    cases a1 with
    | none =>
      go_enter Try.func75, Try.ntmps75
      go_wp2_with fail
      go_ret
      exact ⟨_, rfl, Own.nil, Below.refl _ _⟩
    | some a1 =>
      go_enter Try.func75, Try.ntmps75
      go_wp2_with (at_builtin; refine wpList_appOwn rfl (.tmp 5) (.tmp 6) 36 rfl w.heap.size 3 i0 _ 1 8 Try.underlying36 Hi.out Hz0.out Hz1.out Hz2.out rfl (by decide) _ [] [] rfl (own_made w 3 1) a1 0 c1 rfl rfl (by simp) (by simp) (by simp) (by simp) (by decide) (by simp) ?_; intro v2 w2 ho hg hb; replace ho := hd ho; replace hg := hd hg; clear hb)
      go_ret
      exact ⟨_, rfl, ho.out, below_made hg.out (by intro g hg; cases hg; exact Nat.le_refl _)⟩
  · have hC := hd ((C1.mono (below_a1 w (a := .cells #[] 3))).flat hls.out)
    clear h
    simp only [List.length_map]
    go_enter Try.func75, Try.ntmps75
    go_wp2_with (at_builtin; refine wpList_appOwn rfl (.tmp 5) (.tmp 6) 36 rfl w.heap.size 3 i0 _ 1 8 Try.underlying36 Hi.out Hz0.out Hz1.out Hz2.out rfl (by decide) _ [] (l.map encI) rfl (own_made w 3 1) ⟨b1, o1, none⟩ l.length c1 (by rw [List.length_map]) rfl hls.out hC.out hone.out (by simp; omega) (by decide) (by simp) ?_; intro v2 w2 ho hg hb; replace ho := hd ho; replace hg := hd hg; clear hb)
    go_ret
    exact ⟨_, rfl, ho.out, below_made hg.out (by intro g hg; cases hg; exact Nat.le_refl _)⟩
set_option maxHeartbeats 800000 in
theorem ix_cmp (cv : Value) (p : Int → Bool) (l : List Int) (v : Value) (w : World) (hl : l.length ≤ 1000000000000) (h : Sl w v 1 (l.map encI))
    (hp : ∀ x ∈ l, ∀ w', Below w.heap.size w w' → Calls Try.prog 76 #[.int .i64 x, cv] w' (BoolPost (p x) w')) :
    Calls Try.prog 111 #[v, .func (.func 76) #[] #[cv]] w (IntPost (fidx p l) w) := by
  replace hp := hd hp
  rcases h.open with ⟨a1, c1, rfl, hr⟩ | ⟨b1, o1, c1, rfl, hr, C1⟩
  · obtain rfl : l = [] := by simpa using hr
    go_enter Try.func111, Try.ntmps111
    go_wp2
    go_loopw [8] (fun i wr => i = .int .i64 0 ∧ wr = w) (fun _ _ => 0)
    case atStart => exact ⟨rfl, rfl⟩
    case round =>
      obtain ⟨rfl, rfl⟩ := hrel
      go_wp2_with fail
      go_ret
      exact ⟨rfl, Below.refl _ _⟩
  · clear h
    simp only [List.length_map]
    go_enter Try.func111, Try.ntmps111
    go_wp2
    go_loopw [8] (fun i wr => ∃ k : Nat, k ≤ l.length ∧ i = .int .i64 k ∧ Hd (fidx_from p l k) ∧ Hd (Below w.heap.size w wr)) (fun i _ => l.length - (intOf i).toNat)
    case atStart => exact ⟨0, Nat.zero_le _, rfl, fidx_zero p l, Below.refl _ _⟩
    case round =>
      obtain ⟨k, hk, rfl, hfx, hbl⟩ := hrel
      by_cases hlt : k < l.length
      · have f0 := Cells.rowI l k hlt (C1.mono hbl.out)
        cases hpx : p l[k] with
        | true =>
          replace hpx := hd hpx
          go_wp2_with fail
          refine (hp.out l[k] (List.getElem_mem hlt) _ hbl.out).mono ?_
          rw [hpx.out]
          rintro e w2 ⟨rfl, hb⟩
          have hb2 := hd (hbl.out.next hb)
          clear hb
          go_wp2_with fail
          go_ret
          exact ⟨ret_int (fidx_hit hlt hfx.out hpx.out).symm, hb2.out⟩
        | false =>
          replace hpx := hd hpx
          go_wp2_with fail
          refine (hp.out l[k] (List.getElem_mem hlt) _ hbl.out).mono ?_
          rw [hpx.out]
          rintro e w2 ⟨rfl, hb⟩
          have hb2 := hd (hbl.out.next hb)
          clear hb
          go_wp2_with fail
          go_roundw
          case rel => exact ⟨k + 1, by omega, by go_num, fidx_step hlt hfx.out hpx.out, hb2⟩
          case measure => simp [intOf]; omega
      · go_wp2_with fail
        go_ret
        exact ⟨ret_int (fidx_none (by omega) hfx.out).symm, hbl.out⟩
theorem cn_cl (m : List Int) (hm : m.length ≤ 1000000000) (u : Value) (x : Int) (bk : Nat) (w : World) (hu : Sl w u 1 (m.map encI)) (hq : w.cell? ⟨bk, 0, none⟩ = some u) :
    Calls Try.prog 76 #[.int .i64 x, .pointer (some ⟨bk, 0, none⟩)] w (fun e w' => e = .returned (.bool (!hasB m x)) ∧ w = w') := by
  have c1 := hd (fun w h => contains_int m x u w (by omega) h _ rfl)
  have hU := hd hu
  obtain ⟨a1, k1, rfl, _⟩ := hu
  simp only [List.length_map] at *
  go_enter Try.func76, Try.ntmps76
  go_wp2_with fail
  refine (c1.out _ hU.out).mono ?_
  rintro e w2 ⟨rfl, rfl⟩
  go_wp2_with fail
  go_ret
  exact ⟨rfl, rfl⟩
theorem setCells_eq (g : Nat) : ∀ (us : List Value) (p : Nat) (w : World), w.setCells g p us = setCells w g p us
  | [], _, _ => rfl
  | u :: us, p, w => setCells_eq g us (p + 1) _
theorem ownsRow_pre {w : World} {B E sz g n cap m c : Nat} {xs : List Value} (h : w.ownsRow B E sz (.slice (some ⟨g, 0, none⟩) n cap) n xs) (hm : m ≤ n) : w.ownsRow B E sz (.slice (some ⟨g, 0, none⟩) m cap) m (xs.take (m * sz)) := by
  have hl := h.1
  have h2 : m * sz ≤ n * sz := Nat.mul_le_mul_right _ hm
  refine ⟨by rw [List.length_take]; omega, .inr ?_⟩
  rcases h.2 with ⟨h0, _⟩ | ⟨g', cap', cur, e, h1, h3, h4, h5, h6, h7⟩
  · cases h0
  · cases e
    exact ⟨g, cap, cur, rfl, h1, h3, Nat.le_trans hm h4, h5, h6, by rw [← h7, List.take_take]; congr 1; omega⟩
def keepN (p : Int → Bool) (l : List Int) : List Int := l.filter fun x => !p x
theorem keep_pos {p : Int → Bool} {l : List Int} {j : Nat} (hj : j < l.length) (h : p l[j] = false) : keepN p (l.take (j + 1)) = keepN p (l.take j) ++ [l[j]] := by
  rw [List.take_succ_eq_append_getElem hj, keepN, List.filter_append]; simp [keepN, h]
theorem keep_neg {p : Int → Bool} {l : List Int} {j : Nat} (hj : j < l.length) (h : p l[j] = true) : keepN p (l.take (j + 1)) = keepN p (l.take j) := by
  rw [List.take_succ_eq_append_getElem hj, keepN, List.filter_append]; simp [keepN, h]
theorem keep_all {p : Int → Bool} {l : List Int} (h : ∀ i (hi : i < l.length), p l[i] = false) : keepN p l = l := by
  rw [keepN, List.filter_eq_self]
  intro x hx
  obtain ⟨i, hi, rfl⟩ := List.mem_iff_getElem.1 hx
  simp [h i hi]
theorem keep_upto {p : Int → Bool} {l : List Int} {k : Nat} (h : ∀ i (hi : i < l.length), i < k → p l[i] = false) : keepN p (l.take k) = l.take k :=
  keep_all fun i hi => by rw [List.getElem_take]; rw [List.length_take] at hi; exact h i (by omega) (by omega)
/-- What the round of DeleteFunc holds: ys has what is kept ahead, and the old ones from j on. -/
def Del (p : Int → Bool) (l : List Int) (i j : Nat) (ys : List Int) : Prop := ys.length = l.length ∧ ys.take i = keepN p (l.take j) ∧ ys.drop j = l.drop j ∧ i < j ∧ j ≤ l.length
theorem Del.at {p : Int → Bool} {l ys : List Int} {i j : Nat} (h : Del p l i j ys) (hj : j < l.length) : ys[j]'(by rw [h.1]; exact hj) = l[j] := by
  have h2 := congrArg (fun x : List Int => x[0]?) h.2.2.1
  simp only [List.getElem?_drop, Nat.add_zero] at h2
  rw [List.getElem?_eq_getElem (by rw [h.1]; exact hj), List.getElem?_eq_getElem hj] at h2
  exact Option.some.inj h2
theorem Del.skip {p : Int → Bool} {l ys : List Int} {i j : Nat} (h : Del p l i j ys) (hj : j < l.length) (hp : p l[j] = true) : Del p l i (j + 1) ys := by
  obtain ⟨h1, h2, h3, h4, h5⟩ := h
  refine ⟨h1, by rw [keep_neg hj hp]; exact h2, ?_, by omega, by omega⟩
  have := congrArg (List.drop 1) h3
  rwa [List.drop_drop, List.drop_drop] at this
theorem Del.keep {p : Int → Bool} {l ys : List Int} {i j : Nat} (h : Del p l i j ys) (hj : j < l.length) (hp : p l[j] = false) : Del p l (i + 1) (j + 1) (ys.set i l[j]) := by
  obtain ⟨h1, h2, h3, h4, h5⟩ := h
  refine ⟨by rw [List.length_set]; exact h1, ?_, ?_, by omega, by omega⟩
  · rw [keep_pos hj hp, ← h2, List.take_succ_eq_append_getElem (by rw [List.length_set]; omega), List.take_set_of_le (Nat.le_refl _)]
    simp
  · rw [List.drop_set_of_lt (by omega)]
    have := congrArg (List.drop 1) h3
    rwa [List.drop_drop, List.drop_drop] at this
def iv (n : Int) : Value := .int .i64 n
theorem iv_flat (l : List Int) : (l.map encI).flatten = l.map iv := by
  induction l with
  | nil => rfl
  | cons a l ih => simp [encI, iv, ih]
theorem iv_at {us : List Int} {p : Nat} (h : p < us.length) : (us.map iv)[p]? = some (.int .i64 us[p]) := by simp [h, iv]
theorem zero_int (w : World) : (zeroValue 3).run Try.prog w = .ok (.int .i64 0) w := by kernel_rfl
def DelPost (B : Nat) (v : Value) (l : List Int) (w : World) (e : Ending) (w' : World) : Prop :=
  ∃ v', e = .returned v' ∧ Own w' B 3 1 v' (l.map encI) ∧ w.grownBy w' v.ownBlock ∧ v'.ownBlock = v.ownBlock
set_option maxHeartbeats 1600000 in
theorem delfunc (p : Int → Bool) (l : List Int) (v cv : Value) (w : World) (B : Nat) (hl : l.length ≤ 1000000000) (ho : Own w B 3 1 v (l.map encI))
    (hp : ∀ x w', w.grownBy w' v.ownBlock → Calls Try.prog 76 #[.int .i64 x, cv] w' (fun e w2 => e = .returned (.bool (p x)) ∧ w' = w2)) :
    Calls Try.prog 74 #[v, .func (.func 76) #[] #[cv]] w (DelPost B v (keepN p l) w) := by
  have cx := hd (ix_cmp cv p l v w (by omega) ho.sl (fun x _ w' hb => (hp x w' (below_grownBy hb _)).mono fun e w2 ⟨h1, h2⟩ => ⟨h1, by subst h2; exact Below.refl _ _⟩))
  have hO := hd ho
  have hrow := own_flat ho
  rw [List.length_map, iv_flat] at hrow
  replace hrow := hd hrow
  replace hp := hd hp
  rcases hrow.out.2 with ⟨rfl, hn⟩ | ⟨g, cap, cur, rfl, hbg, hg, hnc, hcm, hr⟩
  · obtain rfl : l = [] := List.eq_nil_of_length_eq_zero hn
    have hfx : fidx p ([] : List Int) = -1 := rfl
    rw [hfx] at cx
    go_enter Try.func74, Try.ntmps74
    go_wp2_with fail
    refine cx.out.mono ?_
    rintro e w2 ⟨rfl, hb2⟩
    replace hb2 := hd hb2
    go_wp2_with fail
    go_ret
    exact ⟨_, rfl, hO.out.below hb2.out, below_grownBy hb2.out _, rfl⟩
  · clear ho hr
    generalize hf : fidx p l = f at *
    replace hf := hd hf
    by_cases hneg : f = -1
    · subst hneg
      have hk := hd (show keepN p l = l by
        refine keep_all fun i hi => ?_
        cases e : p l[i] with
        | false => rfl
        | true => have := (fidx_any p l).2 (List.any_eq_true.2 ⟨_, List.getElem_mem hi, e⟩); rw [hf.out] at this; omega)
      go_enter Try.func74, Try.ntmps74
      go_wp2_with fail
      refine cx.out.mono ?_
      rintro e w2 ⟨rfl, hb2⟩
      replace hb2 := hd hb2
      go_wp2_with fail
      go_ret
      exact ⟨_, rfl, by rw [hk.out]; exact hO.out.below hb2.out, below_grownBy hb2.out _, rfl⟩
    · have hfi : f = (l.findIdx p : Int) ∧ l.findIdx p < l.length := by
        have := hf.out
        rw [fidx] at this
        split at this
        · exact ⟨this.symm, by assumption⟩
        · exact absurd this.symm hneg
      obtain ⟨hf1, hflt⟩ := hfi
      have hpi := hd (List.findIdx_getElem (w := hflt))
      have hlo := hd (fun i (hi : i < l.length) (h : i < l.findIdx p) => (by simpa using List.not_of_lt_findIdx h : p l[i] = false))
      generalize l.findIdx p = f0 at *
      subst hf1
      have hD := hd (show Del p l f0 (f0 + 1) l from ⟨rfl, by rw [keep_neg hflt hpi.out, keep_upto hlo.out], rfl, by omega, by omega⟩)
      clear hlo hpi hf
      have hne : ((f0 : Int) == -1) = false := by first | (simp; done) | (simp; omega)
      go_enter Try.func74, Try.ntmps74
      go_wp2_with fail
      refine cx.out.mono ?_
      rintro e w2 ⟨rfl, hb2⟩
      have hR2 := hd (ownsRow_below0 hrow.out hb2)
      replace hb2 := hd hb2
      go_wp2_with fail
      go_loopw [5, 6] (fun i j wr => ∃ (a b : Nat) (ys : List Int), i = .int .i64 a ∧ j = .int .i64 b ∧ a < b ∧ b ≤ l.length ∧ Hd (Del p l a b ys) ∧ Hd (wr.ownsRow B 3 1 (.slice (some ⟨g, 0, none⟩) l.length cap) l.length (ys.map iv)) ∧ Hd (w.grownBy wr (some g))) (fun _ j _ => l.length - (intOf j).toNat)
      case atStart => exact ⟨f0, f0 + 1, l, rfl, by go_num, by omega, by omega, hD, hR2, below_grownBy hb2.out _⟩
      case round =>
        obtain ⟨a, b, ys, rfl, rfl, hab, hbl, hdel, hown, hgr⟩ := hrel
        have hyl := hdel.out.1
        by_cases hlt : b < l.length
        · have hltI : (b : Int) < (l.length : Int) := by omega
          have hyb := hdel.out.at hlt
          have f1 : wr.cell? ⟨g, b, none⟩ = some (.int .i64 l[b]) := by rw [hown.out.cellAt b (by omega), iv_at (by omega), hyb]
          have hcall := hd (hp.out l[b] wr hgr.out)
          clear hyb
          cases hq : p l[b] with
          | true =>
            have hd2 := hd (hdel.out.skip hlt hq)
            rw [hq] at hcall
            clear hq
            go_wp2_with fail
            refine hcall.out.mono ?_
            rintro e w3 ⟨rfl, rfl⟩
            go_wp2_with fail
            go_roundw
            case rel => exact ⟨a, b + 1, ys, rfl, by go_num, by omega, by omega, hd2, hown, hgr⟩
            case measure => simp [intOf]; omega
          | false =>
            have hd2 := hd (hdel.out.keep hlt hq)
            rw [hq] at hcall
            clear hq
            have haI : (a : Int) < (l.length : Int) := by omega
            have q5 : wr.cell? ⟨g, a, none⟩ = some (.int .i64 (ys[a]'(by omega))) := by rw [hown.out.cellAt a (by omega), iv_at (by omega)]
            have r5 := hown.out.frozenAt a
            have hst := hd (hown.out.stored a (.int .i64 l[b]))
            have hset := hd (show (ys.map iv).set a (.int .i64 l[b]) = (ys.set a l[b]).map iv by rw [List.map_set]; rfl)
            go_wp2_with fail
            refine hcall.out.mono ?_
            rintro e w3 ⟨rfl, rfl⟩
            go_wp2_with fail
            go_roundw
            case rel => exact ⟨a + 1, b + 1, ys.set a l[b], by go_num, by go_num, by omega, by omega, hd2, by rw [← hset.out]; exact hst.out.1, grownBy_trans hgr.out hst.out.2 (.inl rfl)⟩
            case measure => simp [intOf]; omega
        · obtain rfl : b = l.length := by omega
          have hltI : ¬ (l.length : Int) < (l.length : Int) := by omega
          have haI : (a : Int) < (l.length : Int) := by omega
          have haC : a < cap := by omega
          have hcl : ∀ ty, (Builtin.clear_ #[36] ty #[.slice (some ⟨g, a, none⟩) (l.length - a) (cap - a)]).run Try.prog wr = .ok (.tuple #[]) (wr.setCells g a (List.replicate (l.length - a) (.int .i64 0))) :=
            fun ty => Lib.run_clear_slice wr _ _ ty (.int .i64 0) Try.underlying36 zero_int rfl rfl g a _ _ (by omega) (fun j hj => by rw [hown.out.cellAt (a + j) (by omega), iv_at (by omega)]; rfl) (fun j hj => hown.out.frozenAt _)
          have hst := ownsRow_setCells (List.replicate (l.length - a) (.int .i64 0)) wr (ys.map iv) a hown.out
          rw [← setCells_eq] at hst
          have hown2 := hd (ownsRow_pre hst.1 (show a ≤ l.length by omega) (c := cap))
          have hgr2 := hd (grownBy_trans hgr.out hst.2 (.inl rfl))
          have htk := hd (show (setL (ys.map iv) a (List.replicate (l.length - a) (.int .i64 0))).take (a * 1) = ((keepN p l).map encI).flatten by
            rw [iv_flat]
            have h2 := hdel.out.2.1
            rw [List.take_length] at h2
            rw [← h2]
            apply List.ext_getElem?
            intro i
            by_cases hi : i < a
            · rw [List.getElem?_take_of_lt (by omega), setL_lt _ _ _ _ hi, List.map_take, List.getElem?_take_of_lt hi]
            · rw [List.getElem?_eq_none (by rw [List.length_take]; omega), List.getElem?_eq_none (by rw [List.length_map, List.length_take]; omega)])
          have hkl := hd (show ((keepN p l).map encI).length = a by
            have h2 := congrArg List.length hdel.out.2.1
            rw [List.take_length, List.length_take] at h2
            rw [List.length_map]; omega)
          clear hst
          go_wp2_with (simp only [hcl])
          go_ret
          refine ⟨_, rfl, own_mk (by intro r hr; obtain ⟨x, _, rfl⟩ := List.mem_map.1 hr; rfl) ?_, hgr2.out, rfl⟩
          rw [hkl.out, ← htk.out]; exact hown2.out
end Go.Proofs.Ytaadjpdghikkmaa

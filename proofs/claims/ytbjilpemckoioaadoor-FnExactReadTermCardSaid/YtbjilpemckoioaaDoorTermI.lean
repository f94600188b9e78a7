/- A term out of cells: treeFrom, treeOf, GoodTerm of the program. -/
import Derived.Test.YtbjilpemckoioaaDoorTm
import Derived.Test.YtbjilpemckoioaaDoorKindABC
import Derived.RegionTactic
import Derived.BigRegion
import Derived.Deep.Cut
import Derived.Deep.CutRange
namespace Go.Proofs.YtbjilpemckoioaaDoor
open Go.RowKit
set_option linter.unusedVariables false
set_option maxRecDepth 100000
def HT (t : K) : List Value := [.int .i64 t.of, .string t.name]
theorem infoTree : (Tryd.prog.info? 46).map (fun i => (i.zero, i.size, i.bytes)) = some (some (.pointer none), 1, 8) := by kernel_rfl
theorem one_ptrT (b : Nat) : ∀ u ∈ [encV (.pointer (some ⟨b, 0, none⟩))].flatten, u.oneCell' = true := by
  intro u hu; simp [encV] at hu; subst hu; rfl
/-- New blocks, from a world to another. -/
def NewB (w w' : World) (b : Nat) : Prop := w.heap.size ≤ b ∧ b < w'.heap.size
/-- Cells that lie in a block. -/
def SlP (w : World) (b1 : Nat) (a : Option Addr) (l : List DCell) : Prop := l = [] ∨ ∃ o, a = some ⟨b1, o, none⟩ ∧ Cells w b1 o 3 (l.map DCell.enc)
theorem SlP.mono {w w' : World} {b1 : Nat} {a : Option Addr} {l : List DCell} (h : SlP w b1 a l) (hb : Below w.heap.size w w') : SlP w' b1 a l :=
  h.imp id fun ⟨o, e, C⟩ => ⟨o, e, C.mono hb⟩
theorem SlP.back {w w' : World} {b1 : Nat} {a : Option Addr} {l : List DCell} (h : SlP w' b1 a l) (hb : Below w.heap.size w w') (hb1 : b1 < w.heap.size) : SlP w b1 a l :=
  h.imp id fun ⟨o, e, C⟩ => ⟨o, e, hb1, fun i r hr j u hu => by rw [← hb.cell (p := ⟨b1, _, none⟩) hb1]; exact C.2 i r hr j u hu⟩
def TfPost (b1 : Nat) (o : Option (K × List DCell)) (w : World) (e : Ending) (w' : World) : Prop := match o with
  | none => e = .returned (.tuple #[.pointer none, .slice none 0 0]) ∧ Below w.heap.size w w'
  | some (t, r) => ∃ v a c, e = .returned (.tuple #[v, .slice a r.length c]) ∧ RepY HT w' (NewB w w') t v ∧ (SlP w b1 a r ∧ r.length ≤ c) ∧ Below w.heap.size w w'
theorem TfPost_n {b1 : Nat} {w w' : World} {e : Ending} (h : TfPost b1 none w e w') : e = .returned (.tuple #[.pointer none, .slice none 0 0]) ∧ Below w.heap.size w w' := h
theorem TfPost_s {b1 : Nat} {t : K} {r : List DCell} {w w' : World} {e : Ending} (h : TfPost b1 (some (t, r)) w e w') : ∃ v a c, e = .returned (.tuple #[v, .slice a r.length c]) ∧ RepY HT w' (NewB w w') t v ∧ (SlP w b1 a r ∧ r.length ≤ c) ∧ Below w.heap.size w w' := h
/-- What follows the first element of a slice. -/
theorem SlP_tail {w : World} {b1 : Nat} {a : Option Addr} {x : DCell} {l : List DCell} (h : SlP w b1 a (x :: l)) :
    ∃ o, a = some ⟨b1, o, none⟩ ∧ Cells w b1 o 3 ((x :: l).map DCell.enc) ∧ ∀ A, (A = some ⟨b1, o, none⟩ ∧ l.length = 0 ∨ A = some ⟨b1, o + 3, none⟩) → SlP w b1 A l := by
  rcases h with hr | ⟨o, e, C⟩
  · simp at hr
  · refine ⟨o, e, C, fun A hA => ?_⟩
    rcases hA with ⟨rfl, h0⟩ | rfl
    · exact .inl (List.eq_nil_of_length_eq_zero h0)
    · refine .inr ⟨o + 3, rfl, C.1, fun i r hr j u hu => ?_⟩
      have := C.2 (i + 1) r (by rw [List.map_cons, List.getElem?_cons_succ]; exact hr) j u hu
      rw [show o + 3 + i * 3 + j = o + (i + 1) * 3 + j by omega]
      exact this
theorem tailT_run (b o n c : Nat) (hc : n + 1 ≤ c) : ∃ A : Option Addr, (A = some ⟨b, o, none⟩ ∧ n = 0 ∨ A = some ⟨b, o + 3, none⟩) ∧ ∀ w : World, (Instr.sliceAt 28 (.slice (some ⟨b, o, none⟩) (n + 1) c) (some (.int .i64 1)) none none).run Tryd.prog w = .ok (.slice A n (c - 1)) w := by
  refine ⟨if c = 1 then some ⟨b, o, none⟩ else some ⟨b, o + 3, none⟩, ?_, fun w => ?_⟩
  · by_cases h : c = 1
    · left; rw [if_pos h]; exact ⟨rfl, by omega⟩
    · right; rw [if_neg h]
  · by_cases h : c = 1
    · obtain rfl : n = 0 := by omega
      subst h; clear hc; go_simp
    · clear hc; go_simp; intro h2; omega
theorem TmKids_le {x : DCell} (h : nmC x = true) : 0 ≤ x.many ∧ x.many ≤ 5 := by
  rw [nmC, Bool.and_eq_true, Bool.and_eq_true] at h
  exact of_decide_eq_true h.2.2
theorem sz_emp (s : ByteArray) : decide (s.size = 0) = s.toList.isEmpty := by
  rw [Bool.eq_iff_iff, emp_iff, decide_eq_true_eq]
  constructor
  · intro h
    have : s.data.toList = [] := List.eq_nil_of_length_eq_zero (by rw [← h]; rfl)
    rw [← mkS_toList s, this]
  · rintro rfl; rfl
theorem BoxN.set {w : World} {b i : Nat} {cs : List Value} (h : BoxN w b cs) (hi : i < cs.length) (u : Value) : BoxN (w.setCell ⟨b, i, none⟩ u) b (cs.set i u) := by
  refine ⟨fun j x hx => ?_, fun j => by rw [World.frozen?_setCell]; exact h.2.1 j, Nat.lt_of_lt_of_le h.2.2 (grownBy_setCell w ⟨b, i, none⟩ u).size⟩
  by_cases e : j = i
  · subst e
    rw [List.getElem?_set_self hi] at hx
    cases hx
    exact World.cell?_setCell_same _ _ _ (h.1 j _ (List.getElem?_eq_getElem hi))
  · rw [List.getElem?_set_ne (Ne.symm e)] at hx
    rw [World.cell?_setCell_other _ _ _ _ (by intro e2; cases e2; exact e rfl)]
    exact h.1 j x hx
/-- A node of its own, made whole. -/
theorem nodeY {w wr : World} {xb E B : Nat} {v : Int} {nm : ByteArray} {ks : List K} {vs : List Value} {sk : Value} (hX : BoxN wr xb [.int .i64 v, .string nm, sk]) (hx : w.heap.size ≤ xb) (hO : Own wr B E 1 sk (vs.map encV)) (hB : w.heap.size ≤ B) (hS : SepY HT wr (fun b => w.heap.size ≤ b) xb sk ks vs) :
    RepY HT wr (NewB w wr) (tmK v nm ks) (.pointer (some ⟨xb, 0, none⟩)) := by
  refine RepY.mk (s := sk) (vs := vs) ⟨hx, hX.2.2⟩ (fun j u hu => hX.1 j u hu) (PSlS.own hO (fun g hg => ?_)) ?_
  · have := hO.lt g hg
    exact ⟨by omega, this.2⟩
  · exact hS.rep
set_option maxHeartbeats 6400000 in
theorem treeFrom_i (b1 : Nat) : ∀ (n : Nat) (l : List DCell) (a : Option Addr) (c : Nat) (w : World), l.length ≤ n → n ≤ 1000 → l.length ≤ c → (∀ x ∈ l, x.name.size ≤ 1000000000000) → SlP w b1 a l →
    Calls Tryd.prog 33 #[.slice a l.length c] w (TfPost b1 (rdT n l) w) := by
  intro n
  induction n with
  | zero =>
    intro l a c w hl _ _ _ _
    obtain rfl : l = [] := List.eq_nil_of_length_eq_zero (by omega)
    go_enter Tryd.func33, Tryd.ntmps33
    go_wp2_with fail
    go_ret2
    exact ⟨rfl, Below.refl _ _⟩
  | succ n ih =>
    intro l a c w hl hn hc hnm hS
    replace ih := hd ih
    cases l with
    | nil =>
      rw [rdT_nil]
      go_enter Tryd.func33, Tryd.ntmps33
      go_wp2_with fail
      go_ret2
      exact ⟨rfl, Below.refl _ _⟩
    | cons x l =>
      rw [List.length_cons] at hl hc ⊢
      obtain ⟨o1, rfl, C, htl⟩ := SlP_tail hS
      obtain ⟨A, hA, hrun⟩ := tailT_run b1 o1 l.length c hc
      have hT := hd (htl A hA)
      obtain ⟨f0, f1, f2⟩ := Cells.rowCell (x :: l) 0 (by simp) C
      simp only [List.getElem_cons_zero, Nat.zero_mul, Nat.add_zero] at f0 f1 f2
      have hlI : ((l.length : Int) + 1 == 0) = false := by simp; omega
      have hlI2 : (0 : Int) < (l.length : Int) + 1 := by omega
      have hxn := hnm x (by simp)
      have hnl := hd (fun y hy => hnm y (List.mem_cons_of_mem x hy))
      have hlc : l.length ≤ c - 1 := by omega
      have hb1w : b1 < w.heap.size := C.1
      have hvar := hd (fun (h : x.var ≠ 0) => rdT_var (n := n) (r := l) h)
      have hnam := hd (fun (h : x.var = 0) => rdT_name (n := n) (r := l) h)
      obtain ⟨o, ho⟩ : ∃ o, rdT (n + 1) (x :: l) = o := ⟨_, rfl⟩
      rw [ho] at hvar hnam ⊢
      have hvc := hd (show varC x = (decide (1 ≤ x.var ∧ x.var ≤ 6) && (x.name.toList.isEmpty && (x.many == 0))) by rw [varC, sz_emp]; rfl)
      have hnc := hd (show nmC x = (nameB x.name && (decide (x.name.size ≤ 4) && decide (0 ≤ x.many ∧ x.many ≤ 5))) from rfl)
      have hmny := hd (fun (h : nmC x = true) => TmKids_le h)
      clear htl hA hS hnm ho C
      generalize hvC : varC x = vc at *
      generalize hnC : nmC x = nc at *
      clear hvC hnC
      obtain ⟨xv, xn, xm⟩ := x
      dsimp only at *
      have hX := hd (show BoxN ((w.alloc (.cells #[.int .i64 xv, .string xn, .int .i64 xm] 64)).drew) w.heap.size [.int .i64 xv, .string xn, .int .i64 xm] from (BoxN.new w _ _).drew)
      have hbW := hd ((below_a1 w (a := .cells #[.int .i64 xv, .string xn, .int .i64 xm] 64)).drew)
      have hsW : ((w.alloc (.cells #[.int .i64 xv, .string xn, .int .i64 xm] 64)).drew).heap.size = w.heap.size + 1 := by simp
      have k0 := fun o => keepCell (below_a1 w (a := o)) f0
      have k1 := fun o => keepCell (below_a1 w (a := o)) f1
      have k2 := fun o => keepCell (below_a1 w (a := o)) f2
      go_enter Tryd.func33, Tryd.ntmps33
      go_upto_region 3 with (fail)
      go_region
      generalize (w.alloc (.cells #[.int .i64 xv, .string xn, .int .i64 xm] 64)).drew = W at *
      have hsWl : w.heap.size + 1 ≤ W.heap.size := by omega
      clear f0 f1 f2 k0 k1 k2 hlI hlI2 hsW
      have x0 := hX.out.1 0 _ rfl
      have x1 := hX.out.1 1 _ rfl
      have x2 := hX.out.1 2 _ rfl
      by_cases hv : xv = 0
      · have hoN := hd (hnam.out hv)
        subst hv
        obtain ⟨nb, hnb⟩ := boolOf (nameP xn)
        have cn := hd (fun w' => name_i xn w' hxn nb hnb)
        have cw := hd (fun w' => within_i xm 0 5 w' (decide (0 ≤ xm ∧ xm ≤ 5)) rfl)
        have hnb2 : nameB xn = nb := by rw [Bool.eq_iff_iff, nameB_iff, hnb]
        rw [hnb2] at hnc
        clear hvar hvc hnb hnb2
        generalize decide (0 ≤ xm ∧ xm ≤ 5) = d2 at *
        cases nb with
        | false =>
          have h0 := hd (show o = none by rw [hoN.out, hnc.out]; rfl)
          go_wp2_with fail
          refine (cn.out _).mono ?_
          rintro e w2 ⟨rfl, rfl⟩
          go_wp2_with fail
          go_ret2
          exact h0.out ▸ ⟨rfl, hbW.out⟩
        | true =>
          by_cases h4 : xn.size ≤ 4
          · have h4I : ¬ (4 : Int) < (xn.size : Int) := by omega
            cases d2 with
            | false =>
              have h0 := hd (show o = none by rw [hoN.out, hnc.out]; simp)
              go_wp2_with fail
              refine (cn.out _).mono ?_
              rintro e w2 ⟨rfl, rfl⟩
              go_wp2_with fail
              refine (cw.out _).mono ?_
              rintro e w2 ⟨rfl, rfl⟩
              go_wp2_with fail
              go_ret2
              exact h0.out ▸ ⟨rfl, hbW.out⟩
            | true =>
              have hnct := hd (show nc = true by rw [hnc.out]; simp [h4])
              obtain ⟨hm0, hm5⟩ := hmny.out hnct.out
              replace hoN := hd (show o = (rdL (rdT n) xm.toNat l).map (fun q => (tmK 0 xn q.1, q.2)) by rw [hoN.out, if_pos hnct.out])
              obtain ⟨m, rfl⟩ : ∃ m : Nat, xm = (m : Int) := ⟨xm.toNat, by omega⟩
              rw [Int.toNat_natCast] at hoN
              clear hnc hnct hmny hm0
              obtain ⟨i0, hi, hz0, hz1, hz2⟩ := info_parts infoTree
              have Hi := hd hi; have Hz0 := hd hz0; have Hz1 := hd hz1; have Hz2 := hd hz2
              clear hi hz0 hz1 hz2
              have hXn := hd (show BoxN (W.alloc (.cells #[.int .i64 0, .string xn, .slice none 0 0] 70)) W.heap.size [.int .i64 0, .string xn, .slice none 0 0] from BoxN.new W _ _)
              have hbN := hd (hbW.out.next (below_a1 W (a := .cells #[.int .i64 0, .string xn, .slice none 0 0] 70)))
              have hXk := hd (hX.out.below (below_a1 W (a := .cells #[.int .i64 0, .string xn, .slice none 0 0] 70)))
              have hsN : W.heap.size + 1 ≤ (W.alloc (.cells #[.int .i64 0, .string xn, .slice none 0 0] 70)).heap.size := by simp
              go_wp2_with fail
              refine (cn.out _).mono ?_
              rintro e w2 ⟨rfl, rfl⟩
              go_wp2_with fail
              refine (cw.out _).mono ?_
              rintro e w2 ⟨rfl, rfl⟩
              go_upto_region 11 with (fail)
              generalize W.alloc (.cells #[.int .i64 0, .string xn, .slice none 0 0] 70) = W2 at *
              clear x0 x1 x2
              have x2 := hXk.out.1 2 _ rfl
              go_wp2_with fail
              go_loopw [5, 61] (fun s n' wr => ∃ (j : Nat) (ks : List K) (r : List DCell) (a' : Option Addr) (c' : Nat) (vs : List Value) (sk : Value), s = .slice a' r.length c' ∧ j ≤ m ∧ n' = .int .i64 j ∧ r.length ≤ c' ∧ r.length ≤ n ∧ vs.length = j ∧ Hd (rdL (rdT n) j l = some (ks, r)) ∧ Hd (∀ y ∈ r, y.name.size ≤ 1000000000000) ∧ Hd (SlP w b1 a' r) ∧ Hd (BoxN wr W.heap.size [.int .i64 0, .string xn, sk]) ∧ Hd (Own wr (W.heap.size + 1) 46 1 sk (vs.map encV)) ∧ Hd (SepY HT wr (fun b => w.heap.size ≤ b) W.heap.size sk ks vs) ∧ Hd (Below w.heap.size w wr)) (fun _ n' _ => m - (intOf n').toNat)
              case atStart => exact ⟨0, [], l, A, c - 1, [], .slice none 0 0, rfl, Nat.zero_le _, rfl, hlc, by omega, rfl, (show rdL _ 0 l = _ from rfl), hnl.out, hT.out, hXn.out, Own.nil, SepY.nil, hbN.out⟩
              case round =>
                obtain ⟨j, ks, r, a', c', vs, sk, rfl, hj, rfl, hrc, hrn, hvl, hrd, hrm, hsl, hXb, hO, hSep, hbl⟩ := hrel
                obtain ⟨wo, rfl⟩ : ∃ wo : World, wo = wr := ⟨_, rfl⟩
                by_cases hlt : j < m
                · have hltI : (j : Int) < (m : Int) := by omega
                  have ci := hd (ih.out r a' c' wo hrn (by omega) hrc hrm.out (hsl.out.mono hbl.out))
                  have hsn := hd (rdL_snoc (rdT n) j l)
                  cases hq : rdT n r with
                  | none =>
                    rw [hq] at ci
                    have h0 := hd (show o = none by
                      have h1 : rdL (rdT n) (j + 1) l = none := by rw [hsn.out, hrd.out, Option.bind_some]; simp only [hq]; rfl
                      have h2 := rdL_stop h1 (m - (j + 1))
                      rw [show j + 1 + (m - (j + 1)) = m by omega] at h2
                      rw [hoN.out, h2]; rfl)
                    clear hq
                    go_wp2_with fail
                    refine ci.out.mono ?_
                    intro e w7 hp
                    obtain ⟨rfl, hb7⟩ := TfPost_n hp
                    have hB7 := hd (hbl.out.next hb7)
                    clear hp hb7
                    go_wp2_with fail
                    go_ret2
                    exact h0.out ▸ ⟨rfl, hB7.out⟩
                  | some q =>
                    obtain ⟨t, r'⟩ := q
                    rw [hq] at ci
                    have hrd2 := hd (show rdL (rdT n) (j + 1) l = some (ks ++ [t], r') by rw [hsn.out, hrd.out, Option.bind_some]; simp only [hq]; rfl)
                    have hrl := rdT_len hq
                    have hrm2 := hd (show ∀ y ∈ r', y.name.size ≤ 1000000000000 from fun y hy => by
                      obtain ⟨k, _, _, e⟩ := rdT_drop _ _ _ _ hq
                      rw [e] at hy
                      exact hrm.out y (List.mem_of_mem_drop hy))
                    clear hq
                    go_wp2_with fail
                    refine ci.out.mono ?_
                    intro e w7 hp
                    obtain ⟨v, a7, c7, rfl, hR7, ⟨hS7, hc7⟩, hb7⟩ := TfPost_s hp
                    obtain ⟨bp, _, _, _, rfl, hjk⟩ := hR7.open
                    have hsl2 := hd (hS7.back hbl.out hb1w)
                    have hX7 := hd (hXb.out.below hb7)
                    have hO7 := hd (hO.out.below hb7)
                    have hz7 := hb7.size
                    have hxlt := hXb.out.2.2
                    have hzl := hbl.out.size
                    have hS7' := hd ((hSep.out.below hb7).snoc hR7 (fun b hb => ⟨by have := hb.1; omega, hb.2, by have := hb.1; omega, fun e => by have := (hO.out.lt b e).2; have := hb.1; omega⟩))
                    have hB7 := hd (hbl.out.next hb7)
                    have y2 := hX7.out.1 2 _ rfl
                    clear hp hR7 hS7 hb7 hjk
                    have hO7l : W.heap.size + 1 ≤ w7.heap.size := by omega
                    go_wp2_with (at_builtin; refine wpList_appOwn rfl (.tmp 74) (.tmp 76) 68 rfl (W.heap.size + 1) 46 i0 _ 1 8 Tryd.underlying68 Hi.out Hz0.out Hz1.out Hz2.out rfl (by decide) _ (vs.map encV) [encV (.pointer (some ⟨bp, 0, none⟩))] rfl (hO7.out.below (below_a1 _)) _ 1 1 rfl rfl (one_row rfl) (cells_new _ _ _) (one_ptrT bp) (by rw [List.length_map]; omega) (by decide) (by first | omega | exact Nat.le_refl _ | (simp; done) | (simp; omega)) ?_; intro s6 w6 ho6 hg6 hv6; obtain ⟨a6, c6, hs6, hjk⟩ := ho6.sl; clear hjk; rw [List.length_append, List.length_map, List.length_singleton, hvl] at hs6; subst hs6; have hX6 := hd ((hX7.out.below (below_a1 _)).grown hg6 (by intro e; have := (hO7.out.lt _ e.symm).1; omega)); have y6 := hX6.out.1 2 _ rfl; have r6 := hX6.out.2.1 2; have hg6 := hd hg6; have hv6 := hd hv6; have ho6 := hd ho6; clear y2)
                    have hne6 : ∀ g, (Value.slice a6 (j + 1) c6).ownBlock = some g → W.heap.size + 1 ≤ g := fun g hg => (ho6.out.lt g hg).1
                    have hX8 := hd (hX6.out.set (i := 2) (by simp) (.slice a6 (j + 1) c6))
                    have hg8 := hd (grownBy_setCell w6 ⟨W.heap.size, 2, none⟩ (.slice a6 (j + 1) c6))
                    have hO8 := hd (ho6.out.kept hg8.out (.inr (fun e => by have : W.heap.size + 1 ≤ W.heap.size := hne6 _ e; omega)))
                    have hS6 := hd ((hS7'.out.below (below_a1 _)).grown hg6.out (.inr (.inr rfl)) (s' := .slice a6 (j + 1) c6) (hv6.out.imp id (fun e g hg => by rw [e] at hg; cases hg; exact Nat.le_refl _)))
                    have hS8 := hd (hS6.out.grown hg8.out (.inr (.inl rfl)) (s' := .slice a6 (j + 1) c6) (.inl rfl))
                    have hB6 := hd ((hB7.out.next (below_a1 _)).grown hg6.out (Nat.le_trans hB7.out.size (below_a1 _).size) (fun g hg => by have := (hO7.out.lt g hg).1; omega))
                    have hB8 := hd (hB6.out.grown hg8.out hB6.out.size (fun g hg => by cases hg; show w.heap.size ≤ W.heap.size; omega))
                    have hOe := hd (show Own (w6.setCell ⟨W.heap.size, 2, none⟩ (.slice a6 (j + 1) c6)) (W.heap.size + 1) 46 1 (.slice a6 (j + 1) c6) ((vs ++ [Value.pointer (some ⟨bp, 0, none⟩)]).map encV) from by rw [List.map_append]; exact hO8.out)
                    go_wp2_with fail
                    go_roundw
                    case rel => exact ⟨j + 1, ks ++ [t], r', a7, c7, vs ++ [Value.pointer (some ⟨bp, 0, none⟩)], .slice a6 (j + 1) c6, rfl, by omega, by go_num, hc7, by omega, by simp [hvl], hrd2, hrm2, hsl2, hX8, hOe, hS8, hB8⟩
                    case measure => simp [intOf]; omega
                · obtain rfl : j = m := by omega
                  have hltI : ¬ (j : Int) < (j : Int) := by omega
                  have h0 := hd (show o = some (tmK 0 xn ks, r) by rw [hoN.out, hrd.out]; rfl)
                  have hnode := hd (nodeY (w := w) hXb.out (by omega) hO.out (by omega) hSep.out)
                  go_wp2_with fail
                  go_ret2
                  rw [h0.out]
                  exact ⟨_, a', c', rfl, hnode.out, ⟨hsl.out, hrc⟩, hbl.out⟩
          · have h4I : (4 : Int) < (xn.size : Int) := by omega
            have h0 := hd (show o = none by rw [hoN.out, hnc.out]; simp [h4])
            go_wp2_with fail
            refine (cn.out _).mono ?_
            rintro e w2 ⟨rfl, rfl⟩
            go_wp2_with fail
            go_ret2
            exact h0.out ▸ ⟨rfl, hbW.out⟩
      · have hvb : (xv != 0) = true := by simpa using hv
        have hoV := hd (hvar.out hv)
        have cw := hd (fun w' => within_i xv 1 6 w' (decide (1 ≤ xv ∧ xv ≤ 6)) rfl)
        clear hvar hnam hnc hmny
        replace hv := hd hv
        generalize decide (1 ≤ xv ∧ xv ≤ 6) = d1 at *
        cases d1 with
        | false =>
          have h0 := hd (show o = none by rw [hoV.out, hvc.out]; rfl)
          go_wp2_with fail
          refine (cw.out _).mono ?_
          rintro e w2 ⟨rfl, rfl⟩
          go_wp2_with fail
          go_ret2
          exact h0.out ▸ ⟨rfl, hbW.out⟩
        | true =>
          cases hem : xn.toList.isEmpty with
          | false =>
            have h0 := hd (show o = none by rw [hoV.out, hvc.out, hem]; rfl)
            go_wp2_with fail
            refine (cw.out _).mono ?_
            rintro e w2 ⟨rfl, rfl⟩
            go_wp2_with fail
            go_ret2
            exact h0.out ▸ ⟨rfl, hbW.out⟩
          | true =>
            cases hmz : (xm == 0) with
            | false =>
              have h0 := hd (show o = none by rw [hoV.out, hvc.out, hem, hmz]; rfl)
              have hmzb : (xm != 0) = true := by simpa using hmz
              go_wp2_with fail
              refine (cw.out _).mono ?_
              rintro e w2 ⟨rfl, rfl⟩
              go_wp2_with fail
              go_ret2
              exact h0.out ▸ ⟨rfl, hbW.out⟩
            | true =>
              have h0 := hd (show o = some (tmK xv ⟨#[]⟩ [], l) by rw [hoV.out, hvc.out, hem, hmz]; rfl)
              have hmzb : (xm != 0) = false := by simpa using hmz
              have hXn := hd (show BoxN (W.alloc (.cells #[.int .i64 xv, .string ⟨#[]⟩, .slice none 0 0] 70)) W.heap.size [.int .i64 xv, .string ⟨#[]⟩, .slice none 0 0] from BoxN.new W _ _)
              have hbN := hd (hbW.out.next (below_a1 W (a := .cells #[.int .i64 xv, .string ⟨#[]⟩, .slice none 0 0] 70)))
              go_wp2_with fail
              refine (cw.out _).mono ?_
              rintro e w2 ⟨rfl, rfl⟩
              go_wp2_with fail
              go_ret2
              rw [h0.out]
              exact ⟨_, A, c - 1, rfl, nodeY (E := 46) (B := w.heap.size) (ks := []) (vs := []) hXn.out (by omega) Own.nil (Nat.le_refl _) SepY.nil, ⟨hT.out, hlc⟩, hbN.out⟩
end Go.Proofs.YtbjilpemckoioaaDoor

/- GetPart of the program. -/
import Derived.Test.YtobahkjbadamhaaGetS
import Derived.Deep.RegionHeld3
import Derived.BigQuiet
import Derived.Deep.QuietTactic
namespace Go.Proofs.Ytobahkjbadamhaa
open Go.RowKit
set_option linter.unusedVariables false
set_option maxRecDepth 100000
set_option maxHeartbeats 800000 in
theorem ix_gp (cv : Value) (p : DNode → Bool) (l : List DNode) (v : Value) (w : World) (hl : l.length ≤ 1000000000000) (h : Sl w v 5 (l.map DNode.enc))
    (hp : ∀ x ∈ l, ∀ w', Below w.heap.size w w' → Calls Try.prog 84 #[.agg #[.int .i64 x.num, .string x.text, .int .i64 x.no, .int .i64 x.up, .bool x.many], cv] w' (BoolPost (p x) w')) :
    Calls Try.prog 83 #[v, .func (.func 84) #[] #[cv]] w (IntPost (fidx p l) w) := by
  replace hp := hd hp
  rcases h.open with ⟨a1, c1, rfl, hr⟩ | ⟨b1, o1, c1, rfl, hr, C1⟩
  · obtain rfl : l = [] := by simpa using hr
    go_enter Try.func83, Try.ntmps83
    go_wp2
    go_loopw [8] (fun i wr => i = .int .i64 0 ∧ wr = w) (fun _ _ => 0)
    case atStart => exact ⟨rfl, rfl⟩
    case round =>
      obtain ⟨rfl, rfl⟩ := hrel
      go_wp2_with fail
      go_ret
      exact ⟨rfl, Below.refl _ _⟩
  · clear h
    simp only [List.length_map]
    go_enter Try.func83, Try.ntmps83
    go_wp2
    go_loopw [8] (fun i wr => ∃ k : Nat, k ≤ l.length ∧ i = .int .i64 k ∧ Hd (fidx_from p l k) ∧ Hd (Below w.heap.size w wr)) (fun i _ => l.length - (intOf i).toNat)
    case atStart => exact ⟨0, Nat.zero_le _, rfl, fidx_zero p l, Below.refl _ _⟩
    case round =>
      obtain ⟨k, hk, rfl, hfx, hbl⟩ := hrel
      by_cases hlt : k < l.length
      · obtain ⟨f0, f1, f2, f3, f4⟩ := Cells.rowNode l k hlt (C1.mono hbl.out)
        cases hpx : p l[k] with
        | true =>
          replace hpx := hd hpx
          go_wp2_with fail
          refine (hp.out l[k] (List.getElem_mem hlt) _ hbl.out).mono ?_
          rw [hpx.out]
          rintro e w2 ⟨rfl, hb⟩
          have hb2 := hd (hbl.out.next hb)
          clear hb
          go_wp2_with fail
          go_ret
          exact ⟨ret_int (fidx_hit hlt hfx.out hpx.out).symm, hb2.out⟩
        | false =>
          replace hpx := hd hpx
          go_wp2_with fail
          refine (hp.out l[k] (List.getElem_mem hlt) _ hbl.out).mono ?_
          rw [hpx.out]
          rintro e w2 ⟨rfl, hb⟩
          have hb2 := hd (hbl.out.next hb)
          clear hb
          go_wp2_with fail
          go_roundw
          case rel => exact ⟨k + 1, by omega, by go_num, fidx_step hlt hfx.out hpx.out, hb2⟩
          case measure => simp [intOf]; omega
      · go_wp2_with fail
        go_ret
        exact ⟨ret_int (fidx_none (by omega) hfx.out).symm, hbl.out⟩
set_option maxHeartbeats 800000 in
theorem clone_node (l : List DNode) (v : Value) (w : World) (hl : l.length ≤ 1000000000) (h : Sl w v 5 (l.map DNode.enc)) :
    Calls Try.prog 85 #[v] w (OwnVPost 113 5 (l.map DNode.enc) w) := by
  obtain ⟨i0, hi, hz0, hz1, hz2⟩ := info_parts infoNode
  have Hi := hd hi; have Hz0 := hd hz0; have Hz1 := hd hz1; have Hz2 := hd hz2
  have hls := hd (DNode.enc_len l)
  have hone := hd (DNode.enc_one l)
  clear hi hz0 hz1 hz2
  have kn := fun (w : World) (a : Option Addr) (n c : Nat) => Lib.run_eql_slice_nil (P := Try.prog) w 37 113 a n c 0 0 Try.underlying37
  rcases h.open with ⟨a1, c1, rfl, hr⟩ | ⟨b1, o1, c1, rfl, hr, C1⟩
  · obtain rfl : l = [] := by simpa using hr
    cases a1 with
    | none =>
      go_enter Try.func85, Try.ntmps85
      go_wp2_with fail
      go_ret
      exact ⟨_, rfl, Own.nil, Below.refl _ _⟩
    | some a1 =>
      go_enter Try.func85, Try.ntmps85
      go_wp2_with (at_builtin; refine wpList_appOwn rfl (.tmp 5) (.tmp 6) 37 rfl w.heap.size 113 i0 _ 5 48 Try.underlying37 Hi.out Hz0.out Hz1.out Hz2.out rfl (by decide) _ [] [] rfl (own_made w 113 5) a1 0 c1 rfl rfl (by simp) (by simp) (by simp) (by simp) (by decide) (by simp) ?_; intro v2 w2 ho hg hb; replace ho := hd ho; replace hg := hd hg; clear hb)
      go_ret
      exact ⟨_, rfl, ho.out, below_made hg.out (by intro g hg; cases hg; exact Nat.le_refl _)⟩
  · have hC := hd ((C1.mono (below_a1 w (a := .cells #[] 113))).flat hls.out)
    clear h
    simp only [List.length_map]
    go_enter Try.func85, Try.ntmps85
    go_wp2_with (at_builtin; refine wpList_appOwn rfl (.tmp 5) (.tmp 6) 37 rfl w.heap.size 113 i0 _ 5 48 Try.underlying37 Hi.out Hz0.out Hz1.out Hz2.out rfl (by decide) _ [] (l.map DNode.enc) rfl (own_made w 113 5) ⟨b1, o1, none⟩ l.length c1 (by rw [List.length_map]) rfl hls.out hC.out hone.out (by simp; omega) (by decide) (by simp) ?_; intro v2 w2 ho hg hb; replace ho := hd ho; replace hg := hd hg; clear hb)
    go_ret
    exact ⟨_, rfl, ho.out, below_made hg.out (by intro g hg; cases hg; exact Nat.le_refl _)⟩
theorem gp_cl (no : Int) (x : DNode) (bk : Nat) (w : World) (q : w.cell? ⟨bk, 0, none⟩ = some (.int .i64 no)) :
    Calls Try.prog 84 #[.agg #[.int .i64 x.num, .string x.text, .int .i64 x.no, .int .i64 x.up, .bool x.many], .pointer (some ⟨bk, 0, none⟩)] w (BoolPost (upIs no x) w) := by
  have hz := hd (show upIs no x = (x.up == 0 && x.no == no) from rfl)
  generalize upIs no x = z at *
  obtain ⟨n0, n1, n2, n3, n4⟩ := x
  dsimp only at *
  have hX := hd (BoxN.new w [.int .i64 n0, .string n1, .int .i64 n2, .int .i64 n3, .bool n4] 113)
  have hB := hd (below_a1 w (a := .cells #[.int .i64 n0, .string n1, .int .i64 n2, .int .i64 n3, .bool n4] 113))
  have k1 := keepCell hB.out q
  go_enter Try.func84, Try.ntmps84
  go_upto_region 1 with (fail)
  change Hd (BoxN (w.alloc (.cells #[.int .i64 n0, .string n1, .int .i64 n2, .int .i64 n3, .bool n4] 113)) _ _) at hX
  generalize w.alloc (.cells #[.int .i64 n0, .string n1, .int .i64 n2, .int .i64 n3, .bool n4] 113) = W at *
  have x2 := hX.out.1 2 _ rfl
  have x3 := hX.out.1 3 _ rfl
  obtain ⟨d, hd3⟩ : ∃ d, (n3 == 0) = d := ⟨_, rfl⟩
  rw [hd3] at hz
  cases d
  all_goals
    go_wp2_with fail
    go_ret
    exact ⟨by rw [hz.out]; rfl, hB.out⟩
/-- The nodes of a part while they are being moved: the first k behind the top are. -/
def segUp (x : DNode) (ns : List DNode) (a k : Nat) : List DNode := { x with no := 0, up := -1 } :: ((ns.take k).map (shN a) ++ ns.drop k)
theorem segUp_zero (x : DNode) (ns : List DNode) (a : Nat) : segUp x ns a 0 = { x with no := 0, up := -1 } :: ns := by simp [segUp]
theorem segUp_len (x : DNode) (ns : List DNode) (a k : Nat) : (segUp x ns a k).length = ns.length + 1 := by
  rw [segUp, List.length_cons, List.length_append, List.length_map, List.length_take, List.length_drop]; omega
theorem segUp_at {x : DNode} {ns : List DNode} {a k : Nat} (h : k < ns.length) : (segUp x ns a k)[k + 1]? = some ns[k] := by
  rw [segUp, List.getElem?_cons_succ, List.getElem?_append_right (by rw [List.length_map, List.length_take]; omega), List.length_map, List.length_take, show k - min k ns.length = 0 by omega, List.getElem?_drop, Nat.add_zero, List.getElem?_eq_getElem h]
theorem segUp_step {x : DNode} {ns : List DNode} {a k : Nat} (h : k < ns.length) : (segUp x ns a k).set (k + 1) (shN a ns[k]) = segUp x ns a (k + 1) := by
  rw [segUp, segUp, List.set_cons_succ]
  congr 1
  rw [List.set_append_right _ _ (by rw [List.length_map, List.length_take]; omega), List.length_map, List.length_take, show k - min k ns.length = 0 by omega, List.drop_eq_getElem_cons h, List.set_cons_zero, List.take_succ_eq_append_getElem h, List.map_append, List.append_assoc]
  rfl
theorem segUp_end (x : DNode) (ns : List DNode) (a : Nat) : segUp x ns a ns.length = { x with no := 0, up := -1 } :: ns.map (shN a) := by simp [segUp]
theorem segN_eq {l : List DNode} {a e : Nat} (h : a < l.length) : segN l a e = { l[a] with no := 0, up := -1 } :: ((l.drop (a + 1)).take (e - (a + 1))).map (shN a) := by
  rw [segN, List.drop_eq_getElem_cons h, List.take_succ_cons, List.take_zero, List.map_cons, List.map_nil, List.cons_append, List.nil_append]
/-- The places in a part. -/
theorem ups_of {ln : List DNode} {v : K} {a e : Nat} (h : enc (trees ln) v a e) : ∀ i (hi : i < ((ln.drop (a + 1)).take (e - (a + 1))).length), (a : Int) ≤ ((ln.drop (a + 1)).take (e - (a + 1)))[i].up ∧ ((ln.drop (a + 1)).take (e - (a + 1)))[i].up ≤ ln.length := by
  intro i hi
  rw [List.length_take, List.length_drop] at hi
  obtain ⟨b1, b2, b3⟩ := enc_bd v _ _ h
  rw [trees_len] at b2
  have := b3 (a + 1 + i) (by omega) (by omega)
  rw [UN_at (by omega)] at this
  rw [List.getElem_take, List.getElem_drop]
  omega
theorem Cells.part {w : World} {b o a e c : Nat} {l : List DNode} (C : Cells w b o 5 (l.map DNode.enc)) (ha : a ≤ e) (he : e ≤ l.length) : Sl w (.slice (some ⟨b, o + a * 5, none⟩) (e - a) c) 5 (((l.drop a).take (e - a)).map DNode.enc) := by
  refine ⟨_, c, by rw [List.length_map, List.length_take, List.length_drop]; congr 1; omega, .inr ⟨b, _, rfl, C.1, fun i r hr j u hu => ?_⟩⟩
  have hi := (List.getElem?_eq_some_iff.1 hr).1
  rw [List.length_map, List.length_take, List.length_drop] at hi
  rw [List.getElem?_map, List.getElem?_take_of_lt (by omega), List.getElem?_drop, ← List.getElem?_map] at hr
  have := C.2 (a + i) r hr j u hu
  rw [show o + a * 5 + i * 5 + j = o + (a + i) * 5 + j by rw [Nat.add_mul]; omega]
  exact this
theorem Own.cap {w : World} {B E sz n c : Nat} {a : Option Addr} {rows : List (List Value)} (h : Own w B E sz (.slice a n c) rows) : n ≤ c := by
  rcases (own_flat h).2 with ⟨e, _⟩ | ⟨g, cap, cur, e, _, _, h3, _⟩
  · cases e; exact Nat.le_refl _
  · cases e; exact h3
theorem tail_run (g n c : Nat) : ∃ A : Option Addr, ∀ w : World, (Instr.sliceAt 37 (.slice (some ⟨g, 0, none⟩) (n + 1) c) (some (.int .i64 1)) none none).run Try.prog w = .ok (.slice A n (c - 1)) w := by
  refine ⟨if c = 1 then some ⟨g, 0, none⟩ else some ⟨g, 5, none⟩, fun w => ?_⟩
  by_cases h : c = 1
  · subst h; go_simp; intro h2; omega
  · go_simp; intro h2; omega
set_option maxHeartbeats 6400000 in
theorem GetPart_i (ln : List DNode) (l : List DType) (no : Int) (vv v : Value) (w : World) (hln : ln.length ≤ 1000000000) (hl : l.length ≤ 1000000000) (hnm : ∀ x ∈ ln, x.text.size ≤ 1000000000000) (hs : ∀ x ∈ l, x.name.size ≤ 1000000000000) (hcap : ∀ a n c, vv = .slice a n c → n ≤ c) (hV : Sl w vv 5 (ln.map DNode.enc)) (h : Sl w v 6 (l.map DType.enc)) (b : Bool) (r : List DNode) (hr : getP ln l no b r) :
    Calls Try.prog 39 #[.agg #[vv], .agg #[v], .int .i64 no] w (AggbPost 113 5 (r.map DNode.enc) b w) := by
  obtain ⟨g, hg⟩ := boolOf (goodP l)
  have ck := hd (fun w' (hbb : Below w.heap.size w w') => kindOf_i l v w' (by omega) hs (h.mono hbb) g hg)
  have hV0 := hd hV
  obtain ⟨a1, c1, rfl, -⟩ := h
  obtain ⟨av, cv, rfl, -⟩ := hV
  replace hcap := hcap _ _ _ rfl
  simp only [List.length_map] at ck hV0 hcap ⊢
  have hbW := hd (below_a4 w (a := .cells #[.slice av ln.length cv] 39) (b := .cells #[.slice a1 l.length c1] 28) (c := .cells #[.int .i64 no] 3) (d := .cells #[.slice none 0 0] 39))
  have hx := hd (show Box1 ((((w.alloc (.cells #[.slice av ln.length cv] 39)).alloc (.cells #[.slice a1 l.length c1] 28)).alloc (.cells #[.int .i64 no] 3)).alloc (.cells #[.slice none 0 0] 39)) (w.heap.size + 1 + 1 + 1) (.slice none 0 0) from ⟨by go_simp, by go_simp⟩)
  have hq0 := hd (show ((((w.alloc (.cells #[.slice av ln.length cv] 39)).alloc (.cells #[.slice a1 l.length c1] 28)).alloc (.cells #[.int .i64 no] 3)).alloc (.cells #[.slice none 0 0] 39)).cell? ⟨w.heap.size, 0, none⟩ = some (.slice av ln.length cv) by go_simp)
  have hq1 := hd (show ((((w.alloc (.cells #[.slice av ln.length cv] 39)).alloc (.cells #[.slice a1 l.length c1] 28)).alloc (.cells #[.int .i64 no] 3)).alloc (.cells #[.slice none 0 0] 39)).cell? ⟨w.heap.size + 1, 0, none⟩ = some (.slice a1 l.length c1) by go_simp)
  have hq2 := hd (show ((((w.alloc (.cells #[.slice av ln.length cv] 39)).alloc (.cells #[.slice a1 l.length c1] 28)).alloc (.cells #[.int .i64 no] 3)).alloc (.cells #[.slice none 0 0] 39)).cell? ⟨w.heap.size + 1 + 1, 0, none⟩ = some (.int .i64 no) by go_simp)
  have hsW : ((((w.alloc (.cells #[.slice av ln.length cv] 39)).alloc (.cells #[.slice a1 l.length c1] 28)).alloc (.cells #[.int .i64 no] 3)).alloc (.cells #[.slice none 0 0] 39)).heap.size = w.heap.size + 4 := by simp
  have hret := hd (fun (wr : World) (hw : Below w.heap.size w wr) (h0 : b = false ∧ r = []) => (show AggbPost 113 5 (r.map DNode.enc) b w (.returned (.tuple #[.agg #[.slice none 0 0], .bool false])) (wr.setCell ⟨w.heap.size + 1 + 1 + 1, 0, none⟩ (.slice none 0 0)) from
    ⟨_, none, by rw [h0.1], by rw [h0.2]; exact OwnR.nil, hw.setCell (by show w.heap.size ≤ w.heap.size + 1 + 1 + 1; omega) _⟩))
  go_enter Try.func39, Try.ntmps39
  go_upto_region 1 with (fail)
  generalize (((w.alloc (.cells #[.slice av ln.length cv] 39)).alloc (.cells #[.slice a1 l.length c1] 28)).alloc (.cells #[.int .i64 no] 3)).alloc (.cells #[.slice none 0 0] 39) = W at *
  have q1 := hq1.out
  go_wp2_with fail
  refine (ck.out _ hbW.out).mono ?_
  intro e w2 hp
  cases g with
  | false =>
    obtain ⟨rfl, hb2⟩ := KoPost_f hp
    have hno := hd (getP_no hr (fun q => absurd (hg.2 (getC_fit q).1) (by simp)))
    have hB := hd (hbW.out.next hb2)
    have hx2 := hd (hx.out.below hb2)
    have Q1 := hx2.out.1; have Q2 := hx2.out.2
    clear hp hb2 hr hg q1
    go_wp2_with fail
    exact bodyPost_ret (v := .tuple #[.agg #[.slice none 0 0], .bool false]) (by simp [results, Try.results39, go_sem, Q1]) rfl (hret.out _ hB.out hno.out)
  | true =>
    obtain ⟨t, vp, rfl, ht, hrp, hb2⟩ := KoPost_t hp
    have hgp := hg.1 rfl
    have hsm := good_small ht.2
    have hB := hd (hbW.out.next hb2)
    have hx2 := hd (hx.out.below hb2)
    have q0 := keepCell hb2 hq0.out
    have hq2' := hd (keepCell hb2 hq2.out)
    obtain ⟨f, hf⟩ := boolOf (fitP ln l)
    have cf := hd (fits_i ln hln hnm t _ vp w2 _ _ (Nat.le_refl _) ht.2.2.2.1 (by omega) (hV0.out.mono hB.out) hrp f (by rw [hf]; exact fitP_of hgp ht))
    have hz2 : w.heap.size + 4 ≤ w2.heap.size := by have := hb2.size; omega
    obtain ⟨bp, aP, cP, vsP, rfl, hbp, hc0, hc1, hc2, hc3, hc4, hc5, hSP, hlP, hgP⟩ := hrp.open
    cases f with
    | false =>
      have hno := hd (getP_no hr (fun q => absurd (hf.2 (getC_fit q)) (by simp)))
      clear hp hb2 hrp ht hgp hf hg hr hc0 hc1 hc2 hc3 hc4 hc5 hSP hlP hgP q1 hsm
      go_wp2_with fail
      refine cf.out.mono ?_
      rintro e3 w3 ⟨rfl, hb3⟩
      have hB3 := hd (hB.out.next hb3)
      have hx3 := hd (hx2.out.below hb3)
      have Q1 := hx3.out.1; have Q2 := hx3.out.2
      clear hb3 q0
      go_wp2_with fail
      exact bodyPost_ret (v := .tuple #[.agg #[.slice none 0 0], .bool false]) (by simp [results, Try.results39, go_sem, Q1]) rfl (hret.out _ hB3.out hno.out)
    | true =>
      obtain ⟨t', u, -, ht', hhd, hu, hfu⟩ := fitP_open (hf.1 rfl)
      obtain rfl := treeOf_uniq ht ht'
      have hcu := enc_count u _ _ hu
      have hn40 := hhd.1.2
      have hhd0 := hhd.1.1
      have hrt := ht.2.2.2.1
      have h5t := ht.2.1
      have hpl : t.parts.length ≤ 100 := by have h1 := len_count t.parts; have h2 := countK_eq t; omega
      have hlu3 : u.parts.length ≤ 40 := by have h1 := len_count u.parts; have h2 := countK_eq u; omega
      have cp := hd (fun w' (hb : Below w2.heap.size w2 w') => part_i t no bp cP aP vsP w' _ _ (Nat.le_trans (Nat.le_refl _) hb.size) (by omega) (keepCell hb hc5) (hSP.same (Same.below hb (Nat.le_refl _)) (Nat.le_refl _) (Nat.le_refl _)) hlP (fun j h1 h2 => (hgP j h1 h2).below (Nat.le_refl _) hb))
      have ci := hd (fun w' (q : w'.cell? ⟨w.heap.size + 1 + 1, 0, none⟩ = some (.int .i64 no)) (hS : Sl w' (.slice av ln.length cv) 5 (ln.map DNode.enc)) => ix_gp (.pointer (some ⟨w.heap.size + 1 + 1, 0, none⟩)) (upIs no) ln (.slice av ln.length cv) w' (by omega) hS (fun x _ w3 hb3 => gp_cl no x _ w3 (keepCell hb3 q)))
      have hcy := hd (fun hy i (hi : firstP u.parts no i) => getP_yes hr hy hu hi)
      have hcn := hd (fun hn => getP_no hr hn)
      have hmk := hd (fun j (hj : firstP t.parts no j) (h5 : (t.parts[j]'hj.1).of = 5) i (hi : firstP u.parts no i) => (show getC ln l no from ⟨t, u, j, i, ht, hgp, hhd, hu, hfu, ⟨hj, h5⟩, hi⟩))
      have hun := hd (fun hy => getC_of (no := no) ht hu hy)
      have hfn := hd (fun i (hi : firstP u.parts no i) => first_node hhd hu hi)
      have hnn := hd (fun (hi : noneP u.parts no) => none_node hhd hu hi)
      have hpf := hd (fun i j (hi : firstP u.parts no i) (hj : firstP t.parts no j) => part_fit hrt h5t hfu hi hj)
      have hrts := hd (fun p (hp : p ∈ t.parts) => (show rightK p ∧ countK p ≤ 30 from ⟨right_part hrt hp, by have h1 := count_part hp; have h2 := countK_eq t; omega⟩))
      have hww := hd (show ∀ i, i < (trees ln).length → U (trees ln) i < (i : Int) from fun i hi => by
        rw [trees_len] at hi
        by_cases e0 : i = 0
        · subst e0
          rw [UN_at (by omega), (hhd.up (by omega)).1]; omega
        · exact ((enc_bd u _ _ hu).2.2 i (by omega) hi).2)
      have hgP := hd hgP
      replace hnm := hd hnm
      clear hp hrp ht hgp hf hg hr hc0 hc1 hc2 hc3 hc4 hc5 hSP ht' hhd hu hfu hcu hsm hs hrt h5t q1
      go_wp2_with fail
      refine cf.out.mono ?_
      rintro e3 w3 ⟨rfl, hb3⟩
      have hB3 := hd (hB.out.next hb3)
      have hx3 := hd (hx2.out.below hb3)
      have q0' := keepCell hb3 q0
      have q2 := keepCell hb3 hq2'.out
      have hb23 := hd hb3
      clear hb3 q0
      go_wp2_with fail
      refine (cp.out _ hb23.out).mono ?_
      rintro e4 w4 ⟨hp1, hp2, hb4⟩
      have hB4 := hd (hB3.out.next hb4)
      have hx4 := hd (hx3.out.below hb4)
      have q0 := keepCell hb4 q0'
      have q2' := keepCell hb4 q2
      have hb24 := hd (hb23.out.next hb4)
      clear hb4 q0' q2
      have ci4 := hd (ci.out w4 q2' (hV0.out.mono hB4.out))
      rcases first_or t.parts no with ⟨j, hj⟩ | hnone
      · obtain ⟨hjr, rfl⟩ := hp1 j hj
        have rp := hgP.out j hj.1 hjr
        obtain ⟨by_, aY, cY, vsY, hvY, hbY, y0, -, -, -, -, -, -, -, -⟩ := rp.open
        rw [hvY] at rp ⊢
        have hmkj := hd (fun h5 => hmk.out j hj h5)
        have hunj := hd (fun hy => (show (t.parts[j]'hj.1).of = 5 from by
          obtain ⟨⟨j', hj', h5⟩, _⟩ := hun.out hy
          obtain rfl := first_uniq hj hj'
          exact h5))
        have hpfj := hd (fun i (hi : firstP u.parts no i) => hpf.out i j hi hj)
        have hry := hd (hrts.out _ (List.getElem_mem hj.1))
        have rp := hd rp
        replace y0 := keepCell hb24.out y0
        clear hp1 hp2 hvY
        generalize t.parts[j]'hj.1 = y at *
        obtain ⟨z, hz⟩ : ∃ z, fidx (upIs no) ln = z := ⟨_, rfl⟩
        rw [hz] at ci4
        replace hz := hd hz
        go_wp2_with fail
        refine ci4.out.mono ?_
        rintro e5 w5 ⟨rfl, hb5⟩
        have hB5 := hd (hB4.out.next hb5)
        have hx5 := hd (hx4.out.below hb5)
        have q5 := keepCell hb5 q0
        have y5 := keepCell hb5 y0
        have hb25 := hd (hb24.out.next hb5)
        clear hb5 q0 q2' y0
        by_cases h5 : y.of = 5
        · have h5b : (y.of != 5) = false := by simpa using h5
          rcases first_or u.parts no with ⟨i, hi⟩ | hnone2
          · obtain ⟨a, e, hfx, henc, hout, ha0, hal⟩ := hfn.out i hi
            rw [hz.out] at hfx
            subst hfx
            have hres := hd (hcy.out (hmkj.out h5 i hi) i hi)
            have hft := hd (hpfj.out i hi)
            have hsr := hd (seg_rows henc)
            have hbd := enc_bd _ _ _ henc
            have hae : a < e := hbd.1
            have hel : e ≤ ln.length := by have := hbd.2.1; rwa [trees_len] at this
            have hups := hd (ups_of henc)
            have hse := hd (segN_eq (e := e) hal)
            have hstk : Hd (Stuck (trees ln) a e) := hd (Out.stuck hww.out (by omega) (by rw [trees_len]; exact hel) hout)
            have hxk := hd (count_part (List.getElem_mem hi.1))
            obtain ⟨b1, o1, rfl, C1⟩ : ∃ b o, av = some ⟨b, o, none⟩ ∧ Cells w b o 5 (ln.map DNode.enc) := by
              rcases hV0.out.open with ⟨_, _, _, hrr⟩ | ⟨b, o, c, e0, _, C⟩
              · exfalso; have : ln = [] := by simpa using hrr
                subst this; simp at hal
              · rw [List.length_map] at e0
                cases e0; exact ⟨b, o, rfl, C⟩
            have C1 := hd C1
            have cft := hd (fun w' (hb : Below w.heap.size w w') (hb2 : Below w2.heap.size w2 w') => fit_i ln b1 o1 cv (by omega) hnm.out y _ a e _ w' _ _ (Nat.le_trans (Nat.le_refl _) hb2.size) hry.out.1 (by have := hry.out.2; omega) henc hstk.out (C1.out.mono hb) (rp.out.below (Nat.le_refl _) hb2))
            rw [hft.out, show fitR true e = (e : Int) from rfl] at cft
            have hrr := hd (show b = true ∧ r = segN ln a e from ⟨hres.out.1, by rw [hres.out.2, hsr.out]⟩)
            have haI : (a : Int) ≤ (e : Int) := by omega
            have hec : (e : Int) ≤ (cv : Int) := by omega
            have hecN : e ≤ cv := by omega
            have ha0I : (0 : Int) ≤ (a : Int) := by omega
            have hltI : ¬ ((a : Int) < 0) := by omega
            have hne1 : ¬ cv = a := by omega
            have hne2 : ¬ a = cv := by omega
            have hne3 : ¬ cv - a = 0 := by omega
            have haN : a ≤ e := by omega
            have cs := hd (fun w' (C : Cells w' b1 o1 5 (ln.map DNode.enc)) c' => C.part (c := c') (Nat.le_of_lt hae) hel)
            obtain ⟨xs, hxs⟩ : ∃ xs, (ln.drop (a + 1)).take (e - (a + 1)) = xs := ⟨_, rfl⟩
            have hxl : xs.length = e - (a + 1) := by rw [← hxs, List.length_take, List.length_drop]; omega
            have hsp : (ln.drop a).take (e - a) = ln[a] :: xs := by
              rw [List.drop_eq_getElem_cons hal, show e - a = (e - (a + 1)) + 1 by omega, List.take_succ_cons, hxs]
            rw [hxs] at hups hse
            rw [hsp] at cs
            have hrr2 := hd (show b = true ∧ r = segUp ln[a] xs a xs.length from ⟨hrr.out.1, by rw [hrr.out.2, hse.out, segUp_end]⟩)
            generalize ln[a] = x at *
            have hXe := hd hxl
            have hxl2 : xs.length ≤ 40 := by omega
            have cl := hd (fun v' w' (hS : Sl w' v' 5 ((x :: xs).map DNode.enc)) => clone_node (x :: xs) v' w' (by simp; omega) hS)
            clear hres hft hxk
            clear hsp hxs henc hout hbd hxl hrr hsr hse hfn hnn hpf hpfj hmkj hunj hmk hun hcy hcn hi hww hrts hgP hj hjr
            replace h5 := hd h5
            go_upto_region 8 with (fail)
            go_region_held3 (fun w' => w'.cell? ⟨w.heap.size, 0, none⟩ = some (.slice (some ⟨b1, o1, none⟩) ln.length cv) ∧ w2.heap.size ≤ w'.heap.size)
              (first | exact ⟨by go_keep, by first | exact hb25.out.size | exact Nat.le_trans hb25.out.size (Nat.le_refl _)⟩ | (go_split_ands; refine ⟨?_, ?_⟩ <;> first | exact keepCell hbA (by assumption) | exact Nat.le_trans (by assumption) hbA.size | exact keepCell hbC (by assumption) | exact Nat.le_trans (by assumption) hbC.size))
              (first
                | (go_at_call 86; refine (cft.out _ (by first | exact hB5.out.drew | exact hB5.out) (by first | exact hb25.out.drew | exact hb25.out)).mono ?_; rintro eA wA ⟨rfl, hbA⟩)
                | (go_at_call 85; refine (cl.out _ _ (cs.out _ (C1.out.mono (by first | exact hB5.out.drew.next hbA | exact hB5.out.next hbA)) _)).mono ?_; rintro eC wC ⟨v11, rfl, ho11, hbC⟩))
            all_goals
              have hAC := hd (show Below w5.heap.size w5 wC from by first | exact (hbA.drewL).next hbC | exact (Below.refl _ _).drew.next (hbA.next hbC) | exact hbA.next hbC)
              have hBC := hd (hB5.out.next hAC.out)
              have hxC := hd (hx5.out.below hAC.out)
              have hz5 : w.heap.size + 4 ≤ wA.heap.size := by have h1 := hb25.out.size; have h3 : w5.heap.size ≤ wA.heap.size := (by first | exact hbA.size | exact hbA.drewL.size); omega
              have ho := hd (ho11.weaken (B' := w.heap.size + 4) hz5)
              obtain ⟨g, c11, rfl, hg1, hg2⟩ := ho.out.addr (by simp)
              rw [show ((x :: xs).map DNode.enc).length = xs.length + 1 by simp] at ho ⊢
              have u2 := ho.out.cell (i := 0) (j := 2) (r := x.enc) (u := .int .i64 x.no) rfl rfl
              rw [Nat.zero_mul, Nat.zero_add] at u2
              have hs1 := ho.out.store (i := 0) (j := 2) (r := x.enc) rfl (by decide) (.int .i64 0)
              rw [Nat.zero_mul, Nat.zero_add] at hs1
              have u3 := hs1.1.cell (i := 0) (j := 3) (r := x.enc.set 2 (.int .i64 0)) (u := .int .i64 x.up) rfl rfl
              have hs2 := hs1.1.store (i := 0) (j := 3) (r := x.enc.set 2 (.int .i64 0)) rfl (by decide) (.int .i64 (-1))
              rw [Nat.zero_mul, Nat.zero_add] at hs2 u3
              have hO9 := hd (show Own ((wC.setCell ⟨g, 2, none⟩ (.int .i64 0)).setCell ⟨g, 3, none⟩ (.int .i64 (-1))) (w.heap.size + 4) 113 5 (.slice (some ⟨g, 0, none⟩) (xs.length + 1) c11) ((segUp x xs a 0).map DNode.enc) from by rw [segUp_zero]; exact hs2.1)
              have hG9 := hd (grownBy_trans hs1.2 hs2.2 (.inl rfl))
              have hB9 := hd (hBC.out.grown hG9.out hBC.out.size (fun k hk => by cases hk; omega))
              have hx9 := hd (hxC.out.grown hG9.out (fun e => by have : w.heap.size + 1 + 1 + 1 = g := Option.some.inj e; omega))
              have p1 := u2.1
              have p2 := u2.2
              have p3 := u3.1
              have p4 := u3.2
              clear hs1 hs2 u2 u3 ho11 hbA hbC
              go_upto_region 10 with (fail)
              generalize (wC.setCell ⟨g, 2, none⟩ (.int .i64 0)).setCell ⟨g, 3, none⟩ (.int .i64 (-1)) = W9 at *
              have hz9 : g < W9.heap.size := by have := hG9.out.size; omega
              clear p1 p2 p3 p4
              obtain ⟨A9, hA9⟩ := tail_run g xs.length c11
              go_wp2_with fail
              clear hA9
              go_loopw [64] (fun n wr => ∃ k : Nat, k ≤ xs.length ∧ n = .int .i64 k ∧ Hd (Own wr (w.heap.size + 4) 113 5 (.slice (some ⟨g, 0, none⟩) (xs.length + 1) c11) ((segUp x xs a k).map DNode.enc)) ∧ Hd (W9.grownBy wr (some g))) (fun n _ => xs.length - (intOf n).toNat)
              case atStart => exact ⟨0, Nat.zero_le _, rfl, hO9.out, grownBy_refl _ _⟩
              case round =>
                obtain ⟨k, hk, rfl, hOk, hGk⟩ := hrel
                obtain ⟨wo, rfl⟩ : ∃ wo : World, wo = wr := ⟨_, rfl⟩
                by_cases hlt : k < xs.length
                · have hltI2 : (k : Int) < (xs.length : Int) := by omega
                  have hltI3 : (k : Int) + 1 < (xs.length : Int) + 1 := by omega
                  have hk0 : (0 : Int) ≤ (k : Int) := by omega
                  have hku := hups.out k hlt
                  have hrow : ((segUp x xs a k).map DNode.enc)[k + 1]? = some xs[k].enc := by rw [List.getElem?_map, segUp_at hlt]; rfl
                  have v3 := hOk.out.cell (i := k + 1) (j := 3) (r := xs[k].enc) (u := .int .i64 xs[k].up) hrow rfl
                  have hst := hOk.out.store (i := k + 1) (j := 3) (r := xs[k].enc) hrow (by decide) (.int .i64 (xs[k].up - a))
                  have hset : ((segUp x xs a k).map DNode.enc).set (k + 1) (xs[k].enc.set 3 (.int .i64 (xs[k].up - a))) = (segUp x xs a (k + 1)).map DNode.enc := by
                    rw [← segUp_step hlt, List.map_set]; rfl
                  rw [hset] at hst
                  have hOn := hd hst.1
                  have hGn := hd (grownBy_trans hGk.out hst.2 (.inl rfl))
                  have p1 := v3.1
                  have p2 := v3.2
                  have hu1 := hku.1
                  have hu2 : xs[k].up ≤ 1000000000 := by omega
                  clear hrow v3 hst hset hku
                  generalize xs[k].up = un at *
                  go_wp2_with fail
                  go_roundw
                  case rel => exact ⟨k + 1, by omega, by go_num, hOn.out, hGn.out⟩
                  case measure => simp [intOf]; omega
                · obtain rfl : k = xs.length := by omega
                  have hltI2 : ¬ (xs.length : Int) < (xs.length : Int) := by omega
                  have hxo := hd (hx9.out.grown hGk.out (fun e => by have : w.heap.size + 1 + 1 + 1 = g := Option.some.inj e; omega))
                  have hBo := hd (hB9.out.grown hGk.out hB9.out.size (fun k hk => by cases hk; omega))
                  have Q1 := hxo.out.1; have Q2 := hxo.out.2
                  go_wp2_with fail
                  refine bodyPost_ret (v := .tuple #[.agg #[.slice (some ⟨g, 0, none⟩) (xs.length + 1) c11], .bool true]) (by simp [results, Try.results39, go_sem, Q1]) rfl ?_
                  rw [hrr2.out.1, hrr2.out.2]
                  exact AggbPost.of (rb := some g) (ownR_store (b := w.heap.size + 1 + 1 + 1) hOk.out.r (by omega) (by omega)) (hBo.out.setCell (by show w.heap.size ≤ w.heap.size + 1 + 1 + 1; omega) _)
          · have hno := hd (hcn.out (fun q => by
              obtain ⟨_, i, hi⟩ := hun.out q
              exact none_first hnone2 hi))
            have hz1 := hnn.out hnone2
            rw [hz.out] at hz1
            subst hz1
            have Q1 := hx5.out.1; have Q2 := hx5.out.2
            clear hmkj hunj
            replace h5 := hd h5
            go_wp2_with fail
            exact bodyPost_ret (v := .tuple #[.agg #[.slice none 0 0], .bool false]) (by simp [results, Try.results39, go_sem, Q1]) rfl (hret.out _ hB5.out hno.out)
        · have h5b : (y.of != 5) = true := by simpa using h5
          have hno := hd (hcn.out (fun q => h5 (hunj.out q)))
          have Q1 := hx5.out.1; have Q2 := hx5.out.2
          clear hmkj hunj
          replace h5 := hd h5
          go_wp2_with fail
          exact bodyPost_ret (v := .tuple #[.agg #[.slice none 0 0], .bool false]) (by simp [results, Try.results39, go_sem, Q1]) rfl (hret.out _ hB5.out hno.out)
      · obtain rfl := hp2 hnone
        have hno := hd (hcn.out (fun q => by
          obtain ⟨⟨j', hj', _⟩, _⟩ := hun.out q
          exact none_first hnone hj'))
        clear hp1 hp2
        generalize fidx (upIs no) ln = z at *
        go_wp2_with fail
        refine ci4.out.mono ?_
        rintro e5 w5 ⟨rfl, hb5⟩
        have hB5 := hd (hB4.out.next hb5)
        have hx5 := hd (hx4.out.below hb5)
        clear hb5 q0 q2'
        have Q1 := hx5.out.1; have Q2 := hx5.out.2
        go_wp2_with fail
        exact bodyPost_ret (v := .tuple #[.agg #[.slice none 0 0], .bool false]) (by simp [results, Try.results39, go_sem, Q1]) rfl (hret.out _ hB5.out hno.out)
end Go.Proofs.Ytobahkjbadamhaa

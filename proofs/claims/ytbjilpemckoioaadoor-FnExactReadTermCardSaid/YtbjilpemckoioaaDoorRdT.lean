/- A term out of its text: what ReadTerm needs beside the readers (the size and the cells of a term by value; plain laws). -/
import Derived.Test.YtbjilpemckoioaaDoorRdS
import Derived.Test.YtbjilpemckoioaaDoorTermText
namespace Go.Proofs.YtbjilpemckoioaaDoor
open Go.RowKit
set_option linter.unusedVariables false
set_option maxRecDepth 100000
theorem rtI_tt (s : List UInt8) : rtI s = if (ttR (flK (lrd 201 s).1)).2 = true ∧ (ttR (flK (lrd 201 s).1)).1 = s then some (flK (lrd 201 s).1) else none := by
  rw [rtI]
  cases h : termT (flK (lrd 201 s).1) with
  | none => rw [ttR_n h, if_neg (by rintro ⟨e, _⟩; cases e)]; rfl
  | some t =>
    rw [ttR_s h, Option.bind_some]
    by_cases e : txK t = s
    · rw [if_pos e, if_pos ⟨rfl, e⟩]
    · rw [if_neg e, if_neg (fun g => e g.2)]
theorem prs_names : ∀ f, (∀ d s t r, prs f d s = some (t, r) → ∀ x ∈ flK t, x.name.size ≤ s.length) ∧ (∀ d m s ks r, pks f d m s = some (ks, r) → ∀ k ∈ ks, ∀ x ∈ flK k, x.name.size ≤ s.length) := by
  intro f
  induction f with
  | zero =>
    refine ⟨fun d s t r h => ?_, fun d m s ks r h => ?_⟩
    · rw [prs] at h; cases h
    · rw [pks] at h; cases h; intro k hk; cases hk
  | succ f ih =>
    refine ⟨fun d s t r h x hx => ?_, fun d m s ks r h k hk x hx => ?_⟩
    · have hlen := congrArg List.length (tk_cat s)
      rw [List.length_append] at hlen
      have hz : (mkS (s.takeWhile az)).size = (s.takeWhile az).length := mkS_size _
      rw [prs] at h
      split at h
      · cases h
        rw [tmK, flK, flL, List.mem_singleton] at hx; rw [hx]; exact Nat.zero_le _
      · split at h
        · cases h
        · split at h
          · cases h
            rw [tmK, flK, flL, List.mem_singleton] at hx; rw [hx]; show (mkS (s.takeWhile az)).size ≤ _; omega
          · obtain ⟨q, hq, h⟩ := Option.bind_eq_some_iff.1 h
            split at h
            · cases h
              rw [tmK, flK] at hx
              rcases List.mem_cons.1 hx with rfl | hx
              · show (mkS (s.takeWhile az)).size ≤ _; omega
              · obtain ⟨k, hk, hx⟩ := flL_mem hx
                have := ih.2 _ _ _ q.1 q.2 hq k hk x hx
                omega
            · cases h
    · rw [pks] at h
      split at h
      · rename_i hp
        obtain ⟨r0, rfl⟩ := hasP1.1 hp
        rw [List.drop_succ_cons, List.drop_zero] at h
        obtain ⟨p, hp1, h⟩ := Option.bind_eq_some_iff.1 h
        obtain ⟨q, hq, h⟩ := Option.map_eq_some_iff.1 h
        cases h
        have h1 := ((prs_text f).1 _ _ p.1 p.2 hp1).2.2
        rw [List.length_cons]
        rcases List.mem_cons.1 hk with rfl | hk
        · have := ih.1 _ _ p.1 p.2 hp1 x hx; omega
        · have := ih.2 _ _ _ q.1 q.2 hq k hk x hx; omega
      · cases h; cases hk
theorem ownR_storeA {w : World} {b o B B2 E sz : Nat} {v u : Value} {rows : List (List Value)} {rb : Option Nat} (h : OwnR w B E sz v rows rb) (hB : B2 ≤ B) (hb : b < B) : OwnR (w.setCell ⟨b, o, none⟩ u) B2 E sz v rows rb := by
  have h2 := h.kept (grownBy_setCell w ⟨b, o, none⟩ u) (by
    cases hrb : rb with
    | none => exact .inl rfl
    | some g => right; intro e; have := (h.lt g hrb).1; have e2 : g = b := Option.some.inj e; omega)
  rcases h2 with ⟨g1, g2⟩ | g
  · exact .inl ⟨g1, g2.weaken hB⟩
  · exact .inr g
theorem AggbPost.ofA {E : TypeId} {sz : Nat} {rows : List (List Value)} {b : Bool} {w w' : World} {v : Value} {rb : Option Nat} (h1 : OwnR w' w.heap.size E sz v rows rb) (h2 : Below w.heap.size w w') : AggbPost E sz rows b w (.returned (.tuple #[.agg #[v], .bool b])) w' := ⟨v, rb, rfl, h1, h2⟩
set_option maxHeartbeats 1600000 in
theorem size6_s (t : K) : ∀ (r : List Value) (w : World) (S : Nat → Prop), (∀ q, S q → q < w.heap.size) → countK t ≤ 1000000 → RepZ HT 3 w S t r → Calls Tryd.prog 22 #[.agg r.toArray] w (IntPost (countK t : Nat) w) := by
  refine K.ind2 (P := fun t => ∀ (r : List Value) (w : World) (S : Nat → Prop), (∀ q, S q → q < w.heap.size) → countK t ≤ 1000000 → RepZ HT 3 w S t r → Calls Tryd.prog 22 #[.agg r.toArray] w (IntPost (countK t : Nat) w)) ?_ t
  intro t ih r w S hSw hc h
  have ih := hd ih
  obtain ⟨a, c, rows, rfl, hS, hl, hg⟩ := h.openT
  have hg := hd hg
  have hz := hd (countK_eq t)
  have hcc : countL t.parts ≤ 1000000 := by have := countK_eq t; omega
  have hcp := hd (fun p (hp : p ∈ t.parts) => Nat.le_trans (count_part hp) hcc)
  have hbnd := hd (fun k => countL_le t.parts k)
  clear h hc
  have hpl : t.parts.length ≤ 1000000 := by have := len_count t.parts; omega
  generalize hps : t.parts = ps at *
  replace hps := hd hps
  generalize t.of = o at *
  generalize t.name = nm at *
  have hX := hd (BoxN.new w [.int .i64 o, .string nm, .slice a ps.length c] 41)
  have hbW := hd (below_a1 w (a := .cells #[.int .i64 o, .string nm, .slice a ps.length c] 41))
  change Hd (BoxN (w.alloc (.cells #[.int .i64 o, .string nm, .slice a ps.length c] 41)) _ _) at hX
  go_enter Tryd.func22, Tryd.ntmps22
  go_upto_region 2 with (fail)
  generalize w.alloc (.cells #[.int .i64 o, .string nm, .slice a ps.length c] 41) = W at *
  have x0 := hX.out.1 0 _ rfl; have x1 := hX.out.1 1 _ rfl; have x2 := hX.out.1 2 _ rfl
  go_wp2_with fail
  clear x0 x1 x2
  go_loopw [3, 9] (fun m i wr => ∃ k : Nat, k ≤ ps.length ∧ i = .int .i64 k ∧ m = .int .i64 (1 + (countL (ps.take k) : Nat)) ∧ Hd (Below W.heap.size W wr)) (fun _ i _ => ps.length - (intOf i).toNat)
  case atStart => exact ⟨0, Nat.zero_le _, rfl, by rw [List.take_zero, countL]; rfl, Below.refl _ _⟩
  case round =>
    obtain ⟨k, hk, rfl, rfl, hbl⟩ := hrel
    obtain ⟨wo, rfl⟩ : ∃ wo : World, wo = wr := ⟨_, rfl⟩
    have hbw := hd (hbW.out.next hbl.out)
    by_cases hlt : k < ps.length
    · have hltI : (k : Int) < (ps.length : Int) := by omega
      obtain ⟨b1, rfl, hb1, hc1⟩ := hS.at (j := k) (by omega)
      have hp := RepZ.same (SameS.below hbw.out hSw) (fun _ h => h) _ _ (hg.out k hlt (by omega))
      obtain ⟨ak, ck, rowsk, hrk, hjk⟩ := hp.openT
      clear hjk
      have hck := hc1 k (by omega)
      rw [hrk] at hck hp
      have d0 := keepCell hbw.out (show w.cell? ⟨b1, k * 3, none⟩ = _ from hck 0 _ rfl)
      have d1 := keepCell hbw.out (hck 1 _ rfl)
      have d2 := keepCell hbw.out (hck 2 _ rfl)
      have hi := hd (fun w' (hb : Below wo.heap.size wo w') => ih.out ps[k] (List.getElem_mem hlt) _ w' S (fun q h => Nat.lt_of_lt_of_le (hSw q h) (Nat.le_trans hbw.out.size hb.size)) (hcp.out _ (List.getElem_mem hlt)) (RepZ.same (SameS.below hb (fun q h => Nat.lt_of_lt_of_le (hSw q h) hbw.out.size)) (fun _ h => h) _ _ hp))
      have hba := hd (fun o => below_a1 wo (a := o))
      have htk := countL_take hlt
      have hb9 := hbnd.out (k + 1)
      clear hc1 hck hrk hp
      generalize ps[k] = p at *
      generalize countK p = n1 at *
      generalize countL (ps.take k) = n0 at *
      replace htk := hd htk
      have hs9 : (n0 : Int) + n1 ≤ 1000000 := by have := htk.out; omega
      go_wp2_with fail
      refine (hi.out _ (hba.out _)).mono ?_
      rintro e w2 ⟨rfl, hb2⟩
      have hbl2 := hd (hbl.out.next ((hba.out _).next hb2))
      clear hb2
      go_wp2_with fail
      go_roundw
      case rel => exact ⟨k + 1, by omega, by go_num, by congr 1; have := htk.out; omega, hbl2⟩
      case measure => simp [intOf]; omega
    · obtain rfl : k = ps.length := by omega
      have hltI : ¬ (ps.length : Int) < (ps.length : Int) := by omega
      rw [List.take_length]
      go_wp2_with fail
      go_ret
      exact ⟨by rw [hz.out, Int.natCast_add]; rfl, hbw.out⟩
def OfPost (rows : List (List Value)) (w : World) (e : Ending) (w' : World) : Prop :=
  ∃ v rb, e = .returned (.agg #[v]) ∧ OwnR w' w.heap.size 64 3 v rows rb ∧ Below w.heap.size w w'
set_option maxHeartbeats 1600000 in
theorem of6_s (t : K) (r : List Value) (w : World) (S : Nat → Prop) (hSw : ∀ q, S q → q < w.heap.size) (hc : countK t ≤ 1000000) (h : RepZ HT 3 w S t r) :
    Calls Tryd.prog 23 #[.agg r.toArray] w (OfPost ((flK t).map DCell.enc) w) := by
  have cc := hd (fun w' (hw : Below w.heap.size w w') => flat6_s t r [] (.slice none 0 0) w' S w'.heap.size (fun q h => Nat.lt_of_lt_of_le (hSw q h) hw.size) (Nat.le_refl _) (by simp; omega) (RepZ.same (SameS.below hw hSw) (fun _ h => h) _ _ h) Own.nil)
  rw [List.nil_append] at cc
  obtain ⟨a, c, rows, rfl, hjk⟩ := h.openT
  clear h hjk hSw hc
  generalize flK t = fl at *
  have hb1 := hd (below_a2 w (a := .cells #[.int .i64 t.of, .string t.name, .slice a t.parts.length c] 41) (b := .cells #[.slice none 0 0] 30))
  have hX := hd (show BoxN ((w.alloc (.cells #[.int .i64 t.of, .string t.name, .slice a t.parts.length c] 41)).alloc (.cells #[.slice none 0 0] 30)) w.heap.size [.int .i64 t.of, .string t.name, .slice a t.parts.length c] from (BoxN.new w _ _).below (below_a1 _))
  have hXr := hd (show Box1 ((w.alloc (.cells #[.int .i64 t.of, .string t.name, .slice a t.parts.length c] 41)).alloc (.cells #[.slice none 0 0] 30)) (w.heap.size + 1) (.slice none 0 0) from ⟨by go_simp, by go_simp⟩)
  have hsW : w.heap.size + 2 ≤ ((w.alloc (.cells #[.int .i64 t.of, .string t.name, .slice a t.parts.length c] 41)).alloc (.cells #[.slice none 0 0] 30)).heap.size := by simp
  go_enter Tryd.func23, Tryd.ntmps23
  go_upto_region 1 with (fail)
  generalize (w.alloc (.cells #[.int .i64 t.of, .string t.name, .slice a t.parts.length c] 41)).alloc (.cells #[.slice none 0 0] 30) = W at *
  have x0 := hX.out.1 0 _ rfl; have x1 := hX.out.1 1 _ rfl; have x2 := hX.out.1 2 _ rfl
  go_wp2_with fail
  refine (cc.out _ hb1.out).mono ?_
  rintro e w3 ⟨v3, rfl, ho3, hG3⟩
  have hB23 := hd (hG3.below (B := W.heap.size) (Nat.le_refl _) (by intro g hg; cases hg))
  have hx3 := hXr.out.below hB23.out
  have hB3 := hd (hb1.out.next hB23.out)
  obtain ⟨a3, c3, rfl, hjk⟩ := ho3.sl
  clear hjk
  simp only [List.length_map] at ho3 ⊢
  have Q1 := hx3.1; have Q2 := hx3.2
  replace ho3 := hd ho3
  clear hG3 hx3
  go_wp2_with fail
  exact bodyPost_ret (v := .agg #[.slice a3 fl.length c3]) (by simp [results, Tryd.results23, go_sem, Q1]) rfl ⟨_, (Value.slice a3 fl.length c3).ownBlock, rfl, ownR_storeA ho3.out.r (by omega) (by omega), hB3.out.setCell (by simp) _⟩
end Go.Proofs.YtbjilpemckoioaaDoor

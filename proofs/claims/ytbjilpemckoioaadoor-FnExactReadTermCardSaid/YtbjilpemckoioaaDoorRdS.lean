/- A term out of its text: l6Parse of the reference. -/
import Derived.Test.YtbjilpemckoioaaDoorRdI
import Derived.Test.YtbjilpemckoioaaDoorTermS
namespace Go.Proofs.YtbjilpemckoioaaDoor
open Go.RowKit
set_option linter.unusedVariables false
set_option maxRecDepth 100000
def PsPost (s : ByteArray) (o : Option (K × List UInt8)) (w : World) (e : Ending) (w' : World) : Prop := match o with
  | none => e = .returned (.tuple #[.agg #[.int .i64 0, .string ⟨#[]⟩, .slice none 0 0], .int .i64 0]) ∧ Below w.heap.size w w'
  | some (t, r) => ∃ (rows : List Value) (k : Nat), e = .returned (.tuple #[.agg rows.toArray, .int .i64 k]) ∧ (0 < k ∧ k ≤ s.size ∧ r = s.data.toList.drop k) ∧ RepZ HT 3 w' (NewB w w') t rows ∧ Below w.heap.size w w'
theorem PsPost_n {s : ByteArray} {w w' : World} {e : Ending} (h : PsPost s none w e w') : e = .returned (.tuple #[.agg #[.int .i64 0, .string ⟨#[]⟩, .slice none 0 0], .int .i64 0]) ∧ Below w.heap.size w w' := h
theorem PsPost_s {s : ByteArray} {t : K} {r : List UInt8} {w w' : World} {e : Ending} (h : PsPost s (some (t, r)) w e w') : ∃ (rows : List Value) (k : Nat), e = .returned (.tuple #[.agg rows.toArray, .int .i64 k]) ∧ (0 < k ∧ k ≤ s.size ∧ r = s.data.toList.drop k) ∧ RepZ HT 3 w' (NewB w w') t rows ∧ Below w.heap.size w w' := h
theorem drop1 {s : ByteArray} {k : Nat} (h : k < s.size) : s.data.toList.drop k = s[k] :: s.data.toList.drop (k + 1) :=
  List.drop_eq_getElem_cons (show k < s.data.toList.length from h)
theorem dropL (s : ByteArray) (k : Nat) : (s.data.toList.drop k).length = s.size - k := by rw [List.length_drop]; rfl
theorem hasPd {s : ByteArray} {k : Nat} {m : UInt8} (h : k < s.size) : Lib.hasPrefix (s.data.toList.drop k) [m] = (s[k] == m) := by
  rw [drop1 h, Bool.eq_iff_iff, hasP1, beq_iff_eq]
  constructor
  · rintro ⟨r, e⟩; cases e; rfl
  · rintro rfl; exact ⟨_, rfl⟩
theorem hasPe {s : ByteArray} {k : Nat} {m : UInt8} (h : ¬ k < s.size) : Lib.hasPrefix (s.data.toList.drop k) [m] = false := by
  rw [List.drop_of_length_le (by have : s.data.toList.length = s.size := rfl; omega)]; rfl
theorem u8_eq {c m : UInt8} : ((c.toNat : Int) == (m.toNat : Int)) = (c == m) := by
  rw [Bool.eq_iff_iff, beq_iff_eq, beq_iff_eq]
  exact ⟨fun h => UInt8.toNat_inj.1 (by omega), fun h => by rw [h]⟩
theorem dgt_iff {c : UInt8} : dgt c = true ↔ 49 ≤ c.toNat ∧ c.toNat ≤ 57 := by rw [dgt, Bool.and_eq_true, decide_eq_true_eq, decide_eq_true_eq]
/-- The first letters from k on, and none behind them. -/
theorem tknk {s : ByteArray} {k e : Nat} (hke : k ≤ e) (hk : e ≤ s.size) (h : ∀ i (hi : i < s.size), k ≤ i → i < e → az s[i] = true) (he : ∀ hi : e < s.size, az s[e] = false) : (s.data.toList.drop k).takeWhile az = (s.data.toList.drop k).take (e - k) ∧ (s.data.toList.drop k).dropWhile az = s.data.toList.drop e := by
  have hl : s.data.toList.length = s.size := rfl
  have h1 := tk_of (l := (s.data.toList.drop k).take (e - k)) (r := s.data.toList.drop e) (fun c hc => by
    obtain ⟨i, hi, rfl⟩ := List.getElem_of_mem hc
    rw [List.length_take, List.length_drop] at hi
    rw [List.getElem_take, List.getElem_drop]
    exact h (k + i) (by omega) (by omega) (by omega)) (fun c r' e2 => by
    by_cases hk2 : e < s.size
    · rw [drop1 hk2] at e2; cases e2; exact he hk2
    · rw [List.drop_of_length_le (by omega)] at e2; cases e2)
  have h2 : s.data.toList.drop e = (s.data.toList.drop k).drop (e - k) := by rw [List.drop_drop]; congr 1; omega
  rw [h2, List.take_append_drop] at h1
  rw [h2]; exact h1
theorem ext_mid (s : ByteArray) {k e : Nat} (h : k ≤ e) : s.extract k e = mkS ((s.data.toList.drop k).take (e - k)) := by
  rw [Lib.extract_eq]
set_option maxHeartbeats 6400000 in
theorem parse_s (s : ByteArray) (hsz : s.size ≤ 1000) : ∀ (N f k d : Nat) (w : World), f ≤ N → s.size < k + f → k ≤ s.size → N ≤ 1000 → d + f ≤ 100000 →
    Calls Tryd.prog 21 #[.string s, .int .i64 k, .int .i64 d] w (PsPost s (prs f d (s.data.toList.drop k)) w) := by
  intro N
  induction N with
  | zero => intro f k d w hf hs hk; omega
  | succ N ih =>
    intro f k d w hf hs hk hN hd1
    cases f with
    | zero => omega
    | succ f =>
    replace ih := hd ih
    have hX := hd (show BoxN (w.alloc (.cells #[.int .i64 0, .string ⟨#[]⟩, .slice none 0 0] 41)) w.heap.size [.int .i64 0, .string ⟨#[]⟩, .slice none 0 0] from BoxN.new w _ _)
    have hbW := hd (below_a1 w (a := .cells #[.int .i64 0, .string ⟨#[]⟩, .slice none 0 0] 41))
    have hsW : w.heap.size + 1 ≤ (w.alloc (.cells #[.int .i64 0, .string ⟨#[]⟩, .slice none 0 0] 41)).heap.size := by simp
    have hret := hd (fun (wr : World) (hw : Below w.heap.size w wr) => (show PsPost s none w (.returned (.tuple #[.agg #[.int .i64 0, .string ⟨#[]⟩, .slice none 0 0], .int .i64 0])) (setCells wr w.heap.size 0 [.int .i64 0, .string ⟨#[]⟩, .slice none 0 0]) from
      ⟨rfl, hw.grown (grownBy_setCells w.heap.size [.int .i64 0, .string ⟨#[]⟩, .slice none 0 0] wr 0) hw.size (fun g hg => by cases hg; exact Nat.le_refl _)⟩))
    obtain ⟨o, ho⟩ : ∃ o, prs (f + 1) d (s.data.toList.drop k) = o := ⟨_, rfl⟩
    obtain ⟨gv, hgv⟩ : ∃ gv : Bool, decide (1 < (s.data.toList.drop k).length ∧ Lib.hasPrefix (s.data.toList.drop k) [36] = true ∧ dgt ((s.data.toList.drop k).getD 1 0) = true) = gv := ⟨_, rfl⟩
    have hv := hd (fun (h1 : gv = true) => (show ∃ h : k + 1 < s.size, dgt s[k+1] = true ∧ o = some (tmK ((s[k+1].toNat : Int) - 48) ⟨#[]⟩ [], s.data.toList.drop (k + 2)) from by
      rw [h1, decide_eq_true_eq] at hgv
      have hlt : k + 1 < s.size := by have := hgv.1; rw [dropL] at this; omega
      have h2 : (s.data.toList.drop k).getD 1 0 = s[k+1] := by rw [drop1 (show k < s.size by omega), drop1 hlt]; rfl
      refine ⟨hlt, by rw [← h2]; exact hgv.2.2, ?_⟩
      rw [← ho, prs, if_pos hgv, h2, List.drop_drop]))
    have hn := hd (fun (h1 : gv = false) => (show o = if (s.data.toList.drop k).takeWhile az = [] ∨ 40 < d then none
      else if Lib.hasPrefix ((s.data.toList.drop k).dropWhile az) [40] = false then some (tmK 0 (mkS ((s.data.toList.drop k).takeWhile az)) [], (s.data.toList.drop k).dropWhile az)
      else (pks f d 40 ((s.data.toList.drop k).dropWhile az)).bind (fun q => if Lib.hasPrefix q.2 [41] = true then some (tmK 0 (mkS ((s.data.toList.drop k).takeWhile az)) q.1, q.2.drop 1) else none) from by
      rw [h1, decide_eq_false_iff_not] at hgv
      rw [← ho, prs, if_neg hgv]))
    rw [ho]
    have hgc := hd (fun (h : k + 1 < s.size) => (show gv = ((s[k] == 36) && dgt s[k+1]) from by
      have h2 : (s.data.toList.drop k).getD 1 0 = s[k+1] := by rw [drop1 (show k < s.size by omega), drop1 h]; rfl
      rw [← hgv, h2, hasPd (show k < s.size by omega), dropL]
      rw [Bool.eq_iff_iff, decide_eq_true_eq, Bool.and_eq_true]
      exact ⟨fun g => g.2, fun g => ⟨by omega, g⟩⟩))
    have hgd := hd (fun (h : ¬ k + 1 < s.size) => (show gv = false from by
      rw [← hgv, decide_eq_false_iff_not, dropL]; omega))
    clear ho hgv
    go_enter Tryd.func21, Tryd.ntmps21
    go_upto_region 1 with (fail)
    generalize w.alloc (.cells #[.int .i64 0, .string ⟨#[]⟩, .slice none 0 0] 41) = W at *
    go_cut [36] from 12 to 35 (fun t wy => t = .bool gv ∧ wy = W)
    case first =>
      clear hv hn ih hret hbW hX
      by_cases h1 : k + 1 < s.size
      · have h1I : (k : Int) + 1 < (s.size : Int) := by omega
        have hk1 : k < s.size := by omega
        have hg := hd (hgc.out h1)
        have e36 := hd (u8_eq (c := s[k]) (m := 36))
        have hdg := hd (dgt_iff (c := s[k+1]))
        clear hgc hgd
        by_cases h2 : s[k] = 36
        · have h2b : ((s[k].toNat : Int) == 36) = true := by rw [h2]; rfl
          by_cases h3 : 49 ≤ s[k+1].toNat
          · have h3I : (49 : Int) ≤ (s[k+1].toNat : Int) := by omega
            by_cases h4 : s[k+1].toNat ≤ 57
            · have h4I : (s[k+1].toNat : Int) ≤ 57 := by omega
              have h0 := hd (show gv = true from by rw [hg.out, h2, hdg.out.2 ⟨h3, h4⟩]; rfl)
              clear h2 hg e36 hdg
              go_wp2_with fail
              go_meet
              exact ⟨by rw [h0.out], rfl⟩
            · have h4I : ¬ (s[k+1].toNat : Int) ≤ 57 := by omega
              have h0 := hd (show gv = false from by rw [hg.out, show dgt s[k+1] = false from by rw [← Bool.not_eq_true, hdg.out]; omega, Bool.and_false])
              clear h2 hg e36 hdg
              go_wp2_with fail
              go_meet
              exact ⟨by rw [h0.out]; exact congrArg Value.bool (decide_eq_false (by omega)), rfl⟩
          · have h3I : ¬ (49 : Int) ≤ (s[k+1].toNat : Int) := by omega
            have h0 := hd (show gv = false from by rw [hg.out, show dgt s[k+1] = false from by rw [← Bool.not_eq_true, hdg.out]; omega, Bool.and_false])
            clear h2 hg e36 hdg
            go_wp2_with fail
            go_meet
            exact ⟨by rw [h0.out], rfl⟩
        · have h2c : (s[k] == 36) = false := by rw [← Bool.not_eq_true, beq_iff_eq]; exact h2
          have h2b : ((s[k].toNat : Int) == 36) = false := by rw [← h2c]; exact e36.out
          have h0 := hd (show gv = false from by rw [hg.out, h2c, Bool.false_and])
          clear h2 h2c hg e36 hdg
          go_wp2_with fail
          go_meet
          exact ⟨by rw [h0.out], rfl⟩
      · have h1I : ¬ (k : Int) + 1 < (s.size : Int) := by omega
        have h0 := hd (hgd.out h1)
        clear hgc hgd
        go_wp2_with fail
        go_meet
        exact ⟨by rw [h0.out], rfl⟩
    case rest =>
      obtain ⟨rfl, hcw⟩ := hcut
      obtain rfl : W = wc := hcw.symm
      have z0 := hX.out.1 0 _ rfl; have rz0 := hX.out.2.1 0; have z1 := hX.out.1 1 _ rfl; have rz1 := hX.out.2.1 1; have z2 := hX.out.1 2 _ rfl; have rz2 := hX.out.2.1 2
      cases gv with
      | true =>
        obtain ⟨h1, h2, h3⟩ := hv.out rfl
        have h0 := hd h3
        have h2 := dgt_iff.1 h2
        have hnode := hd (nodeZ (w := w) (wr := W) (rb := w.heap.size) (xb := w.heap.size) (E := 41) (B := w.heap.size + 1) (v := (s[k+1].toNat : Int) - 48) (nm := ⟨#[]⟩) (ks := []) (rws := []) (sk := .slice none 0 0) hX.out.2.2 (Nat.le_refl _) Own.nil (Nat.lt_succ_self _) SepZ.nil)
        have h1I : (k : Int) + 1 < (s.size : Int) := by omega
        have hb2 := hd (hbW.out.grown (grownBy_setCells w.heap.size [.int .i64 ((s[k+1].toNat : Int) - 48), .string ⟨#[]⟩, .slice none 0 0] W 0) hbW.out.size (fun g hg => by cases hg; exact Nat.le_refl _))
        clear hv hn ih hgc hgd h3 hret
        go_wp2_with fail
        rw [h0.out]
        exact bodyPost_ret (v := .tuple #[.agg #[.int .i64 ((s[k+1].toNat : Int) - 48), .string ⟨#[]⟩, .slice none 0 0], .int .i64 ((k : Int) + 2)]) (by simp [results, Tryd.results21, go_sem, z0, z1, z2]) rfl ⟨[.int .i64 ((s[k+1].toNat : Int) - 48), .string ⟨#[]⟩, .slice none 0 0], k + 2, by go_num, ⟨by omega, by omega, rfl⟩, hnode.out, hb2.out⟩
      | false =>
      replace hn := hd (hn.out rfl)
      clear hv hgc hgd
      obtain ⟨e, hke, hes, htk, hdk, hex⟩ : ∃ e, k ≤ e ∧ e ≤ s.size ∧ (s.data.toList.drop k).takeWhile az = (s.data.toList.drop k).take (e - k) ∧ (s.data.toList.drop k).dropWhile az = s.data.toList.drop e ∧ e - k = ((s.data.toList.drop k).takeWhile az).length := by
        have e1 := tk_cat (s.data.toList.drop k)
        have e2 := congrArg List.length e1
        rw [List.length_append, dropL] at e2
        have h := (show ∀ l1 l2 : List UInt8, (l1 ++ l2).take l1.length = l1 ∧ (l1 ++ l2).drop l1.length = l2 from fun l1 l2 => ⟨List.take_left' rfl, List.drop_left' rfl⟩) ((s.data.toList.drop k).takeWhile az) ((s.data.toList.drop k).dropWhile az)
        rw [e1] at h
        refine ⟨k + ((s.data.toList.drop k).takeWhile az).length, by omega, by omega, ?_, ?_, by omega⟩
        · rw [Nat.add_sub_cancel_left]; exact h.1.symm
        · rw [← List.drop_drop]; exact h.2.symm
      go_upto_block 0 with (fail)
      go_cut [1] from 47 to 64 (fun n wy => n = .int .i64 e ∧ wy = W)
      case first =>
        have hcnt := hd (fun i (hki : k ≤ i) (hi : i ≤ s.size) (h : ∀ j (hj : j < s.size), k ≤ j → j < i → az s[j] = true) (he : ∀ hi : i < s.size, az s[i] = false) => (show e = i from by
          have h1 := (tknk hki hi h he).1
          rw [h1, List.length_take, dropL] at hex
          omega))
        clear hn ih hX hbW hret htk hdk hex z0 z1 z2 rz0 rz1 rz2
        go_wp2_with fail
        go_loop [1] (fun n => ∃ i : Nat, k ≤ i ∧ i ≤ s.size ∧ n = .int .i64 i ∧ Hd (∀ j (hj : j < s.size), k ≤ j → j < i → az s[j] = true)) (fun n => s.size - (intOf n).toNat)
        case atStart => exact ⟨k, Nat.le_refl _, hk, rfl, fun j hj h h2 => by omega⟩
        case round =>
          obtain ⟨i, hki, hi, rfl, hal⟩ := hrel
          by_cases hlt : i < s.size
          · have hltI : (i : Int) < (s.size : Int) := by omega
            by_cases h1 : 97 ≤ s[i].toNat
            · have h1I : (97 : Int) ≤ (s[i].toNat : Int) := by omega
              by_cases h2 : s[i].toNat ≤ 122
              · have h2I : (s[i].toNat : Int) ≤ 122 := by omega
                have hnx := hd (show ∀ j (hj : j < s.size), k ≤ j → j < i + 1 → az s[j] = true from fun j hj hkj h => by
                  by_cases e : j = i
                  · subst e; exact az_iff.2 ⟨h1, h2⟩
                  · exact hal.out j hj hkj (by omega))
                go_wp2_with fail
                go_round
                case rel => exact ⟨i + 1, by omega, by omega, by go_num, hnx⟩
                case measure => simp [intOf]; omega
              · have hki := hd (hcnt.out i hki hi hal.out (fun hi => by rw [← Bool.not_eq_true, az_iff]; omega))
                have h2I : ¬ (s[i].toNat : Int) ≤ 122 := by omega
                go_wp2_with fail
                go_meet
                exact ⟨by rw [hki.out], rfl⟩
            · have hki := hd (hcnt.out i hki hi hal.out (fun hi => by rw [← Bool.not_eq_true, az_iff]; omega))
              have h1I : ¬ (97 : Int) ≤ (s[i].toNat : Int) := by omega
              go_wp2_with fail
              go_meet
              exact ⟨by rw [hki.out], rfl⟩
          · have hki := hd (hcnt.out i hki hi hal.out (fun hi => absurd hi hlt))
            have hltI : ¬ (i : Int) < (s.size : Int) := by omega
            go_wp2_with fail
            go_meet
            exact ⟨by rw [hki.out], rfl⟩
      case rest =>
        obtain ⟨rfl, hcw⟩ := hcut
        obtain rfl : W = wc := hcw.symm
        have hxt := hd (ext_mid s hke)
        have hnle : ((s.data.toList.drop k).take (e - k)).length = e - k := by rw [← htk]; exact hex.symm
        rw [htk, hdk] at hn
        generalize (s.data.toList.drop k).take (e - k) = nl at *
        have hnlk := hd (show nl = [] ↔ e = k from by rw [← List.length_eq_zero_iff, hnle]; omega)
        generalize mkS nl = nm at *
        have hXn := hd (show BoxN (W.alloc (.cells #[.int .i64 0, .string nm, .slice none 0 0] 41)) W.heap.size [.int .i64 0, .string nm, .slice none 0 0] from BoxN.new W _ _)
        have hal2 := hd (below_a1 W (a := .cells #[.int .i64 0, .string nm, .slice none 0 0] 41))
        have hsN : W.heap.size + 1 ≤ (W.alloc (.cells #[.int .i64 0, .string nm, .slice none 0 0] 41)).heap.size := by simp
        have hkeI : (k : Int) ≤ (e : Int) := by omega
        have hesI : (e : Int) ≤ (s.size : Int) := by omega
        clear htk hdk hex hnle z0 z1 z2 rz0 rz1 rz2
        go_upto_region 7 with (fail)
        rw [hxt.out]
        clear hxt
        generalize W.alloc (.cells #[.int .i64 0, .string nm, .slice none 0 0] 41) = W2 at *
        have hXr := hd (hX.out.below hal2.out)
        have hB2 := hd (hbW.out.next hal2.out)
        have hrb := hX.out.2.2
        have hcb := hXn.out.2.2
        clear hX hbW
        have z0 := hXr.out.1 0 _ rfl; have rz0 := hXr.out.2.1 0; have z1 := hXr.out.1 1 _ rfl; have rz1 := hXr.out.2.1 1; have z2 := hXr.out.1 2 _ rfl; have rz2 := hXr.out.2.1 2
        by_cases hek : e = k
        · have h0 := hd (show o = none from by rw [hn.out, if_pos (.inl (hnlk.out.2 hek))])
          have hekb : ((e : Int) == (k : Int)) = true := by simp; omega
          clear hn ih
          replace hek := hd hek
          go_wp2_with fail
          rw [h0.out]
          exact bodyPost_ret (v := .tuple #[.agg #[.int .i64 0, .string ⟨#[]⟩, .slice none 0 0], .int .i64 0]) (by simp [results, Tryd.results21, go_sem, z0, z1, z2]) rfl (hret.out _ hB2.out)
        · have hekb : ((e : Int) == (k : Int)) = false := by simp; omega
          by_cases hd40 : 40 < d
          · have h0 := hd (show o = none from by rw [hn.out, if_pos (.inr hd40)])
            have hdI : (40 : Int) < (d : Int) := by omega
            clear hn ih
            go_wp2_with fail
            rw [h0.out]
            exact bodyPost_ret (v := .tuple #[.agg #[.int .i64 0, .string ⟨#[]⟩, .slice none 0 0], .int .i64 0]) (by simp [results, Tryd.results21, go_sem, z0, z1, z2]) rfl (hret.out _ hB2.out)
          · have hdI : ¬ (40 : Int) < (d : Int) := by omega
            replace hn := hd (show o = if Lib.hasPrefix (s.data.toList.drop e) [40] = false then some (tmK 0 nm [], s.data.toList.drop e) else (pks f d 40 (s.data.toList.drop e)).bind (fun q => if Lib.hasPrefix q.2 [41] = true then some (tmK 0 nm q.1, q.2.drop 1) else none) from by
              rw [hn.out, if_neg (by rintro (g | g); exact hek (hnlk.out.1 g); exact hd40 g)])
            obtain ⟨g1, hg1⟩ : ∃ g1, Lib.hasPrefix (s.data.toList.drop e) [40] = g1 := ⟨_, rfl⟩
            have hgc := hd (fun (h : e < s.size) => (show g1 = ((s[e].toNat : Int) == 40) from by rw [← hg1, hasPd h]; exact (u8_eq (m := 40)).symm))
            have hgd := hd (fun (h : ¬ e < s.size) => (show g1 = false from by rw [← hg1, hasPe h]))
            rw [hg1] at hn
            clear hg1 hnlk
            go_upto_region 9 with (fail)
            go_cut [87] from 78 to 86 (fun t wy => t = .bool (!g1) ∧ wy = W2)
            case first =>
              clear hn ih hret hXn hal2 hXr hB2 z0 z1 z2 rz0 rz1 rz2
              by_cases hlt : e < s.size
              · have hlb : ((e : Int) == (s.size : Int)) = false := by simp; omega
                have h0 := hd (hgc.out hlt)
                clear hgc hgd
                go_wp2_with fail
                go_meet
                exact ⟨by rw [h0.out]; rfl, rfl⟩
              · have hlb : ((e : Int) == (s.size : Int)) = true := by simp; omega
                have h0 := hd (hgd.out hlt)
                clear hgc hgd
                go_wp2_with fail
                go_meet
                exact ⟨by rw [h0.out]; rfl, rfl⟩
            case rest =>
              obtain ⟨rfl, hcw⟩ := hcut
              obtain rfl : W2 = wc := hcw.symm
              cases g1 with
              | false =>
                have h0 := hd (show o = some (tmK 0 nm [], s.data.toList.drop e) from by rw [hn.out, if_pos rfl])
                have hnode := hd (nodeZ (w := w) (wr := W2) (rb := w.heap.size) (xb := W.heap.size) (E := 41) (B := w.heap.size + 1) (v := 0) (nm := nm) (ks := []) (rws := []) (sk := .slice none 0 0) hXr.out.2.2 (Nat.le_refl _) Own.nil (Nat.lt_succ_self _) SepZ.nil)
                have hb3 := hd (hB2.out.grown (grownBy_setCells w.heap.size [.int .i64 0, .string nm, .slice none 0 0] W2 0) hB2.out.size (fun g hg => by cases hg; exact Nat.le_refl _))
                have x0 := hXn.out.1 0 _ rfl; have rx0 := hXn.out.2.1 0; have x1 := hXn.out.1 1 _ rfl; have rx1 := hXn.out.2.1 1; have x2 := hXn.out.1 2 _ rfl; have rx2 := hXn.out.2.1 2
                clear hn ih hret hgc hgd
                go_wp2_with fail
                rw [h0.out]
                exact bodyPost_ret (v := .tuple #[.agg #[.int .i64 0, .string nm, .slice none 0 0], .int .i64 (e : Int)]) (by simp [results, Tryd.results21, go_sem, z0, z1, z2]) rfl ⟨[.int .i64 0, .string nm, .slice none 0 0], e, rfl, ⟨by omega, by omega, rfl⟩, hnode.out, hb3.out⟩
              | true =>
                replace hn := hd (show o = (pks f d 40 (s.data.toList.drop e)).bind (fun q => if Lib.hasPrefix q.2 [41] = true then some (tmK 0 nm q.1, q.2.drop 1) else none) from by rw [hn.out, if_neg (by decide)])
                have hef : s.size < e + f := by omega
                clear hgc hgd z0 z1 z2 rz0 rz1 rz2
                obtain ⟨i0, hi, hz0, hz1, hz2⟩ := info_parts infoTv
                have Hi := hd hi; have Hz0 := hd hz0; have Hz1 := hd hz1; have Hz2 := hd hz2
                clear hi hz0 hz1 hz2
                go_wp2_with fail
                go_loopw [1] (fun p1 wr => ∃ (f' e' : Nat) (m : UInt8) (ks : List K) (rws : List (List Value)) (sk : Value), p1 = .int .i64 e' ∧ e' ≤ s.size ∧ 0 < e' ∧ s.size < e' + f' ∧ rws.length + f' ≤ f ∧ (rws.length = 0 ∧ m = 40 ∨ 0 < rws.length ∧ m = 44) ∧ Hd (pks f d 40 (s.data.toList.drop e) = (pks f' d m (s.data.toList.drop e')).map (fun q => (ks ++ q.1, q.2))) ∧ Hd (BoxN wr W.heap.size [.int .i64 0, .string nm, sk]) ∧ Hd (Own wr W2.heap.size 41 3 sk rws) ∧ Hd (SepZ HT 3 wr (fun b => w.heap.size < b) W.heap.size sk ks rws) ∧ Hd (W2.grownBy wr (some W.heap.size))) (fun p1 _ => s.size - (intOf p1).toNat)
                case atStart => exact ⟨f, e, 40, [], [], .slice none 0 0, rfl, hes, by omega, hef, by simp, .inl ⟨rfl, rfl⟩, (show pks f d 40 (s.data.toList.drop e) = (pks f d 40 (s.data.toList.drop e)).map (fun q => ([] ++ q.1, q.2)) from by cases pks f d 40 (s.data.toList.drop e) <;> rfl), hXn.out, Own.nil, SepZ.nil, grownBy_refl _ _⟩
                case round =>
                  obtain ⟨f', e', m, ks, rws, sk, rfl, he', he0, hsf, hrf, hm, hpk, hXb, hO, hSep, hG⟩ := hrel
                  obtain ⟨wo, rfl⟩ : ∃ wo : World, wo = wr := ⟨_, rfl⟩
                  cases f' with
                  | zero => omega
                  | succ f' =>
                  have hBo := hd (hB2.out.grown hG.out hB2.out.size (fun g hg => by cases hg; omega))
                  have hXro := hd (hXr.out.grown hG.out (fun e => by have : w.heap.size = W.heap.size := Option.some.inj e; omega))
                  have hzG := hG.out.size
                  obtain ⟨aS, cS, rfl, hjk⟩ := hO.out.sl
                  clear hjk
                  obtain ⟨q, hq⟩ : ∃ q, rws.length = q := ⟨_, rfl⟩
                  rw [hq] at hrf hm hXb hO hSep
                  replace hq := hd hq
                  have x2 := hXb.out.1 2 _ rfl
                  obtain ⟨gm, hgm⟩ : ∃ gm, Lib.hasPrefix (s.data.toList.drop e') [m] = gm := ⟨_, rfl⟩
                  have hgc := hd (fun (h : e' < s.size) => (show gm = ((s[e'].toNat : Int) == (m.toNat : Int)) from by rw [← hgm, hasPd h]; exact (u8_eq (m := m)).symm))
                  have hgd := hd (fun (h : ¬ e' < s.size) => (show gm = false from by rw [← hgm, hasPe h]))
                  replace hgm := hd hgm
                  go_upto_region 11 with (fail)
                  go_cut [117] from 90 to 136 (fun t wy => t = .bool gm ∧ wy = wo)
                  case first =>
                    clear hn ih hret hpk hXb hO hSep hG hBo hXro hgm hXn hal2 hXr hB2
                    by_cases hlt : e' < s.size
                    · have hltI : (e' : Int) < (s.size : Int) := by omega
                      have h0 := hd (hgc.out hlt)
                      clear hgc hgd
                      rcases hm with ⟨hr0, rfl⟩ | ⟨hr0, rfl⟩
                      · have hrb0 : ((q : Int) == 0) = true := beq_iff_eq.2 (by omega)
                        have hrb1 : ¬ 0 < q := by omega
                        have hrb2 : decide (0 < q) = false := decide_eq_false hrb1
                        replace hr0 := hd hr0
                        cases h40 : ((s[e'].toNat : Int) == 40) with
                        | true =>
                          go_wp2_with fail
                          go_meet
                          exact ⟨by rw [h0.out]; exact congrArg Value.bool h40.symm, rfl⟩
                        | false =>
                          cases h44 : ((s[e'].toNat : Int) == 44) with
                          | true =>
                            go_wp2_with fail
                            go_meet
                            exact ⟨by rw [h0.out]; exact congrArg Value.bool h40.symm, rfl⟩
                          | false =>
                            go_wp2_with fail
                            go_meet
                            exact ⟨by rw [h0.out]; exact congrArg Value.bool h40.symm, rfl⟩
                      · have hrb0 : ((q : Int) == 0) = false := by rw [← Bool.not_eq_true, beq_iff_eq]; omega
                        have hrb1 : 0 < q := by omega
                        have hrb2 : decide (0 < q) = true := decide_eq_true hrb1
                        cases h44 : ((s[e'].toNat : Int) == 44) with
                        | true =>
                          have h40 : ((s[e'].toNat : Int) == 40) = false := by
                            rw [← Bool.not_eq_true, beq_iff_eq]; rw [beq_iff_eq] at h44; omega
                          go_wp2_with fail
                          go_meet
                          exact ⟨by rw [h0.out]; exact congrArg Value.bool h44.symm, rfl⟩
                        | false =>
                          cases h40 : ((s[e'].toNat : Int) == 40) with
                          | true =>
                            go_wp2_with fail
                            go_meet
                            exact ⟨by rw [h0.out]; exact congrArg Value.bool h44.symm, rfl⟩
                          | false =>
                            go_wp2_with fail
                            go_meet
                            exact ⟨by rw [h0.out]; exact congrArg Value.bool h44.symm, rfl⟩
                    · have hltI : ¬ (e' : Int) < (s.size : Int) := by omega
                      have h0 := hd (hgd.out hlt)
                      clear hgc hgd
                      go_wp2_with fail
                      go_meet
                      exact ⟨by rw [h0.out], rfl⟩
                  case rest =>
                    obtain ⟨rfl, hcw⟩ := hcut
                    obtain rfl : wo = wc := hcw.symm
                    cases gm with
                    | false =>
                      have hpk2 := hd (show pks f d 40 (s.data.toList.drop e) = some (ks, s.data.toList.drop e') from by
                        rw [hpk.out, pks, if_neg (by rw [hgm.out]; decide), Option.map_some, List.append_nil])
                      replace hn := hd (show o = if Lib.hasPrefix (s.data.toList.drop e') [41] = true then some (tmK 0 nm ks, (s.data.toList.drop e').drop 1) else none from by rw [hn.out, hpk2.out, Option.bind_some])
                      obtain ⟨g2, hg2⟩ : ∃ g2, Lib.hasPrefix (s.data.toList.drop e') [41] = g2 := ⟨_, rfl⟩
                      have hgc := hd (fun (h : e' < s.size) => (show g2 = ((s[e'].toNat : Int) == 41) from by rw [← hg2, hasPd h]; exact (u8_eq (m := 41)).symm))
                      have hgd := hd (fun (h : ¬ e' < s.size) => (show g2 = false from by rw [← hg2, hasPe h]))
                      rw [hg2] at hn
                      clear hg2 hpk hpk2 hgm ih
                      go_upto_region 17 with (fail)
                      go_cut [146] from 137 to 145 (fun t wy => t = .bool (!g2) ∧ wy = wo)
                      case first =>
                        clear hn hret hXb hO hSep hG hBo hXro hXn hal2 hXr hB2 x2
                        by_cases hlt : e' < s.size
                        · have hlb : ((e' : Int) == (s.size : Int)) = false := by rw [← Bool.not_eq_true, beq_iff_eq]; omega
                          have h0 := hd (hgc.out hlt)
                          clear hgc hgd
                          go_wp2_with fail
                          go_meet
                          exact ⟨by rw [h0.out]; rfl, rfl⟩
                        · have hlb : ((e' : Int) == (s.size : Int)) = true := beq_iff_eq.2 (by omega)
                          have h0 := hd (hgd.out hlt)
                          clear hgc hgd
                          go_wp2_with fail
                          go_meet
                          exact ⟨by rw [h0.out]; rfl, rfl⟩
                      case rest =>
                        obtain ⟨rfl, hcw⟩ := hcut
                        obtain rfl : wo = wc := hcw.symm
                        have z0 := hXro.out.1 0 _ rfl; have rz0 := hXro.out.2.1 0; have z1 := hXro.out.1 1 _ rfl; have rz1 := hXro.out.2.1 1; have z2 := hXro.out.1 2 _ rfl; have rz2 := hXro.out.2.1 2
                        cases g2 with
                        | false =>
                          have h0 := hd (show o = none from by rw [hn.out, if_neg (by decide)])
                          clear hn hgc hgd
                          go_wp2_with fail
                          rw [h0.out]
                          exact bodyPost_ret (v := .tuple #[.agg #[.int .i64 0, .string ⟨#[]⟩, .slice none 0 0], .int .i64 0]) (by simp [results, Tryd.results21, go_sem, z0, z1, z2]) rfl (hret.out _ hBo.out)
                        | true =>
                          have h0 := hd (show o = some (tmK 0 nm ks, s.data.toList.drop (e' + 1)) from by rw [hn.out, if_pos rfl, List.drop_drop])
                          have hlt : e' < s.size := Classical.byContradiction (fun h => by have := hgd.out h; cases this)
                          have hnode := hd (nodeZ (w := w) (rb := w.heap.size) (v := 0) (nm := nm) hXro.out.2.2 (Nat.le_refl _) hO.out (by omega) hSep.out)
                          have hgf := hd (grownBy_setCells w.heap.size [.int .i64 0, .string nm, .slice aS q cS] wo 0)
                          have hbf := hd (hBo.out.grown hgf.out hBo.out.size (fun g hg => by cases hg; exact Nat.le_refl _))
                          clear x2
                          have y0 := hXb.out.1 0 _ rfl; have ry0 := hXb.out.2.1 0; have y1 := hXb.out.1 1 _ rfl; have ry1 := hXb.out.2.1 1; have y2 := hXb.out.1 2 _ rfl; have ry2 := hXb.out.2.1 2
                          clear hn hgc hgd hret
                          go_wp2_with fail
                          rw [h0.out]
                          exact bodyPost_ret (v := .tuple #[.agg #[.int .i64 0, .string nm, .slice aS q cS], .int .i64 ((e' : Int) + 1)]) (by simp [results, Tryd.results21, go_sem, z0, z1, z2]) rfl ⟨[.int .i64 0, .string nm, .slice aS q cS], e' + 1, by go_num, ⟨by omega, by omega, rfl⟩, hnode.out, hbf.out⟩
                    | true =>
                      have hlt : e' < s.size := Classical.byContradiction (fun h => by have := hgd.out h; cases this)
                      clear hgc hgd
                      have hpk2 := hd (show pks (f' + 1) d m (s.data.toList.drop e') = (prs f' (d + 1) (s.data.toList.drop (e' + 1))).bind (fun p => (pks f' d 44 p.2).map (fun q => (p.1 :: q.1, q.2))) from by
                        rw [pks, if_pos hgm.out, List.drop_drop])
                      have ci := hd (show Calls Tryd.prog 21 #[.string s, .int .i64 ((e' : Int) + 1), .int .i64 ((d : Int) + 1)] wo (PsPost s (prs f' (d + 1) (s.data.toList.drop (e' + 1))) wo) from ih.out f' (e' + 1) (d + 1) wo (by omega) (by omega) (by omega) (by omega) (by omega))
                      clear ih
                      cases hp1 : prs f' (d + 1) (s.data.toList.drop (e' + 1)) with
                      | none =>
                        rw [hp1] at ci
                        have h0 := hd (show o = none from by rw [hn.out, hpk.out, hpk2.out, hp1]; rfl)
                        clear hp1 hpk hpk2 hn hgm
                        go_upto_region 12 with (fail)
                        go_wp2_with fail
                        refine ci.out.mono ?_
                        intro e w7 hp
                        obtain ⟨rfl, hb7⟩ := PsPost_n hp
                        have hal7 := hd (hb7.next (below_a1 w7 (a := .cells #[.int .i64 0, .string ⟨#[]⟩, .slice none 0 0] 41)))
                        clear hp hb7
                        go_upto_region 13 with (fail)
                        generalize w7.alloc (.cells #[.int .i64 0, .string ⟨#[]⟩, .slice none 0 0] 41) = w8 at *
                        have hB8 := hd (hBo.out.next hal7.out)
                        have hXr8 := hd (hXro.out.below hal7.out)
                        have z0 := hXr8.out.1 0 _ rfl; have rz0 := hXr8.out.2.1 0; have z1 := hXr8.out.1 1 _ rfl; have rz1 := hXr8.out.2.1 1; have z2 := hXr8.out.1 2 _ rfl; have rz2 := hXr8.out.2.1 2
                        go_wp2_with fail
                        rw [h0.out]
                        exact bodyPost_ret (v := .tuple #[.agg #[.int .i64 0, .string ⟨#[]⟩, .slice none 0 0], .int .i64 0]) (by simp [results, Tryd.results21, go_sem, z0, z1, z2]) rfl (hret.out _ hB8.out)
                      | some p =>
                        obtain ⟨t, r⟩ := p
                        have hcn := ((prs_text f').1 _ _ _ _ hp1).2.2
                        rw [dropL] at hcn
                        have hcp := countK_pos t
                        rw [hp1] at ci
                        have hpk3 := hd (show pks f d 40 (s.data.toList.drop e) = (pks f' d 44 r).map (fun q => ((ks ++ [t]) ++ q.1, q.2)) from by
                          rw [hpk.out, hpk2.out, hp1, Option.bind_some]
                          cases pks f' d 44 r <;> simp)
                        clear hp1 hpk hpk2 hn hgm hret
                        go_upto_region 12 with (fail)
                        go_wp2_with fail
                        refine ci.out.mono ?_
                        intro e w7 hp
                        obtain ⟨rows, k7, rfl, ⟨hk70, hk7L, rfl⟩, hR7, hb7⟩ := PsPost_s hp
                        obtain ⟨a7, c7, rows7, rfl, hjk⟩ := hR7.openT
                        rw [dropL] at hcn
                        have hk7I : ((k7 : Int) == 0) = false := by simp; omega
                        have hX7 := hd (show BoxN (w7.alloc (.cells #[.int .i64 t.of, .string t.name, .slice a7 t.parts.length c7] 41)) w7.heap.size [.int .i64 t.of, .string t.name, .slice a7 t.parts.length c7] from BoxN.new w7 _ _)
                        have hal7 := hd (hb7.next (below_a1 w7 (a := .cells #[.int .i64 t.of, .string t.name, .slice a7 t.parts.length c7] 41)))
                        have hxlt := hXb.out.2.2
                        have hzl := hBo.out.size
                        have hR8 := hd (RepZ.same (S' := fun b => wo.heap.size ≤ b ∧ b < w7.heap.size) (SameS.below (below_a1 w7 (a := .cells #[.int .i64 t.of, .string t.name, .slice a7 t.parts.length c7] 41)) (fun b hb => hb.2)) (fun b hb => hb) _ _ hR7)
                        have hz78 := (below_a1 w7 (a := .cells #[.int .i64 t.of, .string t.name, .slice a7 t.parts.length c7] 41)).size
                        clear hp hb7 hjk hR7
                        go_upto_region 15 with (fail)
                        generalize w7.alloc (.cells #[.int .i64 t.of, .string t.name, .slice a7 t.parts.length c7] 41) = w8 at *
                        have hXb8 := hd (hXb.out.below hal7.out)
                        have hO8 := hd (hO.out.below hal7.out)
                        have hS8 := hd ((hSep.out.below hal7.out).snoc hR8.out (fun b hb => ⟨by have := hb.1; omega, by have := hb.2; omega, by have := hb.1; omega, fun e => by have := (hO.out.lt b e).2; have := hb.1; omega⟩))
                        have hG8 := hd (grownBy_trans hG.out (below_grownBy hal7.out (some W.heap.size)) (.inl rfl))
                        have hO8l : W2.heap.size ≤ w8.heap.size := by have := hal7.out.size; omega
                        have y2 := hXb8.out.1 2 _ rfl
                        have u0 := hX7.out.1 0 _ rfl; have u1 := hX7.out.1 1 _ rfl; have u2 := hX7.out.1 2 _ rfl
                        clear x2
                        go_wp2_with (at_builtin; refine wpList_appOwn rfl (.tmp 131) (.tmp 133) 39 rfl W2.heap.size 41 i0 _ 3 48 Tryd.underlying39 Hi.out Hz0.out Hz1.out Hz2.out rfl (by decide) _ rws [[.int .i64 t.of, .string t.name, .slice a7 t.parts.length c7]] rfl (hO8.out.below (below_a1 _)) _ 1 1 rfl rfl (one_row rfl) (cells_new _ _ _) rowT_one (by rw [hq.out]; omega) (by decide) (by first | omega | exact Nat.le_refl _ | (simp; done) | (simp; omega)) ?_; intro s6 w6 ho6 hg6 hv6; obtain ⟨a6, c6, hs6, hjk⟩ := ho6.sl; clear hjk; rw [List.length_append, List.length_singleton, hq.out] at hs6; subst hs6; have hX6 := hd ((hXb8.out.below (below_a1 _)).grown hg6 (by intro e; have := (hO8.out.lt _ e.symm).1; omega)); have y6 := hX6.out.1 2 _ rfl; have r6 := hX6.out.2.1 2; have hg6 := hd hg6; have hv6 := hd hv6; have ho6 := hd ho6; clear y2 u0 u1 u2)
                        have hne6 : ∀ g, (Value.slice a6 (q + 1) c6).ownBlock = some g → W2.heap.size ≤ g := fun g hg => (ho6.out.lt g hg).1
                        have hX9 := hd (hX6.out.set (i := 2) (by simp) (.slice a6 (q + 1) c6))
                        have hg9 := hd (grownBy_setCell w6 ⟨W.heap.size, 2, none⟩ (.slice a6 (q + 1) c6))
                        have hO9 := hd (ho6.out.kept hg9.out (.inr (fun e => by have : W2.heap.size ≤ W.heap.size := hne6 _ e; omega)))
                        have hS6 := hd ((hS8.out.below (below_a1 _)).grown hg6.out (.inr (.inr rfl)) (s' := .slice a6 (q + 1) c6) (hv6.out.imp id (fun e g hg => by rw [e] at hg; cases hg; exact Nat.le_refl _)))
                        have hS9 := hd (hS6.out.grown hg9.out (.inr (.inl rfl)) (s' := .slice a6 (q + 1) c6) (.inl rfl))
                        have hG9 := hd (grownBy_trans (grownBy_trans (grownBy_trans hG8.out (below_grownBy (below_a1 w8 (a := _)) (some W.heap.size)) (.inl rfl)) hg6.out (.inr (fun g hg => by have := (hO8.out.lt g hg).1; omega))) hg9.out (.inl rfl))
                        go_wp2_with fail
                        go_roundw
                        case rel => exact ⟨f', k7, 44, ks ++ [t], rws ++ [[.int .i64 t.of, .string t.name, .slice a7 t.parts.length c7]], .slice a6 (q + 1) c6, rfl, hk7L, hk70, by omega, by rw [List.length_append, List.length_singleton, hq.out]; omega, .inr ⟨by rw [List.length_append, List.length_singleton]; omega, rfl⟩, hpk3, hX9, hO9, hS9, hG9⟩
                        case measure => simp [intOf]; omega
end Go.Proofs.YtbjilpemckoioaaDoor

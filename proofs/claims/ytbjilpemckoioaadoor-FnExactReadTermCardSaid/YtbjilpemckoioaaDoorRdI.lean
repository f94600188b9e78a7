/- A term out of its text: readTree of the program. -/
import Derived.Test.YtbjilpemckoioaaDoorRdM
import Derived.Test.YtbjilpemckoioaaDoorShelfT
import Derived.Deep.CutBlock
namespace Go.Proofs.YtbjilpemckoioaaDoor
open Go.RowKit
set_option linter.unusedVariables false
set_option maxRecDepth 100000
theorem hasP_i (s p : ByteArray) (b : Bool) (hb : Lib.hasPrefix s.data.toList p.data.toList = b) (w : World) : Calls Tryd.prog 38 #[.string s, .string p] w (fun e w' => e = .returned (.bool b) ∧ w = w') :=
  (strings_HasPrefix s p w).mono (by rintro e w' ⟨rfl, rfl⟩; rw [hb]; exact ⟨rfl, rfl⟩)
theorem trimP_i (s p t : ByteArray) (ht : mkS (Lib.trimPrefix s.data.toList p.data.toList) = t) (w : World) : Calls Tryd.prog 39 #[.string s, .string p] w (fun e w' => e = .returned (.string t) ∧ w = w') :=
  (strings_TrimPrefix s p w).mono (by rintro e w' ⟨rfl, rfl⟩; rw [← ht]; exact ⟨rfl, rfl⟩)
def RtPost (o : K × List UInt8) (w : World) (e : Ending) (w' : World) : Prop := ∃ v, e = .returned (.tuple #[v, .string (mkS o.2)]) ∧ RepY HT w' (NewB w w') o.1 v ∧ Below w.heap.size w w'
theorem rt_e {b : Nat} {s t : ByteArray} (h : s = t) : Ending.returned (.tuple #[.pointer (some ⟨b, 0, none⟩), .string s]) = Ending.returned (.tuple #[.pointer (some ⟨b, 0, none⟩), .string t]) := by rw [h]
def sOf (v : Value) : Nat := match v with | .string s => s.size | _ => 0
theorem az_iff {c : UInt8} : az c = true ↔ 97 ≤ c.toNat ∧ c.toNat ≤ 122 := by rw [az, Bool.and_eq_true, decide_eq_true_eq, decide_eq_true_eq]
/-- The first k letters, and none behind them. -/
theorem tkn {s : ByteArray} {k : Nat} (hk : k ≤ s.size) (h : ∀ i (hi : i < s.size), i < k → az s[i] = true) (he : ∀ hi : k < s.size, az s[k] = false) : s.data.toList.takeWhile az = s.data.toList.take k ∧ s.data.toList.dropWhile az = s.data.toList.drop k := by
  have hl : s.data.toList.length = s.size := rfl
  have := tk_of (l := s.data.toList.take k) (r := s.data.toList.drop k) (fun c hc => by
    obtain ⟨i, hi, rfl⟩ := List.getElem_of_mem hc
    rw [List.length_take] at hi
    rw [List.getElem_take]
    exact h i (by omega) (by omega)) (fun c r' e => by
    by_cases hk2 : k < s.size
    · rw [List.drop_eq_getElem_cons (by rw [hl]; exact hk2)] at e
      cases e
      exact he hk2
    · rw [List.drop_of_length_le (by omega)] at e; cases e)
  rwa [List.take_append_drop] at this
theorem getD1 {s : ByteArray} (h : 1 < s.size) : s.data.toList.getD 1 0 = s[1] := by
  have hl : s.data.toList.length = s.size := rfl
  rw [List.getD_eq_getElem?_getD, List.getElem?_eq_getElem (by rw [hl]; exact h)]
  rfl
theorem ext_drop (s : ByteArray) (k : Nat) : s.extract k s.size = mkS (s.data.toList.drop k) := by
  rw [Lib.extract_eq]
  have hl : s.data.toList.length = s.size := rfl
  rw [List.take_of_length_le (by rw [List.length_drop, hl]; exact Nat.le_refl _)]
theorem ext_take (s : ByteArray) (k : Nat) : s.extract 0 k = mkS (s.data.toList.take k) := by
  rw [Lib.extract_eq]; simp
set_option maxHeartbeats 6400000 in
theorem readTree_i : ∀ (N f : Nat) (s : ByteArray) (w : World), f ≤ N → s.size < f → N ≤ 1000 →
    Calls Tryd.prog 25 #[.string s] w (RtPost (lrd f s.data.toList) w) := by
  intro N
  induction N with
  | zero => intro f s w hf hs; omega
  | succ N ih =>
    intro f s w hf hs hN
    cases f with
    | zero => omega
    | succ f =>
    replace ih := hd ih
    have hl : s.data.toList.length = s.size := rfl
    obtain ⟨o, ho⟩ : ∃ o, lrd (f + 1) s.data.toList = o := ⟨_, rfl⟩
    obtain ⟨g0, hg0⟩ : ∃ g0, Lib.hasPrefix s.data.toList [36] = g0 := ⟨_, rfl⟩
    have c0 := hd (fun w' => hasP_i s ⟨#[36]⟩ g0 hg0 w')
    have hv := hd (fun (h1 : g0 = true) (h2 : 1 < s.size) => (show o = (tmK ((s[1].toNat : Int) - 48) ⟨#[]⟩ [], s.data.toList.drop 2) from by
      rw [← ho, lrd, if_pos ⟨by rw [hg0]; exact h1, by rw [hl]; exact h2⟩, getD1 h2]))
    obtain ⟨k, hk⟩ : ∃ k, (s.data.toList.takeWhile az).length = k := ⟨_, rfl⟩
    have hn := hd (fun (h1 : ¬ (g0 = true ∧ 1 < s.size)) => (show o = if s.data.toList.takeWhile az = [] ∨ Lib.hasPrefix (s.data.toList.dropWhile az) [40] = false then (tmK 0 (mkS (s.data.toList.takeWhile az)) [], s.data.toList.dropWhile az)
      else (tmK 0 (mkS (s.data.toList.takeWhile az)) (lks f 40 (s.data.toList.dropWhile az)).1, Lib.trimPrefix (lks f 40 (s.data.toList.dropWhile az)).2 [41]) from by
      rw [← ho, lrd, if_neg (by rw [hg0, hl]; exact h1)]))
    have hks : k ≤ s.size := by
      have := congrArg List.length (tk_cat s.data.toList)
      rw [List.length_append, hl] at this; omega
    rw [ho]
    replace hk := hd hk
    replace hl := hd hl
    clear ho hg0
    go_enter Tryd.func25, Tryd.ntmps25
    go_upto_region 1 with (fail)
    go_cut [16] from 10 to 15 (fun t wy => t = .bool (g0 && decide (1 < s.size)) ∧ wy = w)
    case first =>
      cases g0 with
      | false =>
        go_wp2_with fail
        refine (c0.out _).mono ?_
        rintro e w2 ⟨rfl, rfl⟩
        go_wp2_with fail
        go_meet
        exact ⟨rfl, rfl⟩
      | true =>
        go_wp2_with fail
        refine (c0.out _).mono ?_
        rintro e w2 ⟨rfl, rfl⟩
        go_wp2_with fail
        go_meet
        exact ⟨by simp; omega, rfl⟩
    case rest =>
      obtain ⟨rfl, hcw⟩ := hcut
      obtain rfl : w = wc := hcw.symm
      by_cases hvv : g0 = true ∧ 1 < s.size
      · obtain ⟨rfl, h2⟩ := hvv
        have h0 := hd (hv.out rfl h2)
        have h2b : decide (1 < s.size) = true := by simpa using h2
        have h2I : (1 : Int) < (s.size : Int) := by omega
        have h2J : (2 : Int) ≤ (s.size : Int) := by omega
        have hX := hd (BoxN.new w [.int .i64 ((s[1].toNat : Int) - 48), .string ⟨#[]⟩, .slice none 0 0] 70)
        have hc := (UInt8.toNat_lt s[1])
        clear hn hv c0 ih
        rw [h2b]
        go_upto_region 2 with (fail)
        go_region
        have hB := hd ((below_a1 w (a := .cells #[.int .i64 ((s[1].toNat : Int) - 48), .string ⟨#[]⟩, .slice none 0 0] 70)).drew)
        have hX2 := hd (hX.out.drew)
        change Hd (BoxN ((w.alloc (.cells #[.int .i64 ((s[1].toNat : Int) - 48), .string ⟨#[]⟩, .slice none 0 0] 70)).drew) _ _) at hX2
        go_wp2_with fail
        go_ret2
        rw [h0.out]
        refine ⟨.pointer (some ⟨w.heap.size, 0, none⟩), rt_e (ext_drop s 2), nodeY (w := w) (xb := w.heap.size) (v := (s[1].toNat : Int) - 48) (nm := ⟨#[]⟩) (sk := .slice none 0 0) (E := 46) (B := w.heap.size) (ks := []) (vs := []) hX2.out (by omega) Own.nil (Nat.le_refl _) SepY.nil, hB.out⟩
      · have hvb : (g0 && decide (1 < s.size)) = false := by
          rw [← Bool.not_eq_true, Bool.and_eq_true, decide_eq_true_eq]; exact hvv
        rw [hvb]
        replace hn := hd (hn.out hvv)
        clear hv hvb hvv c0
        go_upto_block 0 with (fail)
        go_cut [4] from 25 to 42 (fun n wy => n = .int .i64 k ∧ wy = w)
        case first =>
          have hcnt := hd (fun i (hi : i ≤ s.size) (h : ∀ j (hj : j < s.size), j < i → az s[j] = true) (he : ∀ hi : i < s.size, az s[i] = false) => (show k = i from by
            rw [← hk.out, (tkn hi h he).1, List.length_take, hl.out]; omega))
          clear hn hl hk ih
          go_wp2_with fail
          go_loop [4] (fun n => ∃ i : Nat, i ≤ s.size ∧ n = .int .i64 i ∧ Hd (∀ j (hj : j < s.size), j < i → az s[j] = true)) (fun n => s.size - (intOf n).toNat)
          case atStart => exact ⟨0, Nat.zero_le _, rfl, fun j hj h => by omega⟩
          case round =>
            obtain ⟨i, hi, rfl, hal⟩ := hrel
            by_cases hlt : i < s.size
            · have hltI : (i : Int) < (s.size : Int) := by omega
              by_cases h1 : 97 ≤ s[i].toNat
              · have h1I : (97 : Int) ≤ (s[i].toNat : Int) := by omega
                by_cases h2 : s[i].toNat ≤ 122
                · have h2I : (s[i].toNat : Int) ≤ 122 := by omega
                  have hnx := hd (show ∀ j (hj : j < s.size), j < i + 1 → az s[j] = true from fun j hj h => by
                    by_cases e : j = i
                    · subst e; exact az_iff.2 ⟨h1, h2⟩
                    · exact hal.out j hj (by omega))
                  go_wp2_with fail
                  go_round
                  case rel => exact ⟨i + 1, by omega, by go_num, hnx⟩
                  case measure => simp [intOf]; omega
                · have hki := hd (hcnt.out i hi hal.out (fun hi => by rw [← Bool.not_eq_true, az_iff]; omega))
                  have h2I : ¬ (s[i].toNat : Int) ≤ 122 := by omega
                  go_wp2_with fail
                  go_meet
                  exact ⟨by rw [hki.out], rfl⟩
              · have hki := hd (hcnt.out i hi hal.out (fun hi => by rw [← Bool.not_eq_true, az_iff]; omega))
                have h1I : ¬ (97 : Int) ≤ (s[i].toNat : Int) := by omega
                go_wp2_with fail
                go_meet
                exact ⟨by rw [hki.out], rfl⟩
            · have hki := hd (hcnt.out i hi hal.out (fun hi => absurd hi hlt))
              have hltI : ¬ (i : Int) < (s.size : Int) := by omega
              go_wp2_with fail
              go_meet
              exact ⟨by rw [hki.out], rfl⟩
        case rest =>
          obtain ⟨rfl, hcw⟩ := hcut
          obtain rfl : w = wc := hcw.symm
          obtain ⟨nl, hnl⟩ : ∃ nl, s.data.toList.takeWhile az = nl := ⟨_, rfl⟩
          obtain ⟨R, hRd⟩ : ∃ R, mkS (s.data.toList.dropWhile az) = R := ⟨_, rfl⟩
          have hRL : s.data.toList.dropWhile az = R.data.toList := by rw [← hRd]
          have htw : s.data.toList.take k = nl ∧ s.data.toList.drop k = R.data.toList := by
            rw [← hk.out, ← hRL, ← hnl]
            have h := (show ∀ l1 l2 : List UInt8, (l1 ++ l2).take l1.length = l1 ∧ (l1 ++ l2).drop l1.length = l2 from fun l1 l2 => ⟨List.take_left' rfl, List.drop_left' rfl⟩) (s.data.toList.takeWhile az) (s.data.toList.dropWhile az)
            rw [tk_cat] at h
            exact h
          have hxt := ext_take s k
          have hxd := ext_drop s k
          rw [htw.1] at hxt
          rw [htw.2, mkS_toList] at hxd
          have hRz : R.size + k = s.size := by
            have h1 : R.data.toList.length = R.size := rfl
            have h2 := congrArg List.length htw.2
            rw [List.length_drop, hl.out] at h2; omega
          have hkn : k = nl.length := by rw [← hnl, hk.out]
          rw [hnl, hRL] at hn
          obtain ⟨g1, hg1⟩ : ∃ g1, Lib.hasPrefix R.data.toList [40] = g1 := ⟨_, rfl⟩
          have c1 := hd (fun w' => hasP_i R ⟨#[40]⟩ g1 hg1 w')
          rw [hg1] at hn
          obtain ⟨nm, hnm⟩ : ∃ nm, mkS nl = nm := ⟨_, rfl⟩
          rw [hnm] at hn hxt
          have hnlk := hd (show nl = [] ↔ k = 0 from by rw [hkn]; exact List.length_eq_zero_iff.symm)
          have hX := hd (BoxN.new w [.int .i64 0, .string nm, .slice none 0 0] 70)
          have hB := hd ((below_a1 w (a := .cells #[.int .i64 0, .string nm, .slice none 0 0] 70)).drew)
          have hX2 := hd (hX.out.drew)
          change Hd (BoxN ((w.alloc (.cells #[.int .i64 0, .string nm, .slice none 0 0] 70)).drew) _ _) at hX2
          have hsN : w.heap.size + 1 ≤ ((w.alloc (.cells #[.int .i64 0, .string nm, .slice none 0 0] 70)).drew).heap.size := by simp
          replace hxt := hd hxt
          replace hxd := hd hxd
          have hkI : (k : Int) ≤ (s.size : Int) := by omega
          clear hX hnl hRd hRL htw hkn hg1 hnm hl hk
          go_upto_region 6 with (fail)
          go_region
          rw [hxt.out, hxd.out]
          generalize (w.alloc (.cells #[.int .i64 0, .string nm, .slice none 0 0] 70)).drew = W at *
          by_cases hk0 : k = 0
          · have h0 := hd (show o = (tmK 0 nm [], R.data.toList) from by rw [hn.out, if_pos (.inl (hnlk.out.2 hk0))])
            have hkb : ((k : Int) == 0) = true := by simp; omega
            clear hn ih c1
            go_wp2_with fail
            go_ret2
            rw [h0.out]
            exact ⟨.pointer (some ⟨w.heap.size, 0, none⟩), rfl, nodeY (w := w) (xb := w.heap.size) (E := 46) (B := w.heap.size) (v := 0) (nm := nm) (sk := .slice none 0 0) (ks := []) (vs := []) hX2.out (Nat.le_refl _) Own.nil (Nat.le_refl _) SepY.nil, hB.out⟩
          · have hkb : ((k : Int) == 0) = false := by simp; omega
            cases g1 with
            | false =>
              have h0 := hd (show o = (tmK 0 nm [], R.data.toList) from by rw [hn.out, if_pos (.inr rfl)])
              clear hn ih
              go_wp2_with fail
              refine (c1.out _).mono ?_
              rintro e w2 ⟨rfl, rfl⟩
              go_wp2_with fail
              go_ret2
              rw [h0.out]
              exact ⟨.pointer (some ⟨w.heap.size, 0, none⟩), rfl, nodeY (w := w) (xb := w.heap.size) (E := 46) (B := w.heap.size) (v := 0) (nm := nm) (sk := .slice none 0 0) (ks := []) (vs := []) hX2.out (Nat.le_refl _) Own.nil (Nat.le_refl _) SepY.nil, hB.out⟩
            | true =>
              replace hn := hd (show o = (tmK 0 nm (lks f 40 R.data.toList).1, Lib.trimPrefix (lks f 40 R.data.toList).2 [41]) from by rw [hn.out, if_neg (by rintro (e | e); exact hk0 (hnlk.out.1 e); cases e)])
              have hRf : R.size < f := by omega
              obtain ⟨i0, hi, hz0, hz1, hz2⟩ := info_parts infoTree
              have Hi := hd hi; have Hz0 := hd hz0; have Hz1 := hd hz1; have Hz2 := hd hz2
              clear hi hz0 hz1 hz2 hxt hxd
              have x2 := hX2.out.1 2 _ rfl
              go_wp2_with fail
              refine (c1.out _).mono ?_
              rintro e w2 ⟨rfl, rfl⟩
              clear c1
              go_wp2_with fail
              go_loopw [6, 7] (fun r' m' wr => ∃ (f' : Nat) (m : UInt8) (Rc : ByteArray) (ks : List K) (vs : List Value) (sk : Value), r' = .string Rc ∧ m' = .string ⟨#[m]⟩ ∧ Rc.size < f' ∧ vs.length + f' ≤ f ∧ Hd (lks f 40 R.data.toList = (ks ++ (lks f' m Rc.data.toList).1, (lks f' m Rc.data.toList).2)) ∧ Hd (BoxN wr w.heap.size [.int .i64 0, .string nm, sk]) ∧ Hd (Own wr (w.heap.size + 1) 46 1 sk (vs.map encV)) ∧ Hd (SepY HT wr (fun b => w.heap.size ≤ b) w.heap.size sk ks vs) ∧ Hd (Below w.heap.size w wr)) (fun r' _ _ => sOf r')
              case atStart => exact ⟨f, 40, R, [], [], .slice none 0 0, rfl, rfl, hRf, by simp, rfl, hX2.out, Own.nil, SepY.nil, hB.out⟩
              case round =>
                obtain ⟨f', m, Rc, ks, vs, sk, rfl, rfl, hRc, hvf, hlk, hXb, hO, hSep, hbl⟩ := hrel
                obtain ⟨wo, rfl⟩ : ∃ wo : World, wo = wr := ⟨_, rfl⟩
                cases f' with
                | zero => omega
                | succ f' =>
                obtain ⟨gm, hgm⟩ : ∃ gm, Lib.hasPrefix Rc.data.toList [m] = gm := ⟨_, rfl⟩
                have cm := hd (fun w' => hasP_i Rc ⟨#[m]⟩ gm hgm w')
                cases gm with
                | false =>
                  have h0 := hd (show o = (tmK 0 nm ks, Lib.trimPrefix Rc.data.toList [41]) from by
                    rw [hn.out, hlk.out, lks, if_neg (by rw [hgm]; decide), List.append_nil])
                  have ct := hd (fun w' => trimP_i Rc ⟨#[41]⟩ _ rfl w')
                  have hnode := hd (nodeY (w := w) hXb.out (Nat.le_refl _) hO.out (by omega) hSep.out)
                  have htr : Lib.trimPrefix Rc.data.toList (⟨#[41]⟩ : ByteArray).data.toList = Lib.trimPrefix Rc.data.toList [41] := rfl
                  rw [htr] at ct
                  clear htr hn hlk hgm ih
                  go_wp2_with fail
                  refine (cm.out _).mono ?_
                  rintro e w2 ⟨rfl, rfl⟩
                  go_wp2_with fail
                  refine (ct.out _).mono ?_
                  rintro e w2 ⟨rfl, rfl⟩
                  go_wp2_with fail
                  go_ret2
                  rw [h0.out]
                  exact ⟨.pointer (some ⟨w.heap.size, 0, none⟩), rfl, hnode.out, hbl.out⟩
                | true =>
                  obtain ⟨r, hr⟩ := hasP1.1 hgm
                  have hrz : r.length + 1 = Rc.size := by
                    have h1 : Rc.data.toList.length = Rc.size := rfl
                    rw [hr, List.length_cons] at h1; exact h1
                  have hx1 := hd (show Rc.extract 1 Rc.size = mkS r from by rw [ext_drop, hr]; rfl)
                  have hmz : (mkS r).size = r.length := mkS_size r
                  have hmd : (mkS r).data.toList = r := by simp
                  obtain ⟨t, hpt⟩ : ∃ t, lrd f' r = t := ⟨_, rfl⟩
                  obtain ⟨t, nx⟩ := t
                  have ck := hd (fun w' => ih.out f' (mkS r) w' (by omega) (by omega) (by omega))
                  rw [hmd, hpt] at ck
                  have hcn := (lrd_count f').1 r
                  rw [hpt] at hcn
                  have hcp := countK_pos t
                  have hlk2 := hd (show lks f 40 R.data.toList = ((ks ++ [t]) ++ (lks f' 44 nx).1, (lks f' 44 nx).2) from by
                    rw [hlk.out, lks, if_pos hgm, hr, List.drop_succ_cons, List.drop_zero, hpt, List.append_assoc]; rfl)
                  have hnz : (mkS nx).size = nx.length := mkS_size nx
                  have hnd : (mkS nx).data.toList = nx := by simp
                  rw [← hnd] at hlk2
                  have hRc1 : (1 : Int) ≤ (Rc.size : Int) := by omega
                  have hnx : (mkS nx).size < Rc.size ∧ (mkS nx).size < f' := by simp only at hcn; omega
                  clear hr hgm hmd hpt hlk hnd hn hnz hcn hmz
                  generalize mkS r = S1 at *
                  go_upto_region 12 with (fail)
                  refine (cm.out _).mono ?_
                  rintro e w2 ⟨rfl, rfl⟩
                  go_wp2_with fail
                  rw [hx1.out]
                  refine (ck.out _).mono ?_
                  rintro e w7 ⟨v, rfl, hR7, hb7⟩
                  obtain ⟨bp, _, _, _, rfl, hjk⟩ := hR7.open
                  dsimp only at hR7 hjk ⊢
                  have hX7 := hd (hXb.out.below hb7)
                  have hO7 := hd (hO.out.below hb7)
                  have hz7 := hb7.size
                  have hxlt := hXb.out.2.2
                  have hzl := hbl.out.size
                  have hS7' := hd ((hSep.out.below hb7).snoc hR7 (fun b hb => ⟨by have := hb.1; omega, hb.2, by have := hb.1; omega, fun e => by have := (hO.out.lt b e).2; have := hb.1; omega⟩))
                  have hB7 := hd (hbl.out.next hb7)
                  have y2 := hX7.out.1 2 _ rfl
                  obtain ⟨j, hj⟩ : ∃ j, vs.length = j := ⟨_, rfl⟩
                  obtain ⟨aS, cS, rfl, _⟩ := hO.out.sl
                  rw [List.length_map] at *
                  rw [hj] at hX7 hO7 hS7' y2 hvf
                  have hO7l : w.heap.size + 1 ≤ w7.heap.size := by omega
                  have hjl := hd hj
                  clear hR7 hb7 hjk hXb hO hSep hbl cm ck hj x2
                  go_wp2_with (at_builtin; refine wpList_appOwn rfl (.tmp 73) (.tmp 75) 68 rfl (w.heap.size + 1) 46 i0 _ 1 8 Tryd.underlying68 Hi.out Hz0.out Hz1.out Hz2.out rfl (by decide) _ (vs.map encV) [encV (.pointer (some ⟨bp, 0, none⟩))] rfl (hO7.out.below (below_a1 _)) _ 1 1 rfl rfl (one_row rfl) (cells_new _ _ _) (one_ptrT bp) (by rw [List.length_map, hjl.out]; omega) (by decide) (by first | omega | exact Nat.le_refl _ | (simp; done) | (simp; omega)) ?_; intro s6 w6 ho6 hg6 hv6; obtain ⟨a6, c6, hs6, hjk⟩ := ho6.sl; clear hjk; rw [List.length_append, List.length_map, List.length_singleton, hjl.out] at hs6; subst hs6; have hX6 := hd ((hX7.out.below (below_a1 _)).grown hg6 (by intro e; have := (hO7.out.lt _ e.symm).1; omega)); have y6 := hX6.out.1 2 _ rfl; have r6 := hX6.out.2.1 2; have hg6 := hd hg6; have hv6 := hd hv6; have ho6 := hd ho6; clear y2)
                  have hne6 : ∀ g, (Value.slice a6 (j + 1) c6).ownBlock = some g → w.heap.size + 1 ≤ g := fun g hg => (ho6.out.lt g hg).1
                  have hX8 := hd (hX6.out.set (i := 2) (by simp) (.slice a6 (j + 1) c6))
                  have hg8 := hd (grownBy_setCell w6 ⟨w.heap.size, 2, none⟩ (.slice a6 (j + 1) c6))
                  have hO8 := hd (ho6.out.kept hg8.out (.inr (fun e => by have : w.heap.size + 1 ≤ w.heap.size := hne6 _ e; omega)))
                  have hS6 := hd ((hS7'.out.below (below_a1 _)).grown hg6.out (.inr (.inr rfl)) (s' := .slice a6 (j + 1) c6) (hv6.out.imp id (fun e g hg => by rw [e] at hg; cases hg; exact Nat.le_refl _)))
                  have hS8 := hd (hS6.out.grown hg8.out (.inr (.inl rfl)) (s' := .slice a6 (j + 1) c6) (.inl rfl))
                  have hB6 := hd ((hB7.out.next (below_a1 _)).grown hg6.out (Nat.le_trans hB7.out.size (below_a1 _).size) (fun g hg => by have := (hO7.out.lt g hg).1; omega))
                  have hB8 := hd (hB6.out.grown hg8.out hB6.out.size (fun g hg => by cases hg; exact Nat.le_refl _))
                  have hOe := hd (show Own (w6.setCell ⟨w.heap.size, 2, none⟩ (.slice a6 (j + 1) c6)) (w.heap.size + 1) 46 1 (.slice a6 (j + 1) c6) ((vs ++ [Value.pointer (some ⟨bp, 0, none⟩)]).map encV) from by rw [List.map_append]; exact hO8.out)
                  go_wp2_with fail
                  go_roundw
                  case rel => exact ⟨f', 44, mkS nx, ks ++ [t], vs ++ [Value.pointer (some ⟨bp, 0, none⟩)], .slice a6 (j + 1) c6, rfl, rfl, hnx.2, by rw [List.length_append, List.length_singleton, hjl.out]; omega, hlk2, hX8, hOe, hS8, hB8⟩
                  case measure => exact hnx.1
end Go.Proofs.YtbjilpemckoioaaDoor

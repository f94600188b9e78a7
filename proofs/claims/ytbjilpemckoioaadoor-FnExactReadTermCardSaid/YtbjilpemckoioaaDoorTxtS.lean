/- The text of a term: l6Text of the reference. -/
import Derived.Test.YtbjilpemckoioaaDoorTxtI
namespace Go.Proofs.YtbjilpemckoioaaDoor
open Go.RowKit
set_option linter.unusedVariables false
set_option maxRecDepth 100000
theorem num_s (n : Int) (w : World) (h : 1 ≤ n ∧ n ≤ 6) : Calls Tryd.prog 31 #[.int .i64 n] w (TxPost [48 + UInt8.ofNat n.toNat] w) := by
  have : n = 1 ∨ n = 2 ∨ n = 3 ∨ n = 4 ∨ n = 5 ∨ n = 6 := by omega
  rcases this with rfl | rfl | rfl | rfl | rfl | rfl
  · have hcv := conv1 w 49 49 rfl
    go_enter Tryd.func31, Tryd.ntmps31
    go_wp2_with fail
    go_ret
    exact ⟨rfl, below_a1 _⟩
  · have hcv := conv1 w 50 50 rfl
    go_enter Tryd.func31, Tryd.ntmps31
    go_wp2_with fail
    go_ret
    exact ⟨rfl, below_a1 _⟩
  · have hcv := conv1 w 51 51 rfl
    go_enter Tryd.func31, Tryd.ntmps31
    go_wp2_with fail
    go_ret
    exact ⟨rfl, below_a1 _⟩
  · have hcv := conv1 w 52 52 rfl
    go_enter Tryd.func31, Tryd.ntmps31
    go_wp2_with fail
    go_ret
    exact ⟨rfl, below_a1 _⟩
  · have hcv := conv1 w 53 53 rfl
    go_enter Tryd.func31, Tryd.ntmps31
    go_wp2_with fail
    go_ret
    exact ⟨rfl, below_a1 _⟩
  · have hcv := conv1 w 54 54 rfl
    go_enter Tryd.func31, Tryd.ntmps31
    go_wp2_with fail
    go_ret
    exact ⟨rfl, below_a1 _⟩
set_option maxHeartbeats 6400000 in
theorem text_s (t : K) : ∀ (r : List Value) (w : World) (S : Nat → Prop), (∀ k, S k → k < w.heap.size) → countK t ≤ 1000000 → TmOk t → RepZ HT 3 w S t r →
    Calls Tryd.prog 16 #[.agg r.toArray] w (TxPost (txK t) w) := by
  refine K.ind2 (P := fun t => ∀ (r : List Value) (w : World) (S : Nat → Prop), (∀ k, S k → k < w.heap.size) → countK t ≤ 1000000 → TmOk t → RepZ HT 3 w S t r →
    Calls Tryd.prog 16 #[.agg r.toArray] w (TxPost (txK t) w)) ?_ t
  intro t ih ra w S hS hc hok hA
  obtain ⟨aA, cA, rwA, rfl, hSA, hlA, hgA⟩ := hA.openT
  have hla : t.parts.length ≤ 1000000 := by have h1 := len_count t.parts; have h2 := countK_eq t; omega
  have hlens := tx_lens hok
  have hcq := countK_eq t
  have hqa := hd (fun p (hp : p ∈ t.parts) => (show countK p ≤ 1000000 ∧ TmOk p from ⟨by have h1 := count_part hp; omega, hok.part' hp⟩))
  have hof := hok.of'
  have hnm := hok.nm'
  have htx := txK_eq t
  obtain ⟨r, hr⟩ : ∃ r, txK t = r := ⟨_, rfl⟩
  rw [hr] at htx ⊢
  have hX := hd (BoxN.new w [.int .i64 t.of, .string t.name, .slice aA t.parts.length cA] 41)
  have hbW := hd (below_a1 w (a := .cells #[.int .i64 t.of, .string t.name, .slice aA t.parts.length cA] 41))
  change Hd (BoxN (w.alloc (.cells #[.int .i64 t.of, .string t.name, .slice aA t.parts.length cA] 41)) _ _) at hX
  clear hA hr hok
  generalize t.of = vA at *
  generalize t.name = nA at *
  go_enter Tryd.func16, Tryd.ntmps16
  go_upto_region 1 with (fail)
  generalize w.alloc (.cells #[.int .i64 vA, .string nA, .slice aA t.parts.length cA] 41) = W at *
  have x0 := hX.out.1 0 _ rfl; have x1 := hX.out.1 1 _ rfl; have x2 := hX.out.1 2 _ rfl
  by_cases h1 : 0 < vA
  · rw [if_pos h1] at htx
    have ci := hd (fun w' => num_s vA w' (by omega))
    have hz : (⟨#[36]⟩ : ByteArray).size + (mkS [48 + UInt8.ofNat vA.toNat]).size ≤ 2 := by rw [mkS_size]; exact Nat.le_refl _
    have hres := hd htx
    clear ih hSA hgA hqa htx hlA
    go_wp2_with fail
    refine (ci.out _).mono ?_
    rintro e w2 ⟨rfl, hb2⟩
    have hbl := hd (hbW.out.next hb2)
    go_wp2_with fail
    go_ret
    exact ⟨ret_str (by rw [hres.out]; exact mkS_append [36] _), hbl.out⟩
  · rw [if_neg h1] at htx
    have hres := hd htx
    have hsl := spx_len (t.parts.map txK)
    rw [List.length_map] at hsl
    have hspk := hd (fun k (h : k < t.parts.length) => (show (spx ((t.parts.map txK).take k)).length + (txK t.parts[k]).length ≤ 7000000 from by
      have h3 := spx_len ((t.parts.map txK).take k)
      have h4 := Lib.lens_take_succ (t.parts.map txK) k (txK t.parts[k]) (by simp [h])
      have h5 := Lib.lens_take_le (t.parts.map txK) (k + 1)
      have h6 : ((t.parts.map txK).take k).length ≤ t.parts.length := by rw [List.length_take, List.length_map]; omega
      omega))
    have hfst := hd (fun (h : 0 < t.parts.length) => spx_first (xs := t.parts.map txK) (x := txK t.parts[0]) (by simp [h]))
    have hnxt := hd (fun k (h0 : 0 < k) (h : k < t.parts.length) => spx_next (xs := t.parts.map txK) (x := txK t.parts[k]) h0 (by simp [h]))
    replace hgA := hd hgA
    replace hlA := hd hlA
    replace htx := hd htx
    replace ih := hd ih
    replace hS := hd hS
    go_wp2_with fail
    go_loopw [3, 18] (fun s i wr => ∃ k : Nat, s = .string (mkS (nA.data.toList ++ spx ((t.parts.map txK).take k))) ∧ i = .int .i64 k ∧ k ≤ t.parts.length ∧ Hd (Below W.heap.size W wr)) (fun _ i _ => t.parts.length - (intOf i).toNat)
    case atStart => exact ⟨0, by rw [List.take_zero, spx, List.append_nil] <;> rfl, rfl, Nat.zero_le _, Below.refl _ _⟩
    case round =>
      obtain ⟨k, rfl, rfl, hk, hbl⟩ := hrel
      obtain ⟨wo, rfl⟩ : ∃ wo : World, wo = wr := ⟨_, rfl⟩
      have hbw := hd (hbW.out.next hbl.out)
      by_cases hlt : k < t.parts.length
      · have hltI : (k : Int) < (t.parts.length : Int) := by omega
        have hkA : k < rwA.length := by have := hlA.out; omega
        obtain ⟨b1, rfl, hb1, hc1⟩ := hSA.at (j := k) hkA
        have rx := RepZ.same (SameS.below hbw.out hS.out) (fun _ h => h) _ _ (hgA.out k hlt hkA)
        obtain ⟨aX, cX, rX, hrX, hj1⟩ := rx.openT
        clear hj1
        have q1 := hc1 k hkA
        rw [hrX] at q1 rx
        have hxm := hqa.out _ (List.getElem_mem hlt)
        have ck := hd (fun (w' : World) (hw : Below wo.heap.size wo w') => ih.out t.parts[k] (List.getElem_mem hlt) _ w' S (fun q h => Nat.lt_of_lt_of_le (hS.out q h) (Nat.le_trans hbw.out.size hw.size)) hxm.1 hxm.2 (RepZ.same (SameS.below hw (fun q h => Nat.lt_of_lt_of_le (hS.out q h) hbw.out.size)) (fun _ h => h) _ _ rx))
        have d0 := keepCell hbw.out (show w.cell? ⟨b1, k * 3, none⟩ = _ from q1 0 _ rfl)
        have d1 := keepCell hbw.out (q1 1 _ rfl)
        have d2 := keepCell hbw.out (q1 2 _ rfl)
        have hsp := hspk.out k hlt
        have hf := hd (fun (e : k = 0) => (show spx ((t.parts.map txK).take (k + 1)) = spx ((t.parts.map txK).take k) ++ 40 :: txK t.parts[k] from by
          subst e; rw [hfst.out hlt]; rfl))
        have hn := hd (fun (e : 0 < k) => hnxt.out k e hlt)
        have hba := hd (fun o => below_a1 wo (a := o))
        clear hc1 q1 hrX rx hxm x0 x1 x2
        generalize t.parts[k] = X at *
        generalize txK X = tk at *
        have hnl : nA.data.toList.length ≤ 4 := hnm
        obtain ⟨pk, hpk⟩ : ∃ pk, nA.data.toList ++ spx ((t.parts.map txK).take k) = pk := ⟨_, rfl⟩
        have hpl : pk.length + tk.length ≤ 7000010 := by rw [← hpk, List.length_append]; omega
        replace hpk := hd hpk
        have hms := mkS_size pk
        have hmt := mkS_size tk
        by_cases hk0 : k = 0
        · have hk0b : ((k : Int) == 0) = true := by simp; omega
          have hz1 : (mkS pk).size + (⟨#[40]⟩ : ByteArray).size ≤ 8000000 := by rw [hms]; show pk.length + 1 ≤ _; omega
          have hz2 : (mkS pk ++ ⟨#[40]⟩).size + (mkS tk).size ≤ 8000000 := by rw [ByteArray.size_append, hms, hmt]; show pk.length + 1 + _ ≤ _; omega
          have hnew := hd (show mkS pk ++ ⟨#[40]⟩ ++ mkS tk = mkS (nA.data.toList ++ spx ((t.parts.map txK).take (k + 1))) from by
            rw [hf.out hk0, ← List.append_assoc, hpk.out, show (⟨#[40]⟩ : ByteArray) = mkS [40] from rfl, mkS_append, mkS_append, List.append_assoc]; rfl)
          replace hk0 := hd hk0
          rw [hpk.out]
          go_wp2_with fail
          refine (ck.out _ (hba.out _)).mono ?_
          rintro e w6 ⟨rfl, hb6⟩
          have hbl6 := hd (hbl.out.next ((hba.out _).next hb6))
          clear hb6
          go_wp2_with fail
          go_roundw
          case rel => exact ⟨k + 1, by rw [hnew.out], by go_num, by omega, hbl6⟩
          case measure => simp [intOf]; omega
        · have hk0b : ((k : Int) == 0) = false := by simp; omega
          have hz1 : (mkS pk).size + (⟨#[44]⟩ : ByteArray).size ≤ 8000000 := by rw [hms]; show pk.length + 1 ≤ _; omega
          have hz2 : (mkS pk ++ ⟨#[44]⟩).size + (mkS tk).size ≤ 8000000 := by rw [ByteArray.size_append, hms, hmt]; show pk.length + 1 + _ ≤ _; omega
          have hnew := hd (show mkS pk ++ ⟨#[44]⟩ ++ mkS tk = mkS (nA.data.toList ++ spx ((t.parts.map txK).take (k + 1))) from by
            rw [hn.out (by omega), ← List.append_assoc, hpk.out, show (⟨#[44]⟩ : ByteArray) = mkS [44] from rfl, mkS_append, mkS_append, List.append_assoc]; rfl)
          rw [hpk.out]
          go_wp2_with fail
          refine (ck.out _ (hba.out _)).mono ?_
          rintro e w6 ⟨rfl, hb6⟩
          have hbl6 := hd (hbl.out.next ((hba.out _).next hb6))
          clear hb6
          go_wp2_with fail
          go_roundw
          case rel => exact ⟨k + 1, by rw [hnew.out], by go_num, by omega, hbl6⟩
          case measure => simp [intOf]; omega
      · obtain rfl : k = t.parts.length := by omega
        have hltI : ¬ (t.parts.length : Int) < (t.parts.length : Int) := by omega
        have xx := keepCell hbl.out x2
        have hall : (t.parts.map txK).take t.parts.length = t.parts.map txK := List.take_of_length_le (by rw [List.length_map]; exact Nat.le_refl _)
        rw [hall]
        have hms := mkS_size (nA.data.toList ++ spx (t.parts.map txK))
        have hnl : nA.data.toList.length ≤ 4 := hnm
        rw [List.length_append] at hms
        by_cases hp0 : t.parts = []
        · have h0n : ¬ 0 < t.parts.length := by rw [hp0]; simp
          have hfin := hd (show mkS (nA.data.toList ++ spx (t.parts.map txK)) = mkS r from by
            rw [hres.out, if_pos hp0, hp0]; simp [spx])
          replace hp0 := hd hp0
          generalize mkS (nA.data.toList ++ spx (t.parts.map txK)) = sv at *
          clear x0 x1 x2
          go_wp2_with fail
          go_ret
          exact ⟨ret_str (by rw [hfin.out]), hbw.out⟩
        · have hlp : 0 < t.parts.length := by
            cases hq : t.parts with
            | nil => exact absurd hq hp0
            | cons => simp
          have hfin := hd (show mkS (nA.data.toList ++ spx (t.parts.map txK)) ++ ⟨#[41]⟩ = mkS r from by
            rw [hres.out, if_neg hp0, spx_all (fun e => hp0 (List.map_eq_nil_iff.1 e)), show (⟨#[41]⟩ : ByteArray) = mkS [41] from rfl, mkS_append]
            simp [List.append_assoc])
          have hz1 : (mkS (nA.data.toList ++ spx (t.parts.map txK))).size + (⟨#[41]⟩ : ByteArray).size ≤ 80000000 := by rw [hms]; show _ + 1 ≤ _; omega
          replace hp0 := hd hp0
          generalize mkS (nA.data.toList ++ spx (t.parts.map txK)) = sv at *
          clear x0 x1 x2
          go_wp2_with fail
          go_ret
          exact ⟨ret_str (by rw [hfin.out]), hbw.out⟩
end Go.Proofs.YtbjilpemckoioaaDoor

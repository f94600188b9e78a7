/- l1Read and ReadFields of the reference. -/
import Derived.Test.YtpkmghllidejhaaReadL
namespace Go.Proofs.Ytpkmghllidejhaa
open Go.RowKit
set_option linter.unusedVariables false
set_option maxRecDepth 100000
theorem DField.enc_one (l : List DField) : ∀ u ∈ (l.map DField.enc).flatten, u.oneCell' = true := by
  intro u hu
  obtain ⟨r, hr, hu⟩ := List.mem_flatten.1 hu
  obtain ⟨x, _, rfl⟩ := List.mem_map.1 hr
  simp only [DField.enc, List.mem_cons, List.not_mem_nil, or_false] at hu
  rcases hu with rfl | rfl | rfl | rfl <;> rfl
theorem tkS_true {l : List UInt8} {a : Nat} (h : (tkI l a).2.2 = true) : tkS l a = tkI l a := by rw [tkS, if_pos h]
theorem fieldB_kind {x : DField} (h0 : ¬ x.kind = 0) (h2 : ¬ x.kind = 2) : fieldB x = false := by
  rw [fieldB, if_neg h0, if_neg h2]; simp
set_option maxHeartbeats 3200000 in
theorem read_s (s : ByteArray) (w : World) (hs : s.size ≤ 400) :
    Calls Try.prog 182 #[.string s] w (OwnBPost 99 4 ((readFs s.data.toList).map DField.enc) (readB s.data.toList) w) := by
  have hdl := data_len s
  obtain ⟨i0, hi, hz0, hz1, hz2⟩ := info_parts infoField
  have Hi := hd hi; have Hz0 := hd hz0; have Hz1 := hd hz1; have Hz2 := hd hz2
  clear hi hz0 hz1 hz2
  have hrb := hd (fun r h => readB_of (l := s.data.toList) (by omega) (r := r) h)
  have cT := hd (fun a w h => take_s s a w (by omega) h)
  have hext := hd (fun f m => (show s.extract f (f + m) = mkS ((s.data.toList.drop f).take m) by rw [Lib.extract_eq]; congr 3; omega))
  have hfe := hd (fun a h => fieldEnd_bd (l := s.data.toList) (a := a) h)
  generalize s.data.toList = l at *
  replace hdl := hd hdl
  go_enter Try.func182, Try.ntmps182
  go_wp2_with fail
  go_loopw [4, 5] (fun o i wr => ∃ (a nn : Nat) (acc : List DPlaced), i = .int .i64 a ∧ a ≤ s.size ∧ acc.length ≤ 40 ∧ Hd (Own wr w.heap.size 99 4 o ((acc.map (fun p => p.f)).map DField.enc)) ∧ Hd (readF l (nn + 1) a acc = readF l (l.length + 1) 0 []) ∧ l.length - a ≤ nn ∧ Hd (Below w.heap.size w wr)) (fun _ i _ => s.size - (intOf i).toNat)
  case atStart => exact ⟨0, l.length, [], rfl, Nat.zero_le _, by simp, Own.nil, rfl, by omega, Below.refl _ _⟩
  case round =>
    obtain ⟨a, nn, acc, rfl, hle, hal, hown, hrf, hn, hbl⟩ := hrel
    obtain ⟨wo, rfl⟩ : ∃ wo : World, wo = wr := ⟨_, rfl⟩
    have hsz := hbl.out.size
    by_cases hlt : a < s.size
    · have hltI : (a : Int) < (s.size : Int) := by omega
      have hal2 : a < l.length := by rw [hdl.out]; exact hlt
      have hov := hd hown.out.sl
      obtain ⟨ao, co, rfl, _⟩ := hov.out
      simp only [List.length_map] at *
      have c1 := hd (cT.out a wo (by omega))
      cases hb1 : (tkI l a).2.2 with
      | false =>
        have hz : tkS l a = (0, 0, false) := by rw [tkS, if_neg (by rw [hb1]; simp)]
        rw [hz] at c1
        have hr := hd (hrb.out none (by rw [← hrf.out]; exact (readF_stop hal2 (fun h => by have := h.1; rw [fieldOkAt, hb1] at this; cases this)).symm))
        clear hb1 hz
        go_wp2_with fail
        refine c1.out.mono ?_
        rintro e w3 ⟨rfl, rfl⟩
        go_wp2_with fail
        go_ret2
        exact ⟨_, by rw [hr.out.1]; rfl, by rw [show readFs l = [] by rw [readFs, hr.out.2]; rfl]; exact Own.nil, hbl.out⟩
      | true =>
        rw [tkS_true hb1] at c1
        have hbd := (tkI_bd l a).2 hb1
        obtain ⟨⟨n, f, b1⟩, ht⟩ : ∃ t, tkI l a = t := ⟨_, rfl⟩
        rw [ht] at c1 hbd hb1
        dsimp only at hbd hb1
        subst hb1
        obtain ⟨h2, h3, h4⟩ := hbd
        have h4s : f ≤ s.size := by have := hdl.out; omega
        have c2 := hd (cT.out f wo (by omega))
        cases hb2 : (tkI l f).2.2 with
        | false =>
          have hz : tkS l f = (0, 0, false) := by rw [tkS, if_neg (by rw [hb2]; simp)]
          rw [hz] at c2
          have hr := hd (hrb.out none (by
            rw [← hrf.out]
            refine (readF_stop hal2 (fun h => ?_)).symm
            have h1 := h.1
            rw [fieldOkAt, ht] at h1
            dsimp only at h1
            split at h1
            · rw [tb_bad (fun hh => by rw [hb2] at hh; cases hh.1)] at h1; cases h1
            · rw [hb2] at h1; cases h1))
          clear hb2 hz ht
          go_wp2_with fail
          refine c1.out.mono ?_
          rintro e w3 ⟨rfl, rfl⟩
          go_wp2_with fail
          refine c2.out.mono ?_
          rintro e w3 ⟨rfl, rfl⟩
          go_wp2_with fail
          go_ret2
          exact ⟨_, by rw [hr.out.1]; rfl, by rw [show readFs l = [] by rw [readFs, hr.out.2]; rfl]; exact Own.nil, hbl.out⟩
        | true =>
          rw [tkS_true hb2] at c2
          have hbd := (tkI_bd l f).2 hb2
          obtain ⟨⟨m, e2, ok2⟩, ht2⟩ : ∃ t, tkI l f = t := ⟨_, rfl⟩
          rw [ht2] at c2 hbd hb2
          dsimp only at hbd hb2
          subst hb2
          obtain ⟨h5, h6, h7⟩ := hbd
          have h7s : e2 ≤ s.size := by have := hdl.out; omega
          by_cases hk : n % 8 = 0
          · have hkb : ((n : Int) % 8 == 0) = true := by simp; omega
            have hk2 : ¬ n % 8 = 2 := by omega
            have cu := hd (fun w => unfold_s (m : Int) w (by omega) (by omega))
            have hub := unf_bd (m : Int) (by omega) (by omega)
            obtain ⟨u, hu⟩ : ∃ u, unf (m : Int) = u := ⟨_, rfl⟩
            rw [hu] at cu hub
            have hA : fieldAt l a = ⟨(n : Int) / 8, (n : Int) % 8, u, ⟨#[]⟩⟩ := by rw [fieldAt, ht]; dsimp only; rw [if_neg hk2, ht2, hu]; simp
            obtain ⟨q, hq⟩ : ∃ q, fieldB ⟨(n : Int) / 8, (n : Int) % 8, u, ⟨#[]⟩⟩ = q := ⟨_, rfl⟩
            have hF := hd (show fieldOkAt l a = q by rw [fieldOkAt, hA, hq, ht]; dsimp only; rw [if_neg hk2, ht2]; simp)
            have hx := hd (show q = true → (⟨(n : Int) / 8, (n : Int) % 8, u, ⟨#[]⟩⟩ : DField) = fieldAt l a ∧ (e2 : Int) = (fieldEnd l a : Nat) from fun _ => ⟨hA.symm, by rw [fieldEnd, ht]; dsimp only; rw [if_neg hk2, ht2]⟩)
            clear hA hk hk2 ht ht2 hu
            go_wp2_with fail
            refine c1.out.mono ?_
            rintro e w3 ⟨rfl, rfl⟩
            go_wp2_with fail
            refine c2.out.mono ?_
            rintro e w3 ⟨rfl, rfl⟩
            go_upto_region 17 with (go_at_call 217; refine (cu.out _).mono ?_; rintro e w2 ⟨rfl, rfl⟩)
            have hX := hd (show BoxN (wo.alloc (.cells #[.int .i64 ((n : Int) / 8), .int .i64 ((n : Int) % 8), .int .i64 u, .string ⟨#[]⟩] 99)) wo.heap.size [.int .i64 ((n : Int) / 8), .int .i64 ((n : Int) % 8), .int .i64 u, .string ⟨#[]⟩] from BoxN.new wo [.int .i64 ((n : Int) / 8), .int .i64 ((n : Int) % 8), .int .i64 u, .string ⟨#[]⟩] 99)
            have ho3 := hd (hown.out.below (below_a1 wo (a := .cells #[.int .i64 ((n : Int) / 8), .int .i64 ((n : Int) % 8), .int .i64 u, .string ⟨#[]⟩] 99)))
            have hB3 := hd (hbl.out.next (below_a1 wo (a := .cells #[.int .i64 ((n : Int) / 8), .int .i64 ((n : Int) % 8), .int .i64 u, .string ⟨#[]⟩] 99)))
            have p0 := hX.out.1 0 _ rfl; have p1 := hX.out.1 1 _ rfl; have p2 := hX.out.1 2 _ rfl; have p3 := hX.out.1 3 _ rfl
            generalize wo.alloc (.cells #[.int .i64 ((n : Int) / 8), .int .i64 ((n : Int) % 8), .int .i64 u, .string ⟨#[]⟩] 99) = w3 at *
            have c4 := hd (fun w => field_s ⟨(n : Int) / 8, (n : Int) % 8, u, ⟨#[]⟩⟩ w q hq)
            replace hq := hd hq
            cases q with
            | false =>
              have hr := hd (hrb.out none (by rw [← hrf.out]; exact (readF_stop hal2 (fun h => by rw [hF.out] at h; cases h.1)).symm))
              go_wp2_with fail
              refine (c4.out _).mono ?_
              rintro e w5 ⟨rfl, hb5⟩
              have hB5 := hd (hB3.out.next hb5)
              clear hb5
              go_wp2_with fail
              go_ret2
              exact ⟨_, by rw [hr.out.1]; rfl, by rw [show readFs l = [] by rw [readFs, hr.out.2]; rfl]; exact Own.nil, hB5.out⟩
            | true =>
              by_cases h40 : acc.length = 40
              · have h40I : ((acc.length : Int) == 40) = true := by simp; omega
                have hr := hd (hrb.out none (by rw [← hrf.out]; exact (readF_stop hal2 (fun h => h.2 h40)).symm))
                clear h40
                go_wp2_with fail
                refine (c4.out _).mono ?_
                rintro e w5 ⟨rfl, hb5⟩
                have hB5 := hd (hB3.out.next hb5)
                clear hb5
                go_wp2_with fail
                go_ret2
                exact ⟨_, by rw [hr.out.1]; rfl, by rw [show readFs l = [] by rw [readFs, hr.out.2]; rfl]; exact Own.nil, hB5.out⟩
              · have h40I : ((acc.length : Int) == 40) = false := by simp; omega
                have hrn := hd (readF_go (n := nn) hal2 hF.out h40)
                obtain ⟨m', hm'⟩ : ∃ m', nn = m' + 1 := ⟨nn - 1, by omega⟩
                have hbd2 := hfe.out a hF.out
                have hrf2 := hd (show readF l (m' + 1) (fieldEnd l a) (acc ++ [⟨fieldAt l a, (a : Nat)⟩]) = readF l (l.length + 1) 0 [] by rw [← hrf.out, hrn.out, hm'])
                have hend := hd (show Value.int .i64 ((e2 : Int)) = .int .i64 (fieldEnd l a : Nat) by rw [(hx.out (by first | rfl | trivial)).2])
                have hmap := hd (show acc.map (fun p => p.f) ++ [⟨(n : Int) / 8, (n : Int) % 8, u, ⟨#[]⟩⟩] = (acc ++ [(⟨fieldAt l a, (a : Nat)⟩ : DPlaced)]).map (fun p => p.f) by rw [List.map_append, ← (hx.out (by first | rfl | trivial)).1]; rfl)
                replace hm' := hd hm'
                go_wp2_with fail
                refine (c4.out _).mono ?_
                rintro e w5 ⟨rfl, hb5⟩
                have hB5 := hd (hB3.out.next hb5)
                have ho5 := hd (ho3.out.below hb5)
                have k0 := keepCell hb5 p0
                have k1 := keepCell hb5 p1
                have k2 := keepCell hb5 p2
                have k3 := keepCell hb5 p3
                have hsz5 := hB5.out.size
                clear hb5 p0 p1 p2 p3
                go_wp2_with (at_builtin; refine wpList_appOwn rfl (.tmp 70) (.tmp 72) 24 rfl w.heap.size 99 i0 _ 4 40 Try.underlying24 Hi.out Hz0.out Hz1.out Hz2.out rfl (by decide) _ ((acc.map (fun p => p.f)).map DField.enc) [DField.enc ⟨(n : Int) / 8, (n : Int) % 8, u, ⟨#[]⟩⟩] rfl (ho5.out.below (below_a1 _)) _ 1 1 rfl rfl (one_row rfl) (cells_new _ _ _) (DField.enc_one [⟨(n : Int) / 8, (n : Int) % 8, u, ⟨#[]⟩⟩]) (by simp only [List.length_map]; omega) (by decide) (by first | omega | exact Nat.le_refl _ | (simp; done) | (simp; omega)) ?_; intro v6 w6 ho6 hga hva; have hB6 := hd ((hB5.out.next (below_a1 _)).grown hga (by first | omega | exact Nat.le_refl _ | (simp; done) | (simp; omega)) (fun g hg => (ho5.out.lt g hg).1)); replace ho6 := hd (own_snoc ho6); clear hga hva)
                rw [hmap.out] at ho6
                have hme := hd (show ((e2 : Int)) = (fieldEnd l a : Nat) from (hx.out (by first | rfl | trivial)).2)
                go_roundw
                case rel => exact ⟨fieldEnd l a, m', acc ++ [⟨fieldAt l a, (a : Nat)⟩], hend.out, by have := hdl.out; omega, by simp; omega, ho6, hrf2, by have := hm'.out; omega, hB6⟩
                case measure => have h1 := hme.out; have h2 := hdl.out; simp [intOf]; omega
          · have hkb : ((n : Int) % 8 == 0) = false := by simp; omega
            by_cases hmx : m + e2 ≤ s.size
            · have hmI : ¬ (s.size : Int) - (e2 : Int) < (m : Int) := by omega
              have hml : m + e2 ≤ l.length := by rw [hdl.out]; exact hmx
              have hxt := hext.out e2 m
              obtain ⟨d, hd0⟩ : ∃ d, (l.drop e2).take m = d := ⟨_, rfl⟩
              rw [hd0] at hxt
              obtain ⟨q, hq⟩ : ∃ q, fieldB ⟨(n : Int) / 8, (n : Int) % 8, 0, mkS d⟩ = q := ⟨_, rfl⟩
              have htb : tb l f = (d, e2 + m, true) := by rw [tb, ht2]; dsimp only; rw [if_pos ⟨rfl, hml⟩, hd0]
              have hF := hd (show fieldOkAt l a = q by
                by_cases hk2 : n % 8 = 2
                · have hA : fieldAt l a = ⟨(n : Int) / 8, (n : Int) % 8, 0, mkS d⟩ := by rw [fieldAt, ht]; dsimp only; rw [if_pos hk2, htb]; simp; omega
                  rw [fieldOkAt, hA, hq, ht]; dsimp only; rw [if_pos hk2, htb]; simp
                · rw [fieldOkAt, fieldB_kind, ← hq, fieldB_kind]
                  · simp
                  · show ¬ (n : Int) % 8 = 0; omega
                  · show ¬ (n : Int) % 8 = 2; omega
                  · rw [fieldAt, ht]; dsimp only; rw [if_neg hk2]; show ¬ ((n % 8 : Nat) : Int) = 0; omega
                  · rw [fieldAt, ht]; dsimp only; rw [if_neg hk2]; show ¬ ((n % 8 : Nat) : Int) = 2; omega)
              have hx := hd (show q = true → (⟨(n : Int) / 8, (n : Int) % 8, 0, mkS d⟩ : DField) = fieldAt l a ∧ ((e2 : Int) + (m : Int)) = (fieldEnd l a : Nat) from fun hqt => by
                by_cases hk2 : n % 8 = 2
                · refine ⟨?_, ?_⟩
                  · rw [fieldAt, ht]; dsimp only; rw [if_pos hk2, htb]; simp; omega
                  · rw [fieldEnd, ht]; dsimp only; rw [if_pos hk2, htb]; simp
                · rw [← hq, fieldB_kind (by show ¬ (n : Int) % 8 = 0; omega) (by show ¬ (n : Int) % 8 = 2; omega)] at hqt; cases hqt)
              replace hd0 := hd hd0
              replace htb := hd htb
              clear hk ht ht2
              go_wp2_with fail
              refine c1.out.mono ?_
              rintro e w3 ⟨rfl, rfl⟩
              go_wp2_with fail
              refine c2.out.mono ?_
              rintro e w3 ⟨rfl, rfl⟩
              go_upto_region 17 with (fail)
              try rw [hxt]
              clear hxt
              have hX := hd (show BoxN (wo.alloc (.cells #[.int .i64 ((n : Int) / 8), .int .i64 ((n : Int) % 8), .int .i64 0, .string (mkS d)] 99)) wo.heap.size [.int .i64 ((n : Int) / 8), .int .i64 ((n : Int) % 8), .int .i64 0, .string (mkS d)] from BoxN.new wo [.int .i64 ((n : Int) / 8), .int .i64 ((n : Int) % 8), .int .i64 0, .string (mkS d)] 99)
              have ho3 := hd (hown.out.below (below_a1 wo (a := .cells #[.int .i64 ((n : Int) / 8), .int .i64 ((n : Int) % 8), .int .i64 0, .string (mkS d)] 99)))
              have hB3 := hd (hbl.out.next (below_a1 wo (a := .cells #[.int .i64 ((n : Int) / 8), .int .i64 ((n : Int) % 8), .int .i64 0, .string (mkS d)] 99)))
              have p0 := hX.out.1 0 _ rfl; have p1 := hX.out.1 1 _ rfl; have p2 := hX.out.1 2 _ rfl; have p3 := hX.out.1 3 _ rfl
              generalize wo.alloc (.cells #[.int .i64 ((n : Int) / 8), .int .i64 ((n : Int) % 8), .int .i64 0, .string (mkS d)] 99) = w3 at *
              have c4 := hd (fun w => field_s ⟨(n : Int) / 8, (n : Int) % 8, 0, mkS d⟩ w q hq)
              replace hq := hd hq
              cases q with
              | false =>
                have hr := hd (hrb.out none (by rw [← hrf.out]; exact (readF_stop hal2 (fun h => by rw [hF.out] at h; cases h.1)).symm))
                go_wp2_with fail
                refine (c4.out _).mono ?_
                rintro e w5 ⟨rfl, hb5⟩
                have hB5 := hd (hB3.out.next hb5)
                clear hb5
                go_wp2_with fail
                go_ret2
                exact ⟨_, by rw [hr.out.1]; rfl, by rw [show readFs l = [] by rw [readFs, hr.out.2]; rfl]; exact Own.nil, hB5.out⟩
              | true =>
                by_cases h40 : acc.length = 40
                · have h40I : ((acc.length : Int) == 40) = true := by simp; omega
                  have hr := hd (hrb.out none (by rw [← hrf.out]; exact (readF_stop hal2 (fun h => h.2 h40)).symm))
                  clear h40
                  go_wp2_with fail
                  refine (c4.out _).mono ?_
                  rintro e w5 ⟨rfl, hb5⟩
                  have hB5 := hd (hB3.out.next hb5)
                  clear hb5
                  go_wp2_with fail
                  go_ret2
                  exact ⟨_, by rw [hr.out.1]; rfl, by rw [show readFs l = [] by rw [readFs, hr.out.2]; rfl]; exact Own.nil, hB5.out⟩
                · have h40I : ((acc.length : Int) == 40) = false := by simp; omega
                  have hrn := hd (readF_go (n := nn) hal2 hF.out h40)
                  obtain ⟨m', hm'⟩ : ∃ m', nn = m' + 1 := ⟨nn - 1, by omega⟩
                  have hbd2 := hfe.out a hF.out
                  have hrf2 := hd (show readF l (m' + 1) (fieldEnd l a) (acc ++ [⟨fieldAt l a, (a : Nat)⟩]) = readF l (l.length + 1) 0 [] by rw [← hrf.out, hrn.out, hm'])
                  have hend := hd (show Value.int .i64 ((e2 : Int) + (m : Int)) = .int .i64 (fieldEnd l a : Nat) by rw [(hx.out (by first | rfl | trivial)).2])
                  have hmap := hd (show acc.map (fun p => p.f) ++ [⟨(n : Int) / 8, (n : Int) % 8, 0, mkS d⟩] = (acc ++ [(⟨fieldAt l a, (a : Nat)⟩ : DPlaced)]).map (fun p => p.f) by rw [List.map_append, ← (hx.out (by first | rfl | trivial)).1]; rfl)
                  replace hm' := hd hm'
                  go_wp2_with fail
                  refine (c4.out _).mono ?_
                  rintro e w5 ⟨rfl, hb5⟩
                  have hB5 := hd (hB3.out.next hb5)
                  have ho5 := hd (ho3.out.below hb5)
                  have k0 := keepCell hb5 p0
                  have k1 := keepCell hb5 p1
                  have k2 := keepCell hb5 p2
                  have k3 := keepCell hb5 p3
                  have hsz5 := hB5.out.size
                  clear hb5 p0 p1 p2 p3
                  go_wp2_with (at_builtin; refine wpList_appOwn rfl (.tmp 70) (.tmp 72) 24 rfl w.heap.size 99 i0 _ 4 40 Try.underlying24 Hi.out Hz0.out Hz1.out Hz2.out rfl (by decide) _ ((acc.map (fun p => p.f)).map DField.enc) [DField.enc ⟨(n : Int) / 8, (n : Int) % 8, 0, mkS d⟩] rfl (ho5.out.below (below_a1 _)) _ 1 1 rfl rfl (one_row rfl) (cells_new _ _ _) (DField.enc_one [⟨(n : Int) / 8, (n : Int) % 8, 0, mkS d⟩]) (by simp only [List.length_map]; omega) (by decide) (by first | omega | exact Nat.le_refl _ | (simp; done) | (simp; omega)) ?_; intro v6 w6 ho6 hga hva; have hB6 := hd ((hB5.out.next (below_a1 _)).grown hga (by first | omega | exact Nat.le_refl _ | (simp; done) | (simp; omega)) (fun g hg => (ho5.out.lt g hg).1)); replace ho6 := hd (own_snoc ho6); clear hga hva)
                  rw [hmap.out] at ho6
                  have hme := hd (show ((e2 : Int) + (m : Int)) = (fieldEnd l a : Nat) from (hx.out (by first | rfl | trivial)).2)
                  go_roundw
                  case rel => exact ⟨fieldEnd l a, m', acc ++ [⟨fieldAt l a, (a : Nat)⟩], hend.out, by have := hdl.out; omega, by simp; omega, ho6, hrf2, by have := hm'.out; omega, hB6⟩
                  case measure => have h1 := hme.out; have h2 := hdl.out; simp [intOf]; omega
            · have hmI : (s.size : Int) - (e2 : Int) < (m : Int) := by omega
              have hr := hd (hrb.out none (by
                rw [← hrf.out]
                refine (readF_stop hal2 (fun h => ?_)).symm
                have h1 := h.1
                by_cases hk2 : n % 8 = 2
                · rw [fieldOkAt, ht] at h1
                  dsimp only at h1
                  rw [if_pos hk2, tb_bad (fun hh => by rw [ht2, hdl.out] at hh; dsimp only at hh; omega)] at h1
                  cases h1
                · rw [fieldOkAt, fieldB_kind] at h1
                  · simp at h1
                  · rw [fieldAt, ht]; dsimp only; rw [if_neg hk2]; show ¬ ((n % 8 : Nat) : Int) = 0; omega
                  · rw [fieldAt, ht]; dsimp only; rw [if_neg hk2]; show ¬ ((n % 8 : Nat) : Int) = 2; omega))
              clear hk ht ht2
              have hB3 := hd (fun (o : Obj) => hbl.out.next (below_a1 wo (a := o)))
              go_wp2_with fail
              refine c1.out.mono ?_
              rintro e w3 ⟨rfl, rfl⟩
              go_wp2_with fail
              refine c2.out.mono ?_
              rintro e w3 ⟨rfl, rfl⟩
              go_wp2_with fail
              go_ret2
              exact ⟨_, by rw [hr.out.1]; rfl, by rw [show readFs l = [] by rw [readFs, hr.out.2]; rfl]; exact Own.nil, hB3.out _⟩
    · have hltI : ¬ (a : Int) < (s.size : Int) := by omega
      have hr := hd (hrb.out (some acc) (by rw [← hrf.out]; exact (readF_end (by have := hdl.out; omega)).symm))
      go_wp2_with fail
      go_ret2
      exact ⟨_, by rw [hr.out.1]; rfl, by rw [show readFs l = acc.map (fun p => p.f) by rw [readFs, hr.out.2]; rfl]; exact hown.out, hbl.out⟩
theorem readB_long {l : List UInt8} (h : 400 < l.length) : readB l = false := by rw [readB, readP, if_neg (by omega)]; rfl
theorem ReadFields_so (s : ByteArray) (w : World) (hs : s.size ≤ 1048576) (b : Bool) (hb : readB s.data.toList = b) (r : List DField) (hr : readFs s.data.toList = r) :
    Calls Try.prog 134 #[.string s] w (OwnBPost 99 4 (r.map DField.enc) b w) := by
  have hdl := data_len s
  by_cases h400 : s.size ≤ 400
  · have c1 := hd (fun w => read_s s w h400)
    rw [hb, hr] at c1
    have hg : ¬ (400 : Int) < (s.size : Int) := by omega
    clear hb hr
    go_enter Try.func134, Try.ntmps134
    go_wp2_with fail
    refine (c1.out _).mono ?_
    rintro e w2 ⟨v2, rfl, ho2, hb2⟩
    replace hb2 := hd hb2
    replace ho2 := hd ho2
    go_wp2_with fail
    go_ret2
    exact ⟨_, rfl, ho2.out, hb2.out⟩
  · have hg : (400 : Int) < (s.size : Int) := by omega
    have hb1 := readB_long (l := s.data.toList) (by omega)
    have hbf := hd (show b = false by rw [← hb, hb1])
    have hrf := hd (show r = [] by rw [← hr, readFs, readL_false hb1]; rfl)
    clear hb hr hb1
    go_enter Try.func134, Try.ntmps134
    go_wp2_with fail
    go_ret2
    exact ⟨_, by rw [hbf.out]; rfl, by rw [hrf.out]; exact Own.nil, Below.refl _ _⟩
theorem ReadFields_s (s : ByteArray) (w : World) (hs : s.size ≤ 1048576) (b : Bool) (hb : readB s.data.toList = b) (r : List DField) (hr : readFs s.data.toList = r) :
    Calls Try.prog 134 #[.string s] w (SlbPost 99 4 (r.map DField.enc) b w) :=
  (ReadFields_so s w hs b hb r hr).mono fun e w' ⟨v, h1, h2, h3⟩ => ⟨v, _, h1, h2.r, h3⟩
end Go.Proofs.Ytpkmghllidejhaa

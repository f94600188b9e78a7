/- Whether a tree of types is right: partOf, partsOK, right of the program. -/
import Derived.Test.YtobahkjbadamhaaKindA
import Derived.Test.YtobahkjbadamhaaMapB
import Derived.BigQuiet
import Derived.IntWalk
namespace Go.Proofs.Ytobahkjbadamhaa
open Go.RowKit
set_option linter.unusedVariables false
set_option maxRecDepth 100000
theorem boolOf (p : Prop) : ∃ b : Bool, b = true ↔ p := by
  by_cases h : p
  · exact ⟨true, by simp [h]⟩
  · exact ⟨false, by simp [h]⟩
theorem emp_iff {s : ByteArray} : s.toList.isEmpty = true ↔ s = ⟨#[]⟩ := by
  rw [List.isEmpty_iff, ByteArray.toList_eq]
  constructor
  · intro h; exact ByteArray.ext (Array.ext' (by simpa using h))
  · intro h; subst h; rfl
theorem InK.trans {a b c : K} (h : InK a b) (h2 : InK b c) : InK a c := by
  induction h2 with
  | self t => exact h
  | part o nm no mu mo ps p s hp _ ih => exact .part _ _ _ _ _ _ _ _ hp (ih h)
theorem InK.kid {t p : K} (h : p ∈ t.parts) : InK p t := by cases t; exact .part _ _ _ _ _ _ _ _ h (.self p)
/-- No name of a tree is longer than Go allows. -/
def nmOK (t : K) : Prop := ∀ s, InK s t → s.name.size ≤ 1000000000000
theorem nmOK.self {t : K} (h : nmOK t) : t.name.size ≤ 1000000000000 := h t (.self t)
theorem nmOK.part {t p : K} (h : nmOK t) (hp : p ∈ t.parts) : nmOK p := fun s hs => h s (hs.trans (.kid hp))
set_option maxHeartbeats 800000 in
theorem partOf_i (p : K) (v : Value) (o : Int) (w : World) (lo hi : Nat) (h : RepP w lo hi p v) (hs : p.name.size ≤ 1000000000000) (r : Bool) (hr : r = true ↔ partOf o p) :
    Calls Try.prog 148 #[v, .int .i64 o] w (fun e w' => e = .returned (.bool r) ∧ w = w') := by
  obtain ⟨b, a, c, vs, rfl, hb, c0, c1, c2, c3, c4, c5, hS, hl, hg⟩ := h.open
  clear c0 c4 c5 hS hl hg h
  rw [partOf] at hr
  generalize p.name = nm at *
  generalize p.no = no at *
  generalize p.must = mu at *
  by_cases h5 : o = 5
  · subst h5
    obtain ⟨n, hn⟩ := boolOf (nameP nm)
    have cn := hd (fun w => name_i nm w hs n hn)
    have cw := hd (fun w => within_i no 1 30 w (decide (1 ≤ no ∧ no ≤ 30)) rfl)
    have hz := hd (show r = (n && decide (1 ≤ no ∧ no ≤ 30)) by
      rw [Bool.eq_iff_iff, hr, Bool.and_eq_true, hn, decide_eq_true_eq]; simp)
    generalize decide (1 ≤ no ∧ no ≤ 30) = z at *
    clear hr hn
    cases n with
    | false =>
      go_enter Try.func148, Try.ntmps148
      go_wp2_with fail
      refine (cn.out _).mono ?_
      rintro e w2 ⟨rfl, rfl⟩
      go_wp2_with fail
      go_ret
      exact ⟨by rw [hz.out]; rfl, rfl⟩
    | true =>
      go_enter Try.func148, Try.ntmps148
      go_wp2_with fail
      refine (cn.out _).mono ?_
      rintro e w2 ⟨rfl, rfl⟩
      go_wp2_with fail
      refine (cw.out _).mono ?_
      rintro e w2 ⟨rfl, rfl⟩
      go_wp2_with fail
      go_ret
      exact ⟨by rw [hz.out]; rfl, rfl⟩
  · have h5b : (o == 5) = false := by simpa using h5
    have hz := hd (show r = (nm.toList.isEmpty && (no == 0) && !mu) by
      rw [Bool.eq_iff_iff, hr]
      simp only [Bool.and_eq_true, emp_iff, beq_iff_eq, Bool.not_eq_true']
      constructor
      · intro g; have := g.2 h5; exact ⟨⟨this.1, this.2.1⟩, this.2.2⟩
      · rintro ⟨⟨g1, g2⟩, g3⟩; exact ⟨fun g => absurd g h5, fun _ => ⟨g1, g2, g3⟩⟩)
    clear hr h5
    cases hn : nm.toList.isEmpty with
    | false =>
      go_enter Try.func148, Try.ntmps148
      go_wp2_with fail
      go_ret
      exact ⟨by rw [hz.out, hn]; rfl, rfl⟩
    | true =>
      cases hno : (no == 0) with
      | false =>
        go_enter Try.func148, Try.ntmps148
        go_wp2_with fail
        go_ret
        exact ⟨by rw [hz.out, hn, hno]; rfl, rfl⟩
      | true =>
        go_enter Try.func148, Try.ntmps148
        go_wp2_with fail
        go_ret
        exact ⟨by rw [hz.out, hn, hno]; rfl, rfl⟩
/-- A part goes on behind those ahead of it. -/
def goodAt (ps : List K) (j : Nat) : Prop := ∃ h : j < ps.length, (∀ i (hi : i < j), ps[i].name ≠ ps[j].name) ∧ ∀ i (hi : i + 1 = j), ps[i].no < ps[j].no
theorem rising_iff {ps : List K} : risingK ps ↔ ∀ j, j < ps.length → goodAt ps j := ⟨fun h j hj => ⟨hj, h j hj⟩, fun h j hj => (h j hj).2⟩
def namesTo (ps : List K) (k : Nat) : List (List UInt8) := (ps.take k).map (fun p => p.name.data.toList)
theorem namesTo_succ {ps : List K} {k : Nat} (h : k < ps.length) : namesTo ps k ++ [ps[k].name.data.toList] = namesTo ps (k + 1) := by
  rw [namesTo, namesTo, List.take_succ_eq_append_getElem h, List.map_append]; rfl
theorem mem_names {ps : List K} {k : Nat} {s : ByteArray} (hk : k ≤ ps.length) : s.data.toList ∈ namesTo ps k ↔ ∃ i, ∃ h : i < ps.length, i < k ∧ ps[i].name = s := by
  rw [namesTo, List.mem_map]
  constructor
  · rintro ⟨p, hp, e⟩
    obtain ⟨i, hi, rfl⟩ := List.getElem_of_mem hp
    rw [List.length_take] at hi
    refine ⟨i, by omega, by omega, ?_⟩
    rw [List.getElem_take] at e
    exact ByteArray.ext (Array.ext' e)
  · rintro ⟨i, hi, hik, e⟩
    refine ⟨ps[i], ?_, by rw [e]⟩
    rw [List.mem_take_iff_getElem]
    exact ⟨i, by omega, rfl⟩
theorem goodAt_iff {ps : List K} {k : Nat} (h : k < ps.length) : goodAt ps k ↔ ps[k].name.data.toList ∉ namesTo ps k ∧ ∀ i (hi : i + 1 = k), ps[i].no < ps[k].no := by
  rw [mem_names (by omega)]
  constructor
  · rintro ⟨_, h1, h2⟩
    exact ⟨fun ⟨i, hi, hik, e⟩ => h1 i hik e, h2⟩
  · rintro ⟨h1, h2⟩
    exact ⟨h, fun i hi e => h1 ⟨i, by omega, hi, e⟩, h2⟩
theorem zeroB (w : World) : (zeroValue 4).run Try.prog w = .ok (.bool false) w := by kernel_rfl
set_option maxHeartbeats 3200000 in
theorem partsOK_i (t : K) (v : Value) (w : World) (lo hi : Nat) (h : RepP w lo hi t v) (hh : hi ≤ w.heap.size) (hnm : nmOK t) (hlen : t.parts.length ≤ 1000000) (r : Bool) (hr : r = true ↔ partsOK t.of t.most t.parts) :
    Calls Try.prog 145 #[v] w (BoolPost r w) := by
  obtain ⟨b, a, c, vs, rfl, hb, c0, c1, c2, c3, c4, c5, hS, hl, hg⟩ := h.open
  rw [partsOK] at hr
  have hnm2 := hd (fun p hp => (hnm.part (p := p) hp).self)
  have hg := hd hg
  clear c1 c2 c3 h hnm
  generalize t.of = o at *
  generalize t.most = mo at *
  generalize t.parts = ps at *
  have hcs : (o = 1 ∨ o = 2) ∨ o = 3 ∨ o = 4 ∨ o = 5 ∨ (o ≠ 1 ∧ o ≠ 2 ∧ o ≠ 3 ∧ o ≠ 4 ∧ o ≠ 5) := by omega
  rcases hcs with hc | hc | hc | hc | hc
  · have hz := hd (show r = ((mo == 0) && ((ps.length : Int) == 0)) by
      rw [Bool.eq_iff_iff, hr]
      simp only [Bool.and_eq_true, beq_iff_eq]
      constructor
      · rintro (⟨_, g1, g2⟩ | ⟨g, _⟩ | ⟨g, _⟩ | ⟨g, _⟩)
        · exact ⟨g1, by rw [g2]; rfl⟩
        all_goals omega
      · rintro ⟨g1, g2⟩; exact .inl ⟨hc, g1, List.eq_nil_of_length_eq_zero (by omega)⟩)
    clear hr
    cases hm : (mo == 0) with
    | false =>
      rcases hc with hc | hc
      all_goals
        subst hc
        go_enter Try.func145, Try.ntmps145
        go_wp2_with fail
        go_ret
        exact ⟨by rw [hz.out, hm]; rfl, Below.refl _ _⟩
    | true =>
      rcases hc with hc | hc
      all_goals
        subst hc
        go_enter Try.func145, Try.ntmps145
        go_wp2_with fail
        go_ret
        exact ⟨by rw [hz.out, hm]; simp, Below.refl _ _⟩
  · have cw := hd (fun w => within_i mo 0 20 w (decide (0 ≤ mo ∧ mo ≤ 20)) rfl)
    have hz := hd (show r = (decide (0 ≤ mo ∧ mo ≤ 20) && ((ps.length : Int) == 0)) by
      rw [Bool.eq_iff_iff, hr]
      simp only [Bool.and_eq_true, beq_iff_eq, decide_eq_true_eq]
      constructor
      · rintro (⟨g, _⟩ | ⟨_, g1, g2⟩ | ⟨g, _⟩ | ⟨g, _⟩)
        · omega
        · exact ⟨g1, by rw [g2]; rfl⟩
        all_goals omega
      · rintro ⟨g1, g2⟩; exact .inr (.inl ⟨hc, g1, List.eq_nil_of_length_eq_zero (by omega)⟩))
    clear hr
    subst hc
    cases hm : decide (0 ≤ mo ∧ mo ≤ 20) with
    | false =>
      rw [hm] at cw
      replace hm := hd hm
      go_enter Try.func145, Try.ntmps145
      go_wp2_with fail
      refine (cw.out _).mono ?_
      rintro e w2 ⟨rfl, rfl⟩
      go_wp2_with fail
      go_ret
      exact ⟨by rw [hz.out, hm.out]; rfl, Below.refl _ _⟩
    | true =>
      rw [hm] at cw
      replace hm := hd hm
      go_enter Try.func145, Try.ntmps145
      go_wp2_with fail
      refine (cw.out _).mono ?_
      rintro e w2 ⟨rfl, rfl⟩
      go_wp2_with fail
      go_ret
      exact ⟨by rw [hz.out, hm.out]; simp, Below.refl _ _⟩
  · have hz := hd (show r = ((mo == 0) && ((ps.length : Int) == 1)) by
      rw [Bool.eq_iff_iff, hr]
      simp only [Bool.and_eq_true, beq_iff_eq]
      constructor
      · rintro (⟨g, _⟩ | ⟨g, _⟩ | ⟨_, g1, g2⟩ | ⟨g, _⟩)
        · omega
        · omega
        · exact ⟨g1, by rw [g2]; rfl⟩
        · omega
      · rintro ⟨g1, g2⟩; exact .inr (.inr (.inl ⟨hc, g1, by omega⟩)))
    clear hr
    subst hc
    cases hm : (mo == 0) with
    | false =>
      go_enter Try.func145, Try.ntmps145
      go_wp2_with fail
      go_ret
      exact ⟨by rw [hz.out, hm]; rfl, Below.refl _ _⟩
    | true =>
      go_enter Try.func145, Try.ntmps145
      go_wp2_with fail
      go_ret
      exact ⟨by rw [hz.out, hm]; simp, Below.refl _ _⟩
  · cases hm : (mo == 0) with
    | false =>
      have hz := hd (show r = false by
        rw [← Bool.not_eq_true, hr]
        simp at hm
        rintro (⟨g, _⟩ | ⟨g, _⟩ | ⟨g, _⟩ | ⟨_, g, _⟩) <;> omega)
      clear hr
      subst hc
      go_enter Try.func145, Try.ntmps145
      go_wp2_with fail
      go_ret
      exact ⟨by rw [hz.out]; rfl, Below.refl _ _⟩
    | true =>
      have hz := hd (show r = true ↔ ∀ j, j < ps.length → goodAt ps j by
        rw [hr, ← rising_iff]
        simp at hm
        constructor
        · rintro (⟨g, _⟩ | ⟨g, _⟩ | ⟨g, _⟩ | ⟨_, _, g⟩)
          · omega
          · omega
          · omega
          · exact g
        · intro g; exact .inr (.inr (.inr ⟨hc, hm, g⟩)))
      clear hr
      subst hc
      have hm0 : mo = 0 := by simpa using hm
      subst hm0
      clear hm
      have hmm := @run_makeMap Try.prog
      have c5a := fun o => keepCell (below_a1 w (a := o)) c5
      have c5h := hd c5
      go_enter Try.func145, Try.ntmps145
      go_wp2_with fail
      go_loopw [74] (fun i wr => ∃ k : Nat, k ≤ ps.length ∧ i = .int .i64 k ∧ Hd (∀ j, j < k → goodAt ps j) ∧ Hd (HasMap Try.prog 9 4 wr w.heap.size k (namesTo ps k)) ∧ Hd (Below w.heap.size w wr)) (fun i _ => ps.length - (intOf i).toNat)
      case atStart => exact ⟨0, Nat.zero_le _, rfl, fun j hj => by omega, HasMap.made _ _ _ _, below_a1 _⟩
      case round =>
        obtain ⟨k, hk, rfl, hga, hmp, hbl⟩ := hrel
        obtain ⟨wo, rfl⟩ : ∃ wo : World, wo = wr := ⟨_, rfl⟩
        by_cases hlt : k < ps.length
        · have hltI : (k : Int) < (ps.length : Int) := by omega
          obtain ⟨b1, o1, rfl, hb1, hc1⟩ := hS.at (j := k) (by omega)
          have q := keepCell hbl.out (hc1 k (by omega))
          have c5w := keepCell hbl.out c5h.out
          obtain ⟨b2, a2, c2, vs2, hv2, hb2, d0, d1, d2, d3, d4, d5, _⟩ := ((hg.out k hlt (by omega)).below hh hbl.out).open
          rw [hv2] at q
          have hgi := hd (goodAt_iff hlt)
          have hns := hd (namesTo_succ hlt)
          have hsz := hnm2.out ps[k] (List.getElem_mem hlt)
          obtain ⟨cb, hcb⟩ : ∃ c, decide (ps[k].name.data.toList ∈ namesTo ps k) = c := ⟨_, rfl⟩
          have hlk := fun n => (hmp.out.drewN n).look Try.underlying9 Try.underlying4 Try.underlying177 (zeroB (wo.drewN n)) (s := ps[k].name) (by unfold maxLen; omega) cb hcb
          have hcb := hd hcb
          obtain ⟨D, hD1, hD2, hD3⟩ := hmp.out
          have hD1 := hd hD1
          have hprev : ∀ m, k = m + 1 → ∃ b3 n3, wo.cell? ⟨b1, o1 + m, none⟩ = some (.pointer (some ⟨b3, 0, none⟩)) ∧ wo.cell? ⟨b3, 2, none⟩ = some (.int .i64 n3) ∧ (∀ i (hi : i + 1 = k), ps[i].no < ps[k].no) = (n3 < ps[k].no) := by
            intro m hm
            obtain ⟨b3, _, _, _, hv3, _, _, _, e2, _⟩ := ((hg.out m (by omega) (by omega)).below hh hbl.out).open
            refine ⟨b3, _, by rw [← hv3]; exact keepCell hbl.out (hc1 m (by omega)), e2, ?_⟩
            apply propext
            constructor
            · intro g; exact g m hm.symm
            · intro g i hi
              have : i = m := by omega
              subst this; exact g
          replace hprev := hd hprev
          generalize ps[k] = p at *
          clear hmm hc1 d0 d3 d4 d5 hg hv2
          cases cb with
          | true =>
            have hres := hd (show r = false by
              rw [← Bool.not_eq_true, hz.out]; intro g
              have := (hgi.out.1 (g k hlt)).1
              exact this (by simpa using hcb.out))
            go_wp2_with fail
            go_quiet (fail)
            go_wp2_with fail
            go_ret
            exact ⟨by rw [hres.out]; rfl, below_drewN hbl.out _⟩
          | false =>
            have hnin := hd (show p.name.data.toList ∉ namesTo ps k from by simpa using hcb.out)
            rcases Nat.eq_zero_or_pos k with h0 | h0
            · have hgd := hd (show goodAt ps k from hgi.out.2 ⟨hnin.out, fun i hi => by omega⟩)
              have hk0 : decide ((0 : Int) < (k : Int)) = false := by simp; omega
              have hk1 : decide (0 < k) = false := by simp; omega
              have hk2 : ¬ (0 < k) := by omega
              replace h0 := hd h0
              clear hprev
              go_wp2_with fail
              go_quiet (fail)
              obtain ⟨wq, hwq⟩ : ∃ wq, wq = wo.drewN nq := ⟨_, rfl⟩
              have hD5 := hd (show wq.ownsMap Try.prog 9 (plainElem Try.prog 4) w.heap.size (k) D by rw [hwq]; exact hD1.out)
              have hbl5 := hd (show Below w.heap.size w wq by rw [hwq]; exact below_drewN hbl.out nq)
              have d5 : wq.cell? ⟨b2, 1, none⟩ = some (.string p.name) := by rw [hwq]; exact d1
              rw [← hwq]
              clear hlk d1 d2 q c5w hwq
              go_wp2_with (at_mapUpdate; refine wpList_mapUpdate_own _ rfl (.tmp 107) (.tmp 111) (.const (.bool true)) 177 rfl 9 4 (Go.Maps.string_keyed Try.underlying9) Try.underlying177 _ w.heap.size (k) D rfl hD5.out (by unfold maxLen; omega) _ _ _ rfl rfl (Go.WideMaps.keyOf_string_mk Try.underlying9 (by unfold maxLen; omega)) _ [] (plainElem_bool Try.underlying4 true) ?_; intro w6 hown6 hg6; have hM := hd (HasMap.put hown6 hD2 hD3); have hB6 := hd (hbl5.out.grown hg6 hbl5.out.size (fun j hj => by cases hj; exact Nat.le_refl _)); rw [hns.out] at hM; clear hown6 hg6)
              have hga2 := hd (show ∀ j, j < k + 1 → goodAt ps j from fun j hj => by
                  by_cases e : j < k
                  · exact hga.out j e
                  · have : j = k := by omega
                    subst this; exact hgd.out)
              go_roundw
              case rel => exact ⟨k + 1, by omega, by go_num, hga2.out, hM, hB6⟩
              case measure => simp [intOf]; omega
            · obtain ⟨m, rfl⟩ : ∃ m, k = m + 1 := ⟨k - 1, by omega⟩
              obtain ⟨b3, n3, e1, e2, e3⟩ := hprev.out m rfl
              have hgi2 := hd (show goodAt ps (m + 1) ↔ n3 < p.no by rw [hgi.out, e3]; exact ⟨fun g => g.2, fun g => ⟨hnin.out, g⟩⟩)
              have hj0 : (0 : Int) < ((m + 1 : Nat) : Int) := by omega
              have hjw : IntKind.i64.wrap (((m + 1 : Nat) : Int) - 1) = (m : Int) := by rw [IntWalk.i64_in _ (by omega)]; omega
              have hjl : (m : Int) < (ps.length : Int) := by omega
              clear hprev e3 hgi h0
              by_cases hge : p.no ≤ n3
              · have hres := hd (show r = false by
                  rw [← Bool.not_eq_true, hz.out]; intro g
                  have := hgi2.out.1 (g _ hlt); omega)
                go_wp2_with fail
                go_quiet (fail)
                go_wp2_with fail
                go_ret
                exact ⟨by rw [hres.out]; rfl, below_drewN hbl.out _⟩
              · have hgd := hd (show goodAt ps (m + 1) from hgi2.out.2 (by omega))
                go_wp2_with fail
                go_quiet (fail)
                obtain ⟨wq, hwq⟩ : ∃ wq, wq = wo.drewN nq := ⟨_, rfl⟩
                have hD5 := hd (show wq.ownsMap Try.prog 9 (plainElem Try.prog 4) w.heap.size (m + 1) D by rw [hwq]; exact hD1.out)
                have hbl5 := hd (show Below w.heap.size w wq by rw [hwq]; exact below_drewN hbl.out nq)
                have d5 : wq.cell? ⟨b2, 1, none⟩ = some (.string p.name) := by rw [hwq]; exact d1
                rw [← hwq]
                clear hlk d1 d2 q c5w hwq
                go_wp2_with (at_mapUpdate; refine wpList_mapUpdate_own _ rfl (.tmp 107) (.tmp 111) (.const (.bool true)) 177 rfl 9 4 (Go.Maps.string_keyed Try.underlying9) Try.underlying177 _ w.heap.size (m + 1) D rfl hD5.out (by unfold maxLen; omega) _ _ _ rfl rfl (Go.WideMaps.keyOf_string_mk Try.underlying9 (by unfold maxLen; omega)) _ [] (plainElem_bool Try.underlying4 true) ?_; intro w6 hown6 hg6; have hM := hd (HasMap.put hown6 hD2 hD3); have hB6 := hd (hbl5.out.grown hg6 hbl5.out.size (fun j hj => by cases hj; exact Nat.le_refl _)); rw [hns.out] at hM; clear hown6 hg6)
                have hga2 := hd (show ∀ j, j < m + 1 + 1 → goodAt ps j from fun j hj => by
                    by_cases e : j < m + 1
                    · exact hga.out j e
                    · have : j = m + 1 := by omega
                      subst this; exact hgd.out)
                go_roundw
                case rel => exact ⟨m + 1 + 1, by omega, by go_num, hga2.out, hM, hB6⟩
                case measure => simp [intOf]; omega
        · obtain rfl : k = ps.length := by omega
          have hltI : ¬ (ps.length : Int) < (ps.length : Int) := by omega
          have hres := hd (hz.out.2 (fun j hj => hga.out j hj))
          clear hmm
          go_wp2_with fail
          go_ret
          exact ⟨by rw [hres.out]; rfl, hbl.out⟩
  · have hz := hd (show r = false by
      rw [← Bool.not_eq_true, hr]
      rintro (⟨g, _⟩ | ⟨g, _⟩ | ⟨g, _⟩ | ⟨g, _⟩) <;> omega)
    clear hr
    obtain ⟨n1, n2, n3, n4, n5⟩ := hc
    have e1 : (o == 1) = false := by simpa using n1
    have e2 : (o == 2) = false := by simpa using n2
    have e3 : (o == 3) = false := by simpa using n3
    have e4 : (o == 4) = false := by simpa using n4
    have e5 : (o == 5) = false := by simpa using n5
    clear n1 n2 n3 n4 n5
    go_enter Try.func145, Try.ntmps145
    go_wp2_with fail
    go_ret
    exact ⟨by rw [hz.out]; rfl, Below.refl _ _⟩
end Go.Proofs.Ytobahkjbadamhaa

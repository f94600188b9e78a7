/- Reading a tree of types: holds, names, parts, depth, count of the program (with KindB, KindC). -/
import Derived.Test.YtcepnifcfkgaeaaDoorTrees
import Derived.Test.YtcepnifcfkgaeaaDoorBases
import Derived.BigQuiet
import Derived.IntWalk
/- Reading a tree of types: holds, names, parts, depth, count of the program. -/
namespace Go.Proofs.YtcepnifcfkgaeaaDoor
open Go.RowKit
set_option linter.unusedVariables false
set_option maxRecDepth 100000
def letters (s : ByteArray) (n : Nat) : Prop := ∀ i (h : i < s.size), i < n → 97 ≤ s[i].toNat ∧ s[i].toNat ≤ 122
theorem name_iff {s : ByteArray} : nameP s ↔ letters s s.size ∧ 1 ≤ s.size ∧ s.size ≤ 10 := by
  rw [nameP]
  constructor
  · rintro ⟨h, h2⟩
    exact ⟨fun i hi _ => h _ (by have : i < s.data.toList.length := hi; exact List.getElem_mem this), h2⟩
  · rintro ⟨h, h2⟩
    refine ⟨fun c hc => ?_, h2⟩
    obtain ⟨i, hi, rfl⟩ := List.getElem_of_mem hc
    exact h i hi hi
theorem letters_at {s : ByteArray} {k : Nat} (h : k < s.size) : s[k].toNat < 256 := s[k].toNat_lt
set_option maxHeartbeats 800000 in
theorem name_i (s : ByteArray) (w : World) (hs : s.size ≤ 1000000000000) (b : Bool) (hb : b = true ↔ nameP s) : Calls Tryd.prog 49 #[.string s] w (fun e w' => e = .returned (.bool b) ∧ w = w') := by
  have hB := hd hb
  clear hb
  have hlen := hd (fun (h : letters s s.size) (w : World) => within_i (s.size : Int) 1 10 w b (by rw [Bool.eq_iff_iff, hB.out, name_iff]; simp only [decide_eq_true_eq]; constructor <;> (intro g; first | exact ⟨h, by omega, by omega⟩ | exact ⟨by omega, by omega⟩)))
  go_enter Tryd.func49, Tryd.ntmps49
  go_wp2_with fail
  go_loop [6] (fun i => ∃ k : Nat, k ≤ s.size ∧ i = .int .i64 k ∧ Hd (letters s k)) (fun i => s.size - (intOf i).toNat)
  case atStart => exact ⟨0, Nat.zero_le _, rfl, fun i h hi => by omega⟩
  case round =>
    obtain ⟨k, hk, rfl, hl⟩ := hrel
    by_cases hlt : k < s.size
    · have hg : (k : Int) < (s.size : Int) := by omega
      have hc := hd (letters_at (s := s) hlt)
      by_cases h1 : s[k].toNat < 97
      · have hf := hd (show b = false by rw [← Bool.not_eq_true, hB.out, name_iff]; rintro ⟨h, _⟩; have := h k hlt hlt; omega)
        go_wp2_with fail
        go_ret
        exact ⟨by rw [hf.out]; rfl, rfl⟩
      · by_cases h2 : 122 < s[k].toNat
        · have hf := hd (show b = false by rw [← Bool.not_eq_true, hB.out, name_iff]; rintro ⟨h, _⟩; have := h k hlt hlt; omega)
          go_wp2_with fail
          go_ret
          exact ⟨by rw [hf.out]; rfl, rfl⟩
        · have hn := hd (show letters s (k + 1) from fun i h hi => by
            by_cases e : i = k
            · subst e; omega
            · exact hl.out i h (by omega))
          go_wp2_with fail
          go_round
          case rel => exact ⟨k + 1, by omega, by go_num, hn⟩
          case measure => simp [intOf]; omega
    · obtain rfl : k = s.size := by omega
      have hg : ¬ (s.size : Int) < (s.size : Int) := by omega
      go_wp2_with fail
      refine (hlen.out hl.out _).mono ?_
      rintro e w2 ⟨rfl, rfl⟩
      go_wp2_with fail
      go_ret
      exact ⟨rfl, rfl⟩
set_option maxHeartbeats 800000 in
theorem name_s (s : ByteArray) (w : World) (hs : s.size ≤ 1000000000000) (b : Bool) (hb : b = true ↔ nameP s) : Calls Tryd.prog 32 #[.string s] w (fun e w' => e = .returned (.bool b) ∧ w = w') := by
  have hB := hd hb
  clear hb
  have hlen := hd (fun (h : letters s s.size) (w : World) => within_s (s.size : Int) 1 10 w b (by rw [Bool.eq_iff_iff, hB.out, name_iff]; simp only [decide_eq_true_eq]; constructor <;> (intro g; first | exact ⟨h, by omega, by omega⟩ | exact ⟨by omega, by omega⟩)))
  go_enter Tryd.func32, Tryd.ntmps32
  go_wp2_with fail
  go_loop [3] (fun i => ∃ k : Nat, k ≤ s.size ∧ i = .int .i64 k ∧ Hd (letters s k)) (fun i => s.size - (intOf i).toNat)
  case atStart => exact ⟨0, Nat.zero_le _, rfl, fun i h hi => by omega⟩
  case round =>
    obtain ⟨k, hk, rfl, hl⟩ := hrel
    by_cases hlt : k < s.size
    · have hg : (k : Int) < (s.size : Int) := by omega
      have hc := hd (letters_at (s := s) hlt)
      by_cases h1 : s[k].toNat < 97
      · have hf := hd (show b = false by rw [← Bool.not_eq_true, hB.out, name_iff]; rintro ⟨h, _⟩; have := h k hlt hlt; omega)
        go_wp2_with fail
        go_ret
        exact ⟨by rw [hf.out]; rfl, rfl⟩
      · by_cases h2 : 122 < s[k].toNat
        · have hf := hd (show b = false by rw [← Bool.not_eq_true, hB.out, name_iff]; rintro ⟨h, _⟩; have := h k hlt hlt; omega)
          go_wp2_with fail
          go_ret
          exact ⟨by rw [hf.out]; rfl, rfl⟩
        · have hn := hd (show letters s (k + 1) from fun i h hi => by
            by_cases e : i = k
            · subst e; omega
            · exact hl.out i h (by omega))
          go_wp2_with fail
          go_round
          case rel => exact ⟨k + 1, by omega, by go_num, hn⟩
          case measure => simp [intOf]; omega
    · obtain rfl : k = s.size := by omega
      have hg : ¬ (s.size : Int) < (s.size : Int) := by omega
      go_wp2_with fail
      refine (hlen.out hl.out _).mono ?_
      rintro e w2 ⟨rfl, rfl⟩
      go_wp2_with fail
      go_ret
      exact ⟨rfl, rfl⟩
set_option maxHeartbeats 400000 in
theorem holds_i (t : K) (v : Value) (w : World) (lo hi : Nat) (h : RepP w lo hi t v) : Calls Tryd.prog 33 #[v] w (fun e w' => e = .returned (.bool (holdsB t.of)) ∧ w = w') := by
  obtain ⟨b, a, c, vs, rfl, hb, c0, c1, c2, c3, c4, c5, hS, hl, hg⟩ := h.open
  have hz := hd (show holdsB t.of = (t.of == 4 || t.of == 5) from rfl)
  clear c1 c2 c3 c4 c5 hS hl hg h
  generalize holdsB t.of = z at *
  generalize t.of = o at *
  cases h4 : (o == 4) with
  | true =>
    go_enter Tryd.func33, Tryd.ntmps33
    go_wp2_with fail
    go_ret
    exact ⟨by rw [hz.out, h4]; rfl, rfl⟩
  | false =>
    go_enter Tryd.func33, Tryd.ntmps33
    go_wp2_with fail
    go_ret
    exact ⟨by rw [hz.out, h4]; rfl, rfl⟩
theorem holds_s (k : Int) (w : World) : Calls Tryd.prog 30 #[.int .i64 k] w (fun e w' => e = .returned (.bool (holdsB k)) ∧ w = w') := by
  have hz := hd (show holdsB k = (k == 4 || k == 5) from rfl)
  generalize holdsB k = z at *
  cases h4 : (k == 4) with
  | true =>
    go_enter Tryd.func30, Tryd.ntmps30
    go_wp2_with fail
    go_ret
    exact ⟨by rw [hz.out, h4]; rfl, rfl⟩
  | false =>
    go_enter Tryd.func30, Tryd.ntmps30
    go_wp2_with fail
    go_ret
    exact ⟨by rw [hz.out, h4]; rfl, rfl⟩
set_option maxHeartbeats 800000 in
theorem deep_i (t : K) : ∀ (v : Value) (w : World) (lo hi : Nat), hi ≤ w.heap.size → countK t ≤ 1000000 → RepP w lo hi t v → Calls Tryd.prog 35 #[v] w (IntPost (deepK t) w) := by
  refine K.ind2 (P := fun t => ∀ (v : Value) (w : World) (lo hi : Nat), hi ≤ w.heap.size → countK t ≤ 1000000 → RepP w lo hi t v → Calls Tryd.prog 35 #[v] w (IntPost (deepK t) w)) ?_ t
  intro t ih v w lo hi hh hc h
  have ih := hd ih
  obtain ⟨b, a, c, vs, rfl, hb, c0, c1, c2, c3, c4, c5, hS, hl, hg⟩ := h.open
  have hg := hd hg
  have hdk := deep_count t
  have hH := hd h
  have hz := hd (deepK_eq t)
  have hup := hd (fun n => show up1 t.of n = if holdsB t.of then n + 1 else n from rfl)
  have hch := hd (fun w' (hbl : Below w.heap.size w w') => holds_i t _ w' lo hi (h.below hh hbl))
  have hnn := hd (deepL_nn t.parts)
  have hbnd := hd (fun k => Int.le_trans (deepL_le 0 (t.parts.take k) (fun p _ => deep_count p)) (Int.ofNat_le.2 (countL_le t.parts k)))
  have hcc : countL t.parts ≤ 1000000 := by have := countK_eq t; omega
  have hcp := hd (fun p (hp : p ∈ t.parts) => Nat.le_trans (count_part hp) hcc)
  clear c0 c1 c2 c3 c4 h
  have hpl : t.parts.length ≤ 1000000 := by have := len_count t.parts; omega
  generalize hps : t.parts = ps at *
  generalize holdsB t.of = hb0 at *
  replace hps := hd hps
  go_enter Tryd.func35, Tryd.ntmps35
  go_wp2_with fail
  go_loopw [3, 11] (fun m i wr => ∃ k : Nat, k ≤ ps.length ∧ i = .int .i64 k ∧ m = .int .i64 (deepL (ps.take k)) ∧ Hd (Below w.heap.size w wr)) (fun _ i _ => ps.length - (intOf i).toNat)
  case atStart => exact ⟨0, Nat.zero_le _, rfl, by rw [List.take_zero, deepL], Below.refl _ _⟩
  case round =>
    obtain ⟨k, hk, rfl, rfl, hbl⟩ := hrel
    obtain ⟨wo, rfl⟩ : ∃ wo : World, wo = wr := ⟨_, rfl⟩
    by_cases hlt : k < ps.length
    · have hltI : (k : Int) < (ps.length : Int) := by omega
      obtain ⟨b1, o1, rfl, hb1, hc1⟩ := hS.at (j := k) (by omega)
      have q := keepCell hbl.out (hc1 k (by omega))
      have hp := hd ((hg.out k hlt (by omega)).below hh hbl.out)
      have hi := hd (ih.out ps[k] (List.getElem_mem hlt) vs[k] wo lo hi (Nat.le_trans hh hbl.out.size) (hcp.out _ (List.getElem_mem hlt)) hp.out)
      have htk := hd (deepL_take hlt)
      generalize vs[k] = u at *
      generalize deepK ps[k] = n1 at *
      generalize deepL (ps.take k) = n0 at *
      clear hc1
      go_wp2_with fail
      refine hi.out.mono ?_
      rintro e w2 ⟨rfl, hb2⟩
      have hbl2 := hd (hbl.out.next hb2)
      clear hb2
      go_wp2_with fail
      go_roundw
      case rel => exact ⟨k + 1, by omega, by go_num, by rw [htk.out]; congr 1; split <;> omega, hbl2⟩
      case measure => simp [intOf]; omega
    · obtain rfl : k = ps.length := by omega
      have hltI : ¬ (ps.length : Int) < (ps.length : Int) := by omega
      rw [List.take_length]
      have hb9 := hbnd.out ps.length
      rw [List.take_length] at hb9
      have hn9 := hnn.out
      generalize deepL ps = n0 at *
      have hu9 := hup.out n0
      cases hb0 with
      | true =>
        go_wp2_with fail
        refine (hch.out wo hbl.out).mono ?_
        rintro e w2 ⟨rfl, rfl⟩
        go_wp2_with fail
        go_ret
        exact ⟨by rw [hz.out, hu9]; rfl, hbl.out⟩
      | false =>
        go_wp2_with fail
        refine (hch.out wo hbl.out).mono ?_
        rintro e w2 ⟨rfl, rfl⟩
        go_wp2_with fail
        go_ret
        exact ⟨by rw [hz.out, hu9]; rfl, hbl.out⟩
set_option maxHeartbeats 800000 in
theorem count_i (t : K) : ∀ (v : Value) (w : World) (lo hi : Nat), hi ≤ w.heap.size → countK t ≤ 1000000 → RepP w lo hi t v → Calls Tryd.prog 36 #[v] w (IntPost (countK t : Nat) w) := by
  refine K.ind2 (P := fun t => ∀ (v : Value) (w : World) (lo hi : Nat), hi ≤ w.heap.size → countK t ≤ 1000000 → RepP w lo hi t v → Calls Tryd.prog 36 #[v] w (IntPost (countK t : Nat) w)) ?_ t
  intro t ih v w lo hi hh hc h
  have ih := hd ih
  obtain ⟨b, a, c, vs, rfl, hb, c0, c1, c2, c3, c4, c5, hS, hl, hg⟩ := h.open
  have hg := hd hg
  have hz := hd (countK_eq t)
  have hcc : countL t.parts ≤ 1000000 := by have := countK_eq t; omega
  have hcp := hd (fun p (hp : p ∈ t.parts) => Nat.le_trans (count_part hp) hcc)
  have hbnd := hd (fun k => countL_le t.parts k)
  clear c0 c1 c2 c3 c4 h hc
  have hpl : t.parts.length ≤ 1000000 := by have := len_count t.parts; omega
  generalize hps : t.parts = ps at *
  replace hps := hd hps
  go_enter Tryd.func36, Tryd.ntmps36
  go_wp2_with fail
  go_loopw [3, 11] (fun m i wr => ∃ k : Nat, k ≤ ps.length ∧ i = .int .i64 k ∧ m = .int .i64 (1 + (countL (ps.take k) : Nat)) ∧ Hd (Below w.heap.size w wr)) (fun _ i _ => ps.length - (intOf i).toNat)
  case atStart => exact ⟨0, Nat.zero_le _, rfl, by rw [List.take_zero, countL]; rfl, Below.refl _ _⟩
  case round =>
    obtain ⟨k, hk, rfl, rfl, hbl⟩ := hrel
    obtain ⟨wo, rfl⟩ : ∃ wo : World, wo = wr := ⟨_, rfl⟩
    by_cases hlt : k < ps.length
    · have hltI : (k : Int) < (ps.length : Int) := by omega
      obtain ⟨b1, o1, rfl, hb1, hc1⟩ := hS.at (j := k) (by omega)
      have q := keepCell hbl.out (hc1 k (by omega))
      have hp := hd ((hg.out k hlt (by omega)).below hh hbl.out)
      have hi := hd (ih.out ps[k] (List.getElem_mem hlt) vs[k] wo lo hi (Nat.le_trans hh hbl.out.size) (hcp.out _ (List.getElem_mem hlt)) hp.out)
      have htk := countL_take hlt
      have hb9 := hbnd.out (k + 1)
      generalize vs[k] = u at *
      generalize countK ps[k] = n1 at *
      generalize countL (ps.take k) = n0 at *
      replace htk := hd htk
      have hs9 : (n0 : Int) + n1 ≤ 1000000 := by have := htk.out; omega
      clear hc1
      go_wp2_with fail
      refine hi.out.mono ?_
      rintro e w2 ⟨rfl, hb2⟩
      have hbl2 := hd (hbl.out.next hb2)
      clear hb2
      go_wp2_with fail
      go_roundw
      case rel => exact ⟨k + 1, by omega, by go_num, by congr 1; have := htk.out; omega, hbl2⟩
      case measure => simp [intOf]; omega
    · obtain rfl : k = ps.length := by omega
      have hltI : ¬ (ps.length : Int) < (ps.length : Int) := by omega
      rw [List.take_length]
      go_wp2_with fail
      go_ret
      exact ⟨by rw [hz.out]; congr 2, hbl.out⟩
end Go.Proofs.YtcepnifcfkgaeaaDoor
/- Whether a tree of types is right: partOf, partsOK, right of the program. -/
namespace Go.Proofs.YtcepnifcfkgaeaaDoor
open Go.RowKit
set_option linter.unusedVariables false
set_option maxRecDepth 100000
theorem boolOf (p : Prop) : ∃ b : Bool, b = true ↔ p := by
  by_cases h : p
  · exact ⟨true, by simp [h]⟩
  · exact ⟨false, by simp [h]⟩
theorem emp_iff {s : ByteArray} : s.toList.isEmpty = true ↔ s = ⟨#[]⟩ := by
  rw [List.isEmpty_iff, ByteArray.toList_eq]
  constructor
  · intro h; exact ByteArray.ext (Array.ext' (by simpa using h))
  · intro h; subst h; rfl
theorem InK.trans {a b c : K} (h : InK a b) (h2 : InK b c) : InK a c := by
  induction h2 with
  | self t => exact h
  | part o nm no mu mo ps p s hp _ ih => exact .part _ _ _ _ _ _ _ _ hp (ih h)
theorem InK.kid {t p : K} (h : p ∈ t.parts) : InK p t := by cases t; exact .part _ _ _ _ _ _ _ _ h (.self p)
/-- No name of a tree is longer than Go allows. -/
def nmOK (t : K) : Prop := ∀ s, InK s t → s.name.size ≤ 1000000000000
theorem nmOK.self {t : K} (h : nmOK t) : t.name.size ≤ 1000000000000 := h t (.self t)
theorem nmOK.part {t p : K} (h : nmOK t) (hp : p ∈ t.parts) : nmOK p := fun s hs => h s (hs.trans (.kid hp))
set_option maxHeartbeats 800000 in
theorem partOf_i (p : K) (v : Value) (o : Int) (w : World) (lo hi : Nat) (h : RepP w lo hi p v) (hs : p.name.size ≤ 1000000000000) (r : Bool) (hr : r = true ↔ partOf o p) :
    Calls Tryd.prog 44 #[v, .int .i64 o] w (fun e w' => e = .returned (.bool r) ∧ w = w') := by
  obtain ⟨b, a, c, vs, rfl, hb, c0, c1, c2, c3, c4, c5, hS, hl, hg⟩ := h.open
  clear c0 c4 c5 hS hl hg h
  rw [partOf] at hr
  generalize p.name = nm at *
  generalize p.no = no at *
  generalize p.must = mu at *
  by_cases h5 : o = 5
  · subst h5
    obtain ⟨n, hn⟩ := boolOf (nameP nm)
    have cn := hd (fun w => name_i nm w hs n hn)
    have cw := hd (fun w => within_i no 1 30 w (decide (1 ≤ no ∧ no ≤ 30)) rfl)
    have hz := hd (show r = (n && decide (1 ≤ no ∧ no ≤ 30)) by
      rw [Bool.eq_iff_iff, hr, Bool.and_eq_true, hn, decide_eq_true_eq]; simp)
    generalize decide (1 ≤ no ∧ no ≤ 30) = z at *
    clear hr hn
    cases n with
    | false =>
      go_enter Tryd.func44, Tryd.ntmps44
      go_wp2_with fail
      refine (cn.out _).mono ?_
      rintro e w2 ⟨rfl, rfl⟩
      go_wp2_with fail
      go_ret
      exact ⟨by rw [hz.out]; rfl, rfl⟩
    | true =>
      go_enter Tryd.func44, Tryd.ntmps44
      go_wp2_with fail
      refine (cn.out _).mono ?_
      rintro e w2 ⟨rfl, rfl⟩
      go_wp2_with fail
      refine (cw.out _).mono ?_
      rintro e w2 ⟨rfl, rfl⟩
      go_wp2_with fail
      go_ret
      exact ⟨by rw [hz.out]; rfl, rfl⟩
  · have h5b : (o == 5) = false := by simpa using h5
    have hz := hd (show r = (nm.toList.isEmpty && (no == 0) && !mu) by
      rw [Bool.eq_iff_iff, hr]
      simp only [Bool.and_eq_true, emp_iff, beq_iff_eq, Bool.not_eq_true']
      constructor
      · intro g; have := g.2 h5; exact ⟨⟨this.1, this.2.1⟩, this.2.2⟩
      · rintro ⟨⟨g1, g2⟩, g3⟩; exact ⟨fun g => absurd g h5, fun _ => ⟨g1, g2, g3⟩⟩)
    clear hr h5
    cases hn : nm.toList.isEmpty with
    | false =>
      go_enter Tryd.func44, Tryd.ntmps44
      go_wp2_with fail
      go_ret
      exact ⟨by rw [hz.out, hn]; rfl, rfl⟩
    | true =>
      cases hno : (no == 0) with
      | false =>
        go_enter Tryd.func44, Tryd.ntmps44
        go_wp2_with fail
        go_ret
        exact ⟨by rw [hz.out, hn, hno]; rfl, rfl⟩
      | true =>
        go_enter Tryd.func44, Tryd.ntmps44
        go_wp2_with fail
        go_ret
        exact ⟨by rw [hz.out, hn, hno]; rfl, rfl⟩
/-- A part goes on behind those ahead of it. -/
def goodAt (ps : List K) (j : Nat) : Prop := ∃ h : j < ps.length, (∀ i (hi : i < j), ps[i].name ≠ ps[j].name) ∧ ∀ i (hi : i + 1 = j), ps[i].no < ps[j].no
theorem rising_iff {ps : List K} : risingK ps ↔ ∀ j, j < ps.length → goodAt ps j := ⟨fun h j hj => ⟨hj, h j hj⟩, fun h j hj => (h j hj).2⟩
def namesTo (ps : List K) (k : Nat) : List (List UInt8) := (ps.take k).map (fun p => p.name.data.toList)
theorem namesTo_succ {ps : List K} {k : Nat} (h : k < ps.length) : namesTo ps k ++ [ps[k].name.data.toList] = namesTo ps (k + 1) := by
  rw [namesTo, namesTo, List.take_succ_eq_append_getElem h, List.map_append]; rfl
theorem mem_names {ps : List K} {k : Nat} {s : ByteArray} (hk : k ≤ ps.length) : s.data.toList ∈ namesTo ps k ↔ ∃ i, ∃ h : i < ps.length, i < k ∧ ps[i].name = s := by
  rw [namesTo, List.mem_map]
  constructor
  · rintro ⟨p, hp, e⟩
    obtain ⟨i, hi, rfl⟩ := List.getElem_of_mem hp
    rw [List.length_take] at hi
    refine ⟨i, by omega, by omega, ?_⟩
    rw [List.getElem_take] at e
    exact ByteArray.ext (Array.ext' e)
  · rintro ⟨i, hi, hik, e⟩
    refine ⟨ps[i], ?_, by rw [e]⟩
    rw [List.mem_take_iff_getElem]
    exact ⟨i, by omega, rfl⟩
theorem goodAt_iff {ps : List K} {k : Nat} (h : k < ps.length) : goodAt ps k ↔ ps[k].name.data.toList ∉ namesTo ps k ∧ ∀ i (hi : i + 1 = k), ps[i].no < ps[k].no := by
  rw [mem_names (by omega)]
  constructor
  · rintro ⟨_, h1, h2⟩
    exact ⟨fun ⟨i, hi, hik, e⟩ => h1 i hik e, h2⟩
  · rintro ⟨h1, h2⟩
    exact ⟨h, fun i hi e => h1 ⟨i, by omega, hi, e⟩, h2⟩
theorem zeroB (w : World) : (zeroValue 4).run Tryd.prog w = .ok (.bool false) w := by kernel_rfl
set_option maxHeartbeats 3200000 in
theorem partsOK_i (t : K) (v : Value) (w : World) (lo hi : Nat) (h : RepP w lo hi t v) (hh : hi ≤ w.heap.size) (hnm : nmOK t) (hlen : t.parts.length ≤ 1000000) (r : Bool) (hr : r = true ↔ partsOK t.of t.most t.parts) :
    Calls Tryd.prog 41 #[v] w (BoolPost r w) := by
  obtain ⟨b, a, c, vs, rfl, hb, c0, c1, c2, c3, c4, c5, hS, hl, hg⟩ := h.open
  rw [partsOK] at hr
  have hnm2 := hd (fun p hp => (hnm.part (p := p) hp).self)
  have hg := hd hg
  clear c1 c2 c3 h hnm
  generalize t.of = o at *
  generalize t.most = mo at *
  generalize t.parts = ps at *
  have hcs : (o = 1 ∨ o = 2) ∨ o = 3 ∨ o = 4 ∨ o = 5 ∨ (o ≠ 1 ∧ o ≠ 2 ∧ o ≠ 3 ∧ o ≠ 4 ∧ o ≠ 5) := by omega
  rcases hcs with hc | hc | hc | hc | hc
  · have hz := hd (show r = ((mo == 0) && ((ps.length : Int) == 0)) by
      rw [Bool.eq_iff_iff, hr]
      simp only [Bool.and_eq_true, beq_iff_eq]
      constructor
      · rintro (⟨_, g1, g2⟩ | ⟨g, _⟩ | ⟨g, _⟩ | ⟨g, _⟩)
        · exact ⟨g1, by rw [g2]; rfl⟩
        all_goals omega
      · rintro ⟨g1, g2⟩; exact .inl ⟨hc, g1, List.eq_nil_of_length_eq_zero (by omega)⟩)
    clear hr
    cases hm : (mo == 0) with
    | false =>
      rcases hc with hc | hc
      all_goals
        subst hc
        go_enter Tryd.func41, Tryd.ntmps41
        go_wp2_with fail
        go_ret
        exact ⟨by rw [hz.out, hm]; rfl, Below.refl _ _⟩
    | true =>
      rcases hc with hc | hc
      all_goals
        subst hc
        go_enter Tryd.func41, Tryd.ntmps41
        go_wp2_with fail
        go_ret
        exact ⟨by rw [hz.out, hm]; simp, Below.refl _ _⟩
  · have cw := hd (fun w => within_i mo 0 20 w (decide (0 ≤ mo ∧ mo ≤ 20)) rfl)
    have hz := hd (show r = (decide (0 ≤ mo ∧ mo ≤ 20) && ((ps.length : Int) == 0)) by
      rw [Bool.eq_iff_iff, hr]
      simp only [Bool.and_eq_true, beq_iff_eq, decide_eq_true_eq]
      constructor
      · rintro (⟨g, _⟩ | ⟨_, g1, g2⟩ | ⟨g, _⟩ | ⟨g, _⟩)
        · omega
        · exact ⟨g1, by rw [g2]; rfl⟩
        all_goals omega
      · rintro ⟨g1, g2⟩; exact .inr (.inl ⟨hc, g1, List.eq_nil_of_length_eq_zero (by omega)⟩))
    clear hr
    subst hc
    cases hm : decide (0 ≤ mo ∧ mo ≤ 20) with
    | false =>
      rw [hm] at cw
      replace hm := hd hm
      go_enter Tryd.func41, Tryd.ntmps41
      go_wp2_with fail
      refine (cw.out _).mono ?_
      rintro e w2 ⟨rfl, rfl⟩
      go_wp2_with fail
      go_ret
      exact ⟨by rw [hz.out, hm.out]; rfl, Below.refl _ _⟩
    | true =>
      rw [hm] at cw
      replace hm := hd hm
      go_enter Tryd.func41, Tryd.ntmps41
      go_wp2_with fail
      refine (cw.out _).mono ?_
      rintro e w2 ⟨rfl, rfl⟩
      go_wp2_with fail
      go_ret
      exact ⟨by rw [hz.out, hm.out]; simp, Below.refl _ _⟩
  · have hz := hd (show r = ((mo == 0) && ((ps.length : Int) == 1)) by
      rw [Bool.eq_iff_iff, hr]
      simp only [Bool.and_eq_true, beq_iff_eq]
      constructor
      · rintro (⟨g, _⟩ | ⟨g, _⟩ | ⟨_, g1, g2⟩ | ⟨g, _⟩)
        · omega
        · omega
        · exact ⟨g1, by rw [g2]; rfl⟩
        · omega
      · rintro ⟨g1, g2⟩; exact .inr (.inr (.inl ⟨hc, g1, by omega⟩)))
    clear hr
    subst hc
    cases hm : (mo == 0) with
    | false =>
      go_enter Tryd.func41, Tryd.ntmps41
      go_wp2_with fail
      go_ret
      exact ⟨by rw [hz.out, hm]; rfl, Below.refl _ _⟩
    | true =>
      go_enter Tryd.func41, Tryd.ntmps41
      go_wp2_with fail
      go_ret
      exact ⟨by rw [hz.out, hm]; simp, Below.refl _ _⟩
  · cases hm : (mo == 0) with
    | false =>
      have hz := hd (show r = false by
        rw [← Bool.not_eq_true, hr]
        simp at hm
        rintro (⟨g, _⟩ | ⟨g, _⟩ | ⟨g, _⟩ | ⟨_, g, _⟩) <;> omega)
      clear hr
      subst hc
      go_enter Tryd.func41, Tryd.ntmps41
      go_wp2_with fail
      go_ret
      exact ⟨by rw [hz.out]; rfl, Below.refl _ _⟩
    | true =>
      have hz := hd (show r = true ↔ ∀ j, j < ps.length → goodAt ps j by
        rw [hr, ← rising_iff]
        simp at hm
        constructor
        · rintro (⟨g, _⟩ | ⟨g, _⟩ | ⟨g, _⟩ | ⟨_, _, g⟩)
          · omega
          · omega
          · omega
          · exact g
        · intro g; exact .inr (.inr (.inr ⟨hc, hm, g⟩)))
      clear hr
      subst hc
      have hm0 : mo = 0 := by simpa using hm
      subst hm0
      clear hm
      have hmm := @run_makeMap Tryd.prog
      have c5a := fun o => keepCell (below_a1 w (a := o)) c5
      have c5h := hd c5
      go_enter Tryd.func41, Tryd.ntmps41
      go_wp2_with fail
      go_loopw [74] (fun i wr => ∃ k : Nat, k ≤ ps.length ∧ i = .int .i64 k ∧ Hd (∀ j, j < k → goodAt ps j) ∧ Hd (HasMap Tryd.prog 9 4 wr w.heap.size k (namesTo ps k)) ∧ Hd (Below w.heap.size w wr)) (fun i _ => ps.length - (intOf i).toNat)
      case atStart => exact ⟨0, Nat.zero_le _, rfl, fun j hj => by omega, HasMap.made _ _ _ _, below_a1 _⟩
      case round =>
        obtain ⟨k, hk, rfl, hga, hmp, hbl⟩ := hrel
        obtain ⟨wo, rfl⟩ : ∃ wo : World, wo = wr := ⟨_, rfl⟩
        by_cases hlt : k < ps.length
        · have hltI : (k : Int) < (ps.length : Int) := by omega
          obtain ⟨b1, o1, rfl, hb1, hc1⟩ := hS.at (j := k) (by omega)
          have q := keepCell hbl.out (hc1 k (by omega))
          have c5w := keepCell hbl.out c5h.out
          obtain ⟨b2, a2, c2, vs2, hv2, hb2, d0, d1, d2, d3, d4, d5, _⟩ := ((hg.out k hlt (by omega)).below hh hbl.out).open
          rw [hv2] at q
          have hgi := hd (goodAt_iff hlt)
          have hns := hd (namesTo_succ hlt)
          have hsz := hnm2.out ps[k] (List.getElem_mem hlt)
          obtain ⟨cb, hcb⟩ : ∃ c, decide (ps[k].name.data.toList ∈ namesTo ps k) = c := ⟨_, rfl⟩
          have hlk := fun n => (hmp.out.drewN n).look Tryd.underlying9 Tryd.underlying4 Tryd.underlying83 (zeroB (wo.drewN n)) (s := ps[k].name) (by unfold maxLen; omega) cb hcb
          have hcb := hd hcb
          obtain ⟨D, hD1, hD2, hD3⟩ := hmp.out
          have hD1 := hd hD1
          have hprev : ∀ m, k = m + 1 → ∃ b3 n3, wo.cell? ⟨b1, o1 + m, none⟩ = some (.pointer (some ⟨b3, 0, none⟩)) ∧ wo.cell? ⟨b3, 2, none⟩ = some (.int .i64 n3) ∧ (∀ i (hi : i + 1 = k), ps[i].no < ps[k].no) = (n3 < ps[k].no) := by
            intro m hm
            obtain ⟨b3, _, _, _, hv3, _, _, _, e2, _⟩ := ((hg.out m (by omega) (by omega)).below hh hbl.out).open
            refine ⟨b3, _, by rw [← hv3]; exact keepCell hbl.out (hc1 m (by omega)), e2, ?_⟩
            apply propext
            constructor
            · intro g; exact g m hm.symm
            · intro g i hi
              have : i = m := by omega
              subst this; exact g
          replace hprev := hd hprev
          generalize ps[k] = p at *
          clear hmm hc1 d0 d3 d4 d5 hg hv2
          cases cb with
          | true =>
            have hres := hd (show r = false by
              rw [← Bool.not_eq_true, hz.out]; intro g
              have := (hgi.out.1 (g k hlt)).1
              exact this (by simpa using hcb.out))
            go_wp2_with fail
            go_quiet (fail)
            go_wp2_with fail
            go_ret
            exact ⟨by rw [hres.out]; rfl, below_drewN hbl.out _⟩
          | false =>
            have hnin := hd (show p.name.data.toList ∉ namesTo ps k from by simpa using hcb.out)
            rcases Nat.eq_zero_or_pos k with h0 | h0
            · have hgd := hd (show goodAt ps k from hgi.out.2 ⟨hnin.out, fun i hi => by omega⟩)
              have hk0 : decide ((0 : Int) < (k : Int)) = false := by simp; omega
              have hk1 : decide (0 < k) = false := by simp; omega
              have hk2 : ¬ (0 < k) := by omega
              replace h0 := hd h0
              clear hprev
              go_wp2_with fail
              go_quiet (fail)
              obtain ⟨wq, hwq⟩ : ∃ wq, wq = wo.drewN nq := ⟨_, rfl⟩
              have hD5 := hd (show wq.ownsMap Tryd.prog 9 (plainElem Tryd.prog 4) w.heap.size (k) D by rw [hwq]; exact hD1.out)
              have hbl5 := hd (show Below w.heap.size w wq by rw [hwq]; exact below_drewN hbl.out nq)
              have d5 : wq.cell? ⟨b2, 1, none⟩ = some (.string p.name) := by rw [hwq]; exact d1
              rw [← hwq]
              clear hlk d1 d2 q c5w hwq
              go_wp2_with (at_mapUpdate; refine wpList_mapUpdate_own _ rfl (.tmp 107) (.tmp 111) (.const (.bool true)) 83 rfl 9 4 (Go.Maps.string_keyed Tryd.underlying9) Tryd.underlying83 _ w.heap.size (k) D rfl hD5.out (by unfold maxLen; omega) _ _ _ rfl rfl (Go.WideMaps.keyOf_string_mk Tryd.underlying9 (by unfold maxLen; omega)) _ [] (plainElem_bool Tryd.underlying4 true) ?_; intro w6 hown6 hg6; have hM := hd (HasMap.put hown6 hD2 hD3); have hB6 := hd (hbl5.out.grown hg6 hbl5.out.size (fun j hj => by cases hj; exact Nat.le_refl _)); rw [hns.out] at hM; clear hown6 hg6)
              have hga2 := hd (show ∀ j, j < k + 1 → goodAt ps j from fun j hj => by
                  by_cases e : j < k
                  · exact hga.out j e
                  · have : j = k := by omega
                    subst this; exact hgd.out)
              go_roundw
              case rel => exact ⟨k + 1, by omega, by go_num, hga2.out, hM, hB6⟩
              case measure => simp [intOf]; omega
            · obtain ⟨m, rfl⟩ : ∃ m, k = m + 1 := ⟨k - 1, by omega⟩
              obtain ⟨b3, n3, e1, e2, e3⟩ := hprev.out m rfl
              have hgi2 := hd (show goodAt ps (m + 1) ↔ n3 < p.no by rw [hgi.out, e3]; exact ⟨fun g => g.2, fun g => ⟨hnin.out, g⟩⟩)
              have hj0 : (0 : Int) < ((m + 1 : Nat) : Int) := by omega
              have hjw : IntKind.i64.wrap (((m + 1 : Nat) : Int) - 1) = (m : Int) := by rw [IntWalk.i64_in _ (by omega)]; omega
              have hjl : (m : Int) < (ps.length : Int) := by omega
              clear hprev e3 hgi h0
              by_cases hge : p.no ≤ n3
              · have hres := hd (show r = false by
                  rw [← Bool.not_eq_true, hz.out]; intro g
                  have := hgi2.out.1 (g _ hlt); omega)
                go_wp2_with fail
                go_quiet (fail)
                go_wp2_with fail
                go_ret
                exact ⟨by rw [hres.out]; rfl, below_drewN hbl.out _⟩
              · have hgd := hd (show goodAt ps (m + 1) from hgi2.out.2 (by omega))
                go_wp2_with fail
                go_quiet (fail)
                obtain ⟨wq, hwq⟩ : ∃ wq, wq = wo.drewN nq := ⟨_, rfl⟩
                have hD5 := hd (show wq.ownsMap Tryd.prog 9 (plainElem Tryd.prog 4) w.heap.size (m + 1) D by rw [hwq]; exact hD1.out)
                have hbl5 := hd (show Below w.heap.size w wq by rw [hwq]; exact below_drewN hbl.out nq)
                have d5 : wq.cell? ⟨b2, 1, none⟩ = some (.string p.name) := by rw [hwq]; exact d1
                rw [← hwq]
                clear hlk d1 d2 q c5w hwq
                go_wp2_with (at_mapUpdate; refine wpList_mapUpdate_own _ rfl (.tmp 107) (.tmp 111) (.const (.bool true)) 83 rfl 9 4 (Go.Maps.string_keyed Tryd.underlying9) Tryd.underlying83 _ w.heap.size (m + 1) D rfl hD5.out (by unfold maxLen; omega) _ _ _ rfl rfl (Go.WideMaps.keyOf_string_mk Tryd.underlying9 (by unfold maxLen; omega)) _ [] (plainElem_bool Tryd.underlying4 true) ?_; intro w6 hown6 hg6; have hM := hd (HasMap.put hown6 hD2 hD3); have hB6 := hd (hbl5.out.grown hg6 hbl5.out.size (fun j hj => by cases hj; exact Nat.le_refl _)); rw [hns.out] at hM; clear hown6 hg6)
                have hga2 := hd (show ∀ j, j < m + 1 + 1 → goodAt ps j from fun j hj => by
                    by_cases e : j < m + 1
                    · exact hga.out j e
                    · have : j = m + 1 := by omega
                      subst this; exact hgd.out)
                go_roundw
                case rel => exact ⟨m + 1 + 1, by omega, by go_num, hga2.out, hM, hB6⟩
                case measure => simp [intOf]; omega
        · obtain rfl : k = ps.length := by omega
          have hltI : ¬ (ps.length : Int) < (ps.length : Int) := by omega
          have hres := hd (hz.out.2 (fun j hj => hga.out j hj))
          clear hmm
          go_wp2_with fail
          go_ret
          exact ⟨by rw [hres.out]; rfl, hbl.out⟩
  · have hz := hd (show r = false by
      rw [← Bool.not_eq_true, hr]
      rintro (⟨g, _⟩ | ⟨g, _⟩ | ⟨g, _⟩ | ⟨g, _⟩) <;> omega)
    clear hr
    obtain ⟨n1, n2, n3, n4, n5⟩ := hc
    have e1 : (o == 1) = false := by simpa using n1
    have e2 : (o == 2) = false := by simpa using n2
    have e3 : (o == 3) = false := by simpa using n3
    have e4 : (o == 4) = false := by simpa using n4
    have e5 : (o == 5) = false := by simpa using n5
    clear n1 n2 n3 n4 n5
    go_enter Tryd.func41, Tryd.ntmps41
    go_wp2_with fail
    go_ret
    exact ⟨by rw [hz.out]; rfl, Below.refl _ _⟩
end Go.Proofs.YtcepnifcfkgaeaaDoor
/- Whether a tree of types is right: right of the program. -/
namespace Go.Proofs.YtcepnifcfkgaeaaDoor
open Go.RowKit
set_option linter.unusedVariables false
set_option maxRecDepth 100000
/-- A tree, and the pointer to it. -/
structure KV where
  k : K
  v : Value
def KV.enc (x : KV) : List Value := [x.v]
def kvs (ps : List K) (vs : List Value) : List KV := List.zipWith KV.mk ps vs
theorem kvs_len {ps : List K} {vs : List Value} (h : vs.length = ps.length) : (kvs ps vs).length = ps.length := by simp [kvs, h]
theorem kvs_map : ∀ {ps : List K} {vs : List Value}, vs.length = ps.length → (kvs ps vs).map KV.enc = vs.map encV := by
  intro ps
  induction ps with
  | nil => intro vs h; have : vs = [] := List.eq_nil_of_length_eq_zero (by simpa using h); subst this; rfl
  | cons p ps ih =>
    intro vs h
    cases vs with
    | nil => simp at h
    | cons v vs =>
      have := ih (vs := vs) (by simpa using h)
      simp only [kvs, List.zipWith_cons_cons, List.map_cons] at this ⊢
      rw [this]; rfl
theorem kvs_k : ∀ {ps : List K} {vs : List Value}, vs.length = ps.length → (kvs ps vs).map KV.k = ps := by
  intro ps
  induction ps with
  | nil => intro vs h; have : vs = [] := List.eq_nil_of_length_eq_zero (by simpa using h); subst this; rfl
  | cons p ps ih =>
    intro vs h
    cases vs with
    | nil => simp at h
    | cons v vs =>
      have := ih (vs := vs) (by simpa using h)
      simp only [kvs, List.zipWith_cons_cons, List.map_cons] at this ⊢
      rw [this]
theorem kvs_mem {ps : List K} {vs : List Value} (h : vs.length = ps.length) {x : KV} (hx : x ∈ kvs ps vs) : ∃ j, ∃ h1 : j < ps.length, ∃ h2 : j < vs.length, x = ⟨ps[j], vs[j]⟩ := by
  obtain ⟨j, hj, rfl⟩ := List.getElem_of_mem hx
  rw [kvs_len h] at hj
  exact ⟨j, hj, by omega, by simp [kvs]⟩
theorem kvs_any (f : K → Bool) {ps : List K} {vs : List Value} (h : vs.length = ps.length) : (kvs ps vs).any (fun x => f x.k) = ps.any f := by
  conv => rhs; rw [← kvs_k h]
  rw [List.any_map]; rfl
theorem Cells.rowKV {w : World} {b o : Nat} (l : List KV) (k : Nat) (h : k < l.length) (C : Cells w b o 1 (l.map KV.enc)) : w.cell? ⟨b, o + k, none⟩ = some l[k].v := by
  have := C.2 k (KV.enc l[k]) (by simp [h]) 0 _ rfl
  rw [Nat.mul_one, Nat.add_zero] at this; exact this
noncomputable def badK (o : Int) (p : K) : Bool := @decide (¬ (partOf o p ∧ rightK p)) (Classical.propDecidable _)
theorem badK_iff {o : Int} {p : K} : badK o p = true ↔ ¬ (partOf o p ∧ rightK p) := by simp [badK]
theorem right_iff {t : K} : rightK t ↔ partsOK t.of t.most t.parts ∧ t.parts.any (badK t.of) = false := by
  rw [List.any_eq_false]
  constructor
  · intro h
    obtain ⟨h1, h2, h3⟩ := h.ok
    exact ⟨h1, fun p hp => by rw [badK_iff]; exact fun g => g ⟨h2 p hp, h3 p hp⟩⟩
  · rintro ⟨h1, h2⟩
    obtain ⟨o, nm, no, mu, mo, ps⟩ := t
    have h3 : ∀ p ∈ ps, partOf o p ∧ rightK p := fun p hp => by
      have := h2 p hp; rw [badK_iff] at this; exact Classical.byContradiction this
    exact .mk _ _ _ _ _ _ h1 (fun p hp => (h3 p hp).1) (fun p hp => (h3 p hp).2)
set_option maxHeartbeats 800000 in
theorem ix_rt (cv : Value) (p : KV → Bool) (l : List KV) (v : Value) (w : World) (hl : l.length ≤ 1000000000000) (h : Sl w v 1 (l.map KV.enc))
    (hp : ∀ x ∈ l, ∀ w', Below w.heap.size w w' → Calls Tryd.prog 43 #[x.v, cv] w' (BoolPost (p x) w')) :
    Calls Tryd.prog 48 #[v, .func (.func 43) #[] #[cv]] w (IntPost (fidx p l) w) := by
  replace hp := hd hp
  rcases h.open with ⟨a1, c1, rfl, hr⟩ | ⟨b1, o1, c1, rfl, hr, C1⟩
  · obtain rfl : l = [] := by simpa using hr
    go_enter Tryd.func48, Tryd.ntmps48
    go_wp2
    go_loopw [8] (fun i wr => i = .int .i64 0 ∧ wr = w) (fun _ _ => 0)
    case atStart => exact ⟨rfl, rfl⟩
    case round =>
      obtain ⟨rfl, rfl⟩ := hrel
      go_wp2_with fail
      go_ret
      exact ⟨rfl, Below.refl _ _⟩
  · clear h
    simp only [List.length_map]
    go_enter Tryd.func48, Tryd.ntmps48
    go_wp2
    go_loopw [8] (fun i wr => ∃ k : Nat, k ≤ l.length ∧ i = .int .i64 k ∧ Hd (fidx_from p l k) ∧ Hd (Below w.heap.size w wr)) (fun i _ => l.length - (intOf i).toNat)
    case atStart => exact ⟨0, Nat.zero_le _, rfl, fidx_zero p l, Below.refl _ _⟩
    case round =>
      obtain ⟨k, hk, rfl, hfx, hbl⟩ := hrel
      by_cases hlt : k < l.length
      · have f0 := Cells.rowKV l k hlt (C1.mono hbl.out)
        cases hpx : p l[k] with
        | true =>
          replace hpx := hd hpx
          go_wp2_with fail
          refine (hp.out l[k] (List.getElem_mem hlt) _ hbl.out).mono ?_
          rw [hpx.out]
          rintro e w2 ⟨rfl, hb⟩
          have hb2 := hd (hbl.out.next hb)
          clear hb
          go_wp2_with fail
          go_ret
          exact ⟨ret_int (fidx_hit hlt hfx.out hpx.out).symm, hb2.out⟩
        | false =>
          replace hpx := hd hpx
          go_wp2_with fail
          refine (hp.out l[k] (List.getElem_mem hlt) _ hbl.out).mono ?_
          rw [hpx.out]
          rintro e w2 ⟨rfl, hb⟩
          have hb2 := hd (hbl.out.next hb)
          clear hb
          go_wp2_with fail
          go_roundw
          case rel => exact ⟨k + 1, by omega, by go_num, fidx_step hlt hfx.out hpx.out, hb2⟩
          case measure => simp [intOf]; omega
      · go_wp2_with fail
        go_ret
        exact ⟨ret_int (fidx_none (by omega) hfx.out).symm, hbl.out⟩
set_option maxHeartbeats 400000 in
theorem cf_rt (cv : Value) (p : KV → Bool) (l : List KV) (v : Value) (w : World) (hl : l.length ≤ 1000000000000) (h : Sl w v 1 (l.map KV.enc))
    (hp : ∀ x ∈ l, ∀ w', Below w.heap.size w w' → Calls Tryd.prog 43 #[x.v, cv] w' (BoolPost (p x) w')) (b : Bool) (hb : l.any p = b) :
    Calls Tryd.prog 42 #[v, .func (.func 43) #[] #[cv]] w (BoolPost b w) := by
  have hc := hd (fun w' (hb : Below w.heap.size w w') => ix_rt cv p l v w' hl (h.mono hb) (fun x hx w2 h2 => hp x hx w2 (hb.next h2)))
  have hany := hd hb
  have hany2 := fidx_any p l
  rw [hb] at hany2
  generalize fidx p l = r at hc hany2
  clear h hp hb
  cases b with
  | true =>
    have h0 : 0 ≤ r := hany2.2 rfl
    clear hany2
    go_enter Tryd.func42, Tryd.ntmps42
    go_wp2_with fail
    refine (hc.out _ (Below.refl _ _)).mono ?_
    rintro e w2 ⟨rfl, hb⟩
    replace hb := hd hb
    go_wp2_with fail
    go_ret
    exact ⟨rfl, hb.out⟩
  | false =>
    have h0 : decide (0 ≤ r) = false := by have := mt hany2.1 (by simp); simp; omega
    clear hany2
    go_enter Tryd.func42, Tryd.ntmps42
    go_wp2_with fail
    refine (hc.out _ (Below.refl _ _)).mono ?_
    rintro e w2 ⟨rfl, hb⟩
    replace hb := hd hb
    go_wp2_with fail
    go_ret
    exact ⟨rfl, hb.out⟩
set_option maxHeartbeats 800000 in
theorem right_cl (o : Int) (p : K) (vp : Value) (bk bt : Nat) (w : World) (lo hi : Nat) (q : w.cell? ⟨bk, 0, none⟩ = some (.pointer (some ⟨bt, 0, none⟩))) (q2 : w.cell? ⟨bt, 0, none⟩ = some (.int .i64 o))
    (hp : RepP w lo hi p vp) (hs : p.name.size ≤ 1000000000000) (hR : ∀ r, (r = true ↔ rightK p) → Calls Tryd.prog 34 #[vp] w (BoolPost r w)) :
    Calls Tryd.prog 43 #[vp, .pointer (some ⟨bk, 0, none⟩)] w (BoolPost (badK o p) w) := by
  obtain ⟨r1, h1⟩ := boolOf (partOf o p)
  obtain ⟨r2, h2⟩ := boolOf (rightK p)
  have cp := hd (partOf_i p vp o w lo hi hp hs r1 h1)
  have cr := hd (hR r2 h2)
  have hz := hd (show badK o p = (!r1 || !r2) by
    rw [Bool.eq_iff_iff, badK_iff, ← h1, ← h2]; cases r1 <;> cases r2 <;> simp)
  generalize badK o p = z at *
  clear hR h1 h2 hp
  cases r1 with
  | false =>
    go_enter Tryd.func43, Tryd.ntmps43
    go_wp2_with fail
    refine cp.out.mono ?_
    rintro e w2 ⟨rfl, rfl⟩
    go_wp2_with fail
    go_ret
    exact ⟨by rw [hz.out]; rfl, Below.refl _ _⟩
  | true =>
    go_enter Tryd.func43, Tryd.ntmps43
    go_wp2_with fail
    refine cp.out.mono ?_
    rintro e w2 ⟨rfl, rfl⟩
    go_wp2_with fail
    refine cr.out.mono ?_
    rintro e w2 ⟨rfl, hb⟩
    replace hb := hd hb
    go_wp2_with fail
    go_ret
    exact ⟨by rw [hz.out]; rfl, hb.out⟩
set_option maxHeartbeats 1600000 in
theorem right_i (t : K) : ∀ (v : Value) (w : World) (lo hi : Nat), hi ≤ w.heap.size → countK t ≤ 1000000 → nmOK t → RepP w lo hi t v → ∀ r, (r = true ↔ rightK t) → Calls Tryd.prog 34 #[v] w (BoolPost r w) := by
  refine K.ind2 (P := fun t => ∀ (v : Value) (w : World) (lo hi : Nat), hi ≤ w.heap.size → countK t ≤ 1000000 → nmOK t → RepP w lo hi t v → ∀ r, (r = true ↔ rightK t) → Calls Tryd.prog 34 #[v] w (BoolPost r w)) ?_ t
  intro t ih v w lo hi hh hc hnm h r hr
  have ih := hd ih
  obtain ⟨b, a, c, vs, rfl, hb, c0, c1, c2, c3, c4, c5, hS, hl, hg⟩ := h.open
  have hcc : countL t.parts ≤ 1000000 := by have := countK_eq t; omega
  have hpl : t.parts.length ≤ 1000000 := by have := len_count t.parts; omega
  obtain ⟨r1, h1⟩ := boolOf (partsOK t.of t.most t.parts)
  have cp := hd (fun w' (hb : Below w.heap.size w w') => partsOK_i t _ w' lo hi (h.below hh hb) (Nat.le_trans hh hb.size) hnm hpl r1 h1)
  rw [right_iff] at hr
  obtain ⟨r2, h2⟩ : ∃ z, t.parts.any (badK t.of) = z := ⟨_, rfl⟩
  have hz := hd (show r = (r1 && !r2) by
    rw [Bool.eq_iff_iff, hr, ← h1, h2]; cases r1 <;> cases r2 <;> simp)
  have ca := hd (fun w2 (hb2 : Below w.heap.size w w2) (q : w2.cell? ⟨w.heap.size, 0, none⟩ = some (.pointer (some ⟨b, 0, none⟩))) =>
    cf_rt (.pointer (some ⟨w.heap.size, 0, none⟩)) (fun x => badK t.of x.k) (kvs t.parts vs) (.slice a t.parts.length c) w2 (by rw [kvs_len hl]; omega)
      (by rw [kvs_map hl]; exact (hS.same (Same.below hb2 hh) (Nat.le_refl _) (Nat.le_refl _)).sl (Nat.le_trans hh hb2.size))
      (fun x hx w3 hb3 => by
        obtain ⟨j, j1, j2, rfl⟩ := kvs_mem hl hx
        have hb4 := hb2.next hb3
        have hm : t.parts[j] ∈ t.parts := List.getElem_mem j1
        have hp := (hg j j1 j2).below hh hb4
        exact right_cl t.of t.parts[j] vs[j] w.heap.size b w3 lo hi (keepCell hb3 q) (keepCell hb4 c0) hp (hnm.part hm).self
          (fun r hr => ih.out _ hm _ w3 lo hi (Nat.le_trans hh hb4.size) (Nat.le_trans (count_part hm) hcc) (hnm.part hm) hp r hr))
      r2 (by rw [kvs_any _ hl]; exact h2))
  have c5h := hd c5
  clear h h1 h2 hr hg hS c0 c1 c2 c3 c4 c5 hnm
  cases r1 with
  | false =>
    go_enter Tryd.func34, Tryd.ntmps34
    go_wp2_with fail
    refine (cp.out _ (below_a1 _)).mono ?_
    rintro e w2 ⟨rfl, hb2⟩
    have hB := hd ((below_a1 w).next hb2)
    clear hb2
    go_wp2_with fail
    go_ret
    exact ⟨by rw [hz.out]; rfl, hB.out⟩
  | true =>
    go_enter Tryd.func34, Tryd.ntmps34
    go_wp2_with fail
    refine (cp.out _ (below_a1 _)).mono ?_
    rintro e w2 ⟨rfl, hb2⟩
    have q := keepCell hb2 (show World.cell? _ ⟨w.heap.size, 0, none⟩ = some (.pointer (some ⟨b, 0, none⟩)) by go_simp)
    have hB := hd ((below_a1 w).next hb2)
    have c5' := keepCell hB.out c5h.out
    have ca2 := hd (ca.out w2 hB.out q)
    clear hb2
    go_wp2_with fail
    refine ca2.out.mono ?_
    rintro e w3 ⟨rfl, hb3⟩
    have hB3 := hd (hB.out.next hb3)
    clear hb3
    go_wp2_with fail
    go_ret
    exact ⟨by rw [hz.out]; rfl, hB3.out⟩
end Go.Proofs.YtcepnifcfkgaeaaDoor

/- Reading a tree of types: holds, names, parts, depth, count of the program (with KindB, KindC). -/
import Derived.Test.YtbjilpemckoioaaDoorTrees
import Derived.Test.YtbjilpemckoioaaDoorBases
import Derived.BigQuiet
import Derived.IntWalk
/- Reading a tree of types: holds, names, parts, depth, count of the program. -/
namespace Go.Proofs.YtbjilpemckoioaaDoor
open Go.RowKit
set_option linter.unusedVariables false
set_option maxRecDepth 100000
def letters (s : ByteArray) (n : Nat) : Prop := ∀ i (h : i < s.size), i < n → 97 ≤ s[i].toNat ∧ s[i].toNat ≤ 122
theorem name_iff {s : ByteArray} : nameP s ↔ letters s s.size ∧ 1 ≤ s.size ∧ s.size ≤ 10 := by
  rw [nameP]
  constructor
  · rintro ⟨h, h2⟩
    exact ⟨fun i hi _ => h _ (by have : i < s.data.toList.length := hi; exact List.getElem_mem this), h2⟩
  · rintro ⟨h, h2⟩
    refine ⟨fun c hc => ?_, h2⟩
    obtain ⟨i, hi, rfl⟩ := List.getElem_of_mem hc
    exact h i hi hi
theorem letters_at {s : ByteArray} {k : Nat} (h : k < s.size) : s[k].toNat < 256 := s[k].toNat_lt
set_option maxHeartbeats 800000 in
theorem name_i (s : ByteArray) (w : World) (hs : s.size ≤ 1000000000000) (b : Bool) (hb : b = true ↔ nameP s) : Calls Tryd.prog 44 #[.string s] w (fun e w' => e = .returned (.bool b) ∧ w = w') := by
  have hB := hd hb
  clear hb
  have hlen := hd (fun (h : letters s s.size) (w : World) => within_i (s.size : Int) 1 10 w b (by rw [Bool.eq_iff_iff, hB.out, name_iff]; simp only [decide_eq_true_eq]; constructor <;> (intro g; first | exact ⟨h, by omega, by omega⟩ | exact ⟨by omega, by omega⟩)))
  go_enter Tryd.func44, Tryd.ntmps44
  go_wp2_with fail
  go_loop [6] (fun i => ∃ k : Nat, k ≤ s.size ∧ i = .int .i64 k ∧ Hd (letters s k)) (fun i => s.size - (intOf i).toNat)
  case atStart => exact ⟨0, Nat.zero_le _, rfl, fun i h hi => by omega⟩
  case round =>
    obtain ⟨k, hk, rfl, hl⟩ := hrel
    by_cases hlt : k < s.size
    · have hg : (k : Int) < (s.size : Int) := by omega
      have hc := hd (letters_at (s := s) hlt)
      by_cases h1 : s[k].toNat < 97
      · have hf := hd (show b = false by rw [← Bool.not_eq_true, hB.out, name_iff]; rintro ⟨h, _⟩; have := h k hlt hlt; omega)
        go_wp2_with fail
        go_ret
        exact ⟨by rw [hf.out]; rfl, rfl⟩
      · by_cases h2 : 122 < s[k].toNat
        · have hf := hd (show b = false by rw [← Bool.not_eq_true, hB.out, name_iff]; rintro ⟨h, _⟩; have := h k hlt hlt; omega)
          go_wp2_with fail
          go_ret
          exact ⟨by rw [hf.out]; rfl, rfl⟩
        · have hn := hd (show letters s (k + 1) from fun i h hi => by
            by_cases e : i = k
            · subst e; omega
            · exact hl.out i h (by omega))
          go_wp2_with fail
          go_round
          case rel => exact ⟨k + 1, by omega, by go_num, hn⟩
          case measure => simp [intOf]; omega
    · obtain rfl : k = s.size := by omega
      have hg : ¬ (s.size : Int) < (s.size : Int) := by omega
      go_wp2_with fail
      refine (hlen.out hl.out _).mono ?_
      rintro e w2 ⟨rfl, rfl⟩
      go_wp2_with fail
      go_ret
      exact ⟨rfl, rfl⟩
set_option maxHeartbeats 800000 in
theorem name_s (s : ByteArray) (w : World) (hs : s.size ≤ 1000000000000) (b : Bool) (hb : b = true ↔ nameP s) : Calls Tryd.prog 51 #[.string s] w (fun e w' => e = .returned (.bool b) ∧ w = w') := by
  have hB := hd hb
  clear hb
  have hlen := hd (fun (h : letters s s.size) (w : World) => within_s (s.size : Int) 1 10 w b (by rw [Bool.eq_iff_iff, hB.out, name_iff]; simp only [decide_eq_true_eq]; constructor <;> (intro g; first | exact ⟨h, by omega, by omega⟩ | exact ⟨by omega, by omega⟩)))
  go_enter Tryd.func51, Tryd.ntmps51
  go_wp2_with fail
  go_loop [3] (fun i => ∃ k : Nat, k ≤ s.size ∧ i = .int .i64 k ∧ Hd (letters s k)) (fun i => s.size - (intOf i).toNat)
  case atStart => exact ⟨0, Nat.zero_le _, rfl, fun i h hi => by omega⟩
  case round =>
    obtain ⟨k, hk, rfl, hl⟩ := hrel
    by_cases hlt : k < s.size
    · have hg : (k : Int) < (s.size : Int) := by omega
      have hc := hd (letters_at (s := s) hlt)
      by_cases h1 : s[k].toNat < 97
      · have hf := hd (show b = false by rw [← Bool.not_eq_true, hB.out, name_iff]; rintro ⟨h, _⟩; have := h k hlt hlt; omega)
        go_wp2_with fail
        go_ret
        exact ⟨by rw [hf.out]; rfl, rfl⟩
      · by_cases h2 : 122 < s[k].toNat
        · have hf := hd (show b = false by rw [← Bool.not_eq_true, hB.out, name_iff]; rintro ⟨h, _⟩; have := h k hlt hlt; omega)
          go_wp2_with fail
          go_ret
          exact ⟨by rw [hf.out]; rfl, rfl⟩
        · have hn := hd (show letters s (k + 1) from fun i h hi => by
            by_cases e : i = k
            · subst e; omega
            · exact hl.out i h (by omega))
          go_wp2_with fail
          go_round
          case rel => exact ⟨k + 1, by omega, by go_num, hn⟩
          case measure => simp [intOf]; omega
    · obtain rfl : k = s.size := by omega
      have hg : ¬ (s.size : Int) < (s.size : Int) := by omega
      go_wp2_with fail
      refine (hlen.out hl.out _).mono ?_
      rintro e w2 ⟨rfl, rfl⟩
      go_wp2_with fail
      go_ret
      exact ⟨rfl, rfl⟩
end Go.Proofs.YtbjilpemckoioaaDoor
/- Whether a tree of types is right: partOf, partsOK, right of the program. -/
namespace Go.Proofs.YtbjilpemckoioaaDoor
open Go.RowKit
set_option linter.unusedVariables false
set_option maxRecDepth 100000
theorem boolOf (p : Prop) : ∃ b : Bool, b = true ↔ p := by
  by_cases h : p
  · exact ⟨true, by simp [h]⟩
  · exact ⟨false, by simp [h]⟩
theorem emp_iff {s : ByteArray} : s.toList.isEmpty = true ↔ s = ⟨#[]⟩ := by
  rw [List.isEmpty_iff, ByteArray.toList_eq]
  constructor
  · intro h; exact ByteArray.ext (Array.ext' (by simpa using h))
  · intro h; subst h; rfl
theorem InK.trans {a b c : K} (h : InK a b) (h2 : InK b c) : InK a c := by
  induction h2 with
  | self t => exact h
  | part o nm no mu mo ps p s hp _ ih => exact .part _ _ _ _ _ _ _ _ hp (ih h)
theorem InK.kid {t p : K} (h : p ∈ t.parts) : InK p t := by cases t; exact .part _ _ _ _ _ _ _ _ h (.self p)
/-- No name of a tree is longer than Go allows. -/
def nmOK (t : K) : Prop := ∀ s, InK s t → s.name.size ≤ 1000000000000
theorem nmOK.self {t : K} (h : nmOK t) : t.name.size ≤ 1000000000000 := h t (.self t)
theorem nmOK.part {t p : K} (h : nmOK t) (hp : p ∈ t.parts) : nmOK p := fun s hs => h s (hs.trans (.kid hp))
/-- A part goes on behind those ahead of it. -/
def goodAt (ps : List K) (j : Nat) : Prop := ∃ h : j < ps.length, (∀ i (hi : i < j), ps[i].name ≠ ps[j].name) ∧ ∀ i (hi : i + 1 = j), ps[i].no < ps[j].no
theorem rising_iff {ps : List K} : risingK ps ↔ ∀ j, j < ps.length → goodAt ps j := ⟨fun h j hj => ⟨hj, h j hj⟩, fun h j hj => (h j hj).2⟩
def namesTo (ps : List K) (k : Nat) : List (List UInt8) := (ps.take k).map (fun p => p.name.data.toList)
theorem namesTo_succ {ps : List K} {k : Nat} (h : k < ps.length) : namesTo ps k ++ [ps[k].name.data.toList] = namesTo ps (k + 1) := by
  rw [namesTo, namesTo, List.take_succ_eq_append_getElem h, List.map_append]; rfl
theorem mem_names {ps : List K} {k : Nat} {s : ByteArray} (hk : k ≤ ps.length) : s.data.toList ∈ namesTo ps k ↔ ∃ i, ∃ h : i < ps.length, i < k ∧ ps[i].name = s := by
  rw [namesTo, List.mem_map]
  constructor
  · rintro ⟨p, hp, e⟩
    obtain ⟨i, hi, rfl⟩ := List.getElem_of_mem hp
    rw [List.length_take] at hi
    refine ⟨i, by omega, by omega, ?_⟩
    rw [List.getElem_take] at e
    exact ByteArray.ext (Array.ext' e)
  · rintro ⟨i, hi, hik, e⟩
    refine ⟨ps[i], ?_, by rw [e]⟩
    rw [List.mem_take_iff_getElem]
    exact ⟨i, by omega, rfl⟩
theorem goodAt_iff {ps : List K} {k : Nat} (h : k < ps.length) : goodAt ps k ↔ ps[k].name.data.toList ∉ namesTo ps k ∧ ∀ i (hi : i + 1 = k), ps[i].no < ps[k].no := by
  rw [mem_names (by omega)]
  constructor
  · rintro ⟨_, h1, h2⟩
    exact ⟨fun ⟨i, hi, hik, e⟩ => h1 i hik e, h2⟩
  · rintro ⟨h1, h2⟩
    exact ⟨h, fun i hi e => h1 ⟨i, by omega, hi, e⟩, h2⟩
theorem zeroB (w : World) : (zeroValue 4).run Tryd.prog w = .ok (.bool false) w := by kernel_rfl
end Go.Proofs.YtbjilpemckoioaaDoor
/- Whether a tree of types is right: right of the program. -/
namespace Go.Proofs.YtbjilpemckoioaaDoor
open Go.RowKit
set_option linter.unusedVariables false
set_option maxRecDepth 100000
/-- A tree, and the pointer to it. -/
structure KV where
  k : K
  v : Value
def KV.enc (x : KV) : List Value := [x.v]
def kvs (ps : List K) (vs : List Value) : List KV := List.zipWith KV.mk ps vs
theorem kvs_len {ps : List K} {vs : List Value} (h : vs.length = ps.length) : (kvs ps vs).length = ps.length := by simp [kvs, h]
theorem kvs_map : ∀ {ps : List K} {vs : List Value}, vs.length = ps.length → (kvs ps vs).map KV.enc = vs.map encV := by
  intro ps
  induction ps with
  | nil => intro vs h; have : vs = [] := List.eq_nil_of_length_eq_zero (by simpa using h); subst this; rfl
  | cons p ps ih =>
    intro vs h
    cases vs with
    | nil => simp at h
    | cons v vs =>
      have := ih (vs := vs) (by simpa using h)
      simp only [kvs, List.zipWith_cons_cons, List.map_cons] at this ⊢
      rw [this]; rfl
theorem kvs_k : ∀ {ps : List K} {vs : List Value}, vs.length = ps.length → (kvs ps vs).map KV.k = ps := by
  intro ps
  induction ps with
  | nil => intro vs h; have : vs = [] := List.eq_nil_of_length_eq_zero (by simpa using h); subst this; rfl
  | cons p ps ih =>
    intro vs h
    cases vs with
    | nil => simp at h
    | cons v vs =>
      have := ih (vs := vs) (by simpa using h)
      simp only [kvs, List.zipWith_cons_cons, List.map_cons] at this ⊢
      rw [this]
theorem kvs_mem {ps : List K} {vs : List Value} (h : vs.length = ps.length) {x : KV} (hx : x ∈ kvs ps vs) : ∃ j, ∃ h1 : j < ps.length, ∃ h2 : j < vs.length, x = ⟨ps[j], vs[j]⟩ := by
  obtain ⟨j, hj, rfl⟩ := List.getElem_of_mem hx
  rw [kvs_len h] at hj
  exact ⟨j, hj, by omega, by simp [kvs]⟩
theorem kvs_any (f : K → Bool) {ps : List K} {vs : List Value} (h : vs.length = ps.length) : (kvs ps vs).any (fun x => f x.k) = ps.any f := by
  conv => rhs; rw [← kvs_k h]
  rw [List.any_map]; rfl
theorem Cells.rowKV {w : World} {b o : Nat} (l : List KV) (k : Nat) (h : k < l.length) (C : Cells w b o 1 (l.map KV.enc)) : w.cell? ⟨b, o + k, none⟩ = some l[k].v := by
  have := C.2 k (KV.enc l[k]) (by simp [h]) 0 _ rfl
  rw [Nat.mul_one, Nat.add_zero] at this; exact this
noncomputable def badK (o : Int) (p : K) : Bool := @decide (¬ (partOf o p ∧ rightK p)) (Classical.propDecidable _)
theorem badK_iff {o : Int} {p : K} : badK o p = true ↔ ¬ (partOf o p ∧ rightK p) := by simp [badK]
theorem right_iff {t : K} : rightK t ↔ partsOK t.of t.most t.parts ∧ t.parts.any (badK t.of) = false := by
  rw [List.any_eq_false]
  constructor
  · intro h
    obtain ⟨h1, h2, h3⟩ := h.ok
    exact ⟨h1, fun p hp => by rw [badK_iff]; exact fun g => g ⟨h2 p hp, h3 p hp⟩⟩
  · rintro ⟨h1, h2⟩
    obtain ⟨o, nm, no, mu, mo, ps⟩ := t
    have h3 : ∀ p ∈ ps, partOf o p ∧ rightK p := fun p hp => by
      have := h2 p hp; rw [badK_iff] at this; exact Classical.byContradiction this
    exact .mk _ _ _ _ _ _ h1 (fun p hp => (h3 p hp).1) (fun p hp => (h3 p hp).2)
end Go.Proofs.YtbjilpemckoioaaDoor

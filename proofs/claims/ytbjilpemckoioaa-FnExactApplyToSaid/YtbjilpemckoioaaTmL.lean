/- The law's helpers on slices of terms: sz, to, eq, mark. -/
import Derived.Test.YtbjilpemckoioaaApV
import Derived.Test.YtbjilpemckoioaaMCell
import Derived.Test.YtbjilpemckoioaaHCell
import Derived.Deep.RegionHeld3
import Derived.Test.YtbjilpemckoioaaQuietB
namespace Go.Proofs.Ytbjilpemckoioaa
open Go.RowKit Go.ChangeShapes Go.WideShapes
set_option linter.unusedVariables false
set_option maxRecDepth 100000
def SzCell2Post (l : List DCell) (left : Int) (w : World) (e : Ending) (w' : World) : Prop :=
  ∃ r : Int, e = .returned (.int .i64 r) ∧ -1 ≤ r ∧ r ≤ left ∧ (0 ≤ r → (l.length : Int) + r ≤ left ∧ SmallCell left l.length l) ∧ Below w.heap.size w w'
set_option maxHeartbeats 800000 in
theorem szCellS2 (l : List DCell) (v1 : Value) (left : Int) (w : World) (hl0 : 0 ≤ left) (hl1 : left ≤ 1048576) (hl : l.length ≤ maxLen) (hok : ∀ x ∈ l, DCell.ok x) (h1 : Sl w v1 3 (l.map DCell.enc)) :
    Calls Try.prog 51 #[v1, .int .i64 left] w (SzCell2Post l left w) := by
  replace hok := hd hok
  unfold maxLen at hl
  by_cases hc : (l.length : Int) ≤ left
  · rcases h1.open with ⟨a1, c1, rfl, hr⟩ | ⟨b1, o1, c1, rfl, hr, C1⟩
    · obtain rfl : l = [] := by simpa using hr
      go_enter Try.func51, Try.ntmps51
      go_wp2
      go_loopw [1, 5] (fun r i wr => r = .int .i64 left ∧ i = .int .i64 0 ∧ wr = w) (fun _ _ _ => 0)
      case atStart => exact ⟨rfl, rfl, rfl⟩
      case round =>
        obtain ⟨rfl, rfl, rfl⟩ := hrel
        go_wp2_with fail
        go_ret
        exact ⟨left, rfl, by omega, by omega, fun _ => ⟨by simp, fun i h => absurd h (by simp)⟩, Below.refl _ _⟩
    · clear h1
      simp only [List.length_map]
      go_enter Try.func51, Try.ntmps51
      go_wp2
      go_loopw [1, 5] (fun r i wr => ∃ (k : Nat) (q : Int), k ≤ l.length ∧ i = .int .i64 k ∧ r = .int .i64 q ∧ 0 ≤ q ∧ q ≤ left - l.length ∧ Hd (SmallCell left k l) ∧ Hd (Below w.heap.size w wr)) (fun _ i _ => l.length - (intOf i).toNat)
      case atStart => exact ⟨0, left - l.length, Nat.zero_le _, rfl, rfl, by omega, by omega, fun i h h0 => absurd h0 (by omega), Below.refl _ _⟩
      case round =>
        obtain ⟨k, q, hk, rfl, rfl, hq0, hq1, hsm, hbl⟩ := hrel
        by_cases hlt : k < l.length
        · obtain ⟨f0, f1, f2⟩ := Cells.rowCell l k hlt (C1.mono hbl.out)
          have hsz := hok.out l[k] (List.getElem_mem hlt)
          go_wp2_with fail
          refine (szCell _ _ _ q _ hq0 (by omega) hsz).mono ?_
          rintro e w2 ⟨r, rfl, hr0, hr1, hr2, hb⟩
          have hb2 := hd (hbl.out.next hb)
          clear hb hsz
          by_cases hneg : r < 0
          · go_wp2_with fail
            go_ret
            exact ⟨_, rfl, by omega, by omega, fun h => absurd h (by omega), hb2.out⟩
          · have hr3 := hr2 (by omega)
            go_wp2_with fail
            go_roundw
            case rel =>
              refine ⟨k + 1, r, by omega, by go_num, rfl, by omega, by omega, ?_, hb2⟩
              intro i h hi
              by_cases hik : i = k
              · subst hik; omega
              · exact hsm.out i h (by omega)
            case measure => simp [intOf]; omega
        · have : k = l.length := by omega
          subst this
          go_wp2_with fail
          go_ret
          exact ⟨_, rfl, by omega, by omega, fun _ => ⟨by omega, hsm.out⟩, hbl.out⟩
  · obtain ⟨a1, c1, rfl, _⟩ := h1
    simp only [List.length_map]
    go_enter Try.func51, Try.ntmps51
    go_wp2_with fail
    go_ret
    exact ⟨_, rfl, by omega, by omega, fun h => absurd h (by omega), Below.refl _ _⟩
theorem szTerm2 (l : List DCell) (v1 : Value) (left : Int) (w : World) (hl0 : 0 ≤ left) (hl1 : left ≤ 1048576) (hl : l.length ≤ maxLen) (hok : ∀ x ∈ l, DCell.ok x) (h1 : Sl w v1 3 (l.map DCell.enc)) :
    Calls Try.prog 10 #[.agg #[v1], .int .i64 left] w (SzCell2Post l left w) := by
  have hk := hd h1
  replace hok := hd hok
  obtain ⟨a1, c1, rfl, _⟩ := h1
  simp only [List.length_map] at hk ⊢
  go_enter Try.func10, Try.ntmps10
  go_wp2_with fail
  refine (szCellS2 l _ left _ hl0 hl1 hl hok.out (hk.out.mono (below_a1 _))).mono ?_
  rintro e w2 ⟨r, rfl, h2, h3, h4, hb⟩
  have hb := hd hb.allocL
  replace h4 := hd h4
  by_cases hn : r < 0
  · go_wp2_with fail
    go_ret
    exact ⟨_, rfl, by omega, by omega, fun h => absurd h (by omega), hb.out⟩
  · go_wp2_with fail
    go_ret
    exact ⟨_, rfl, by omega, by omega, h4.out, hb.out⟩

/-- A slice of terms that came in. -/
def SlQ (w : World) (v : Value) (ls : List (List DCell)) : Prop :=
  ∃ us : List Value, us.length = ls.length ∧ Sl w v 1 (us.map encV) ∧ ∀ j (h : j < ls.length) (h' : j < us.length), Sl w us[j] 3 (ls[j].map DCell.enc)
theorem SlQ.mono {w w' : World} {v : Value} {ls : List (List DCell)} (h : SlQ w v ls) (hb : Below w.heap.size w w') : SlQ w' v ls := by
  obtain ⟨us, h1, h2, h3⟩ := h
  exact ⟨us, h1, h2.mono hb, fun j hj hj' => (h3 j hj hj').mono hb⟩
theorem SlT.q {w : World} {v : Value} {ls : List (List DCell)} (h : SlT w v ls) : SlQ w v ls := by
  obtain ⟨us, h1, h2, h3⟩ := h
  exact ⟨us, h1, h2, fun j hj hj' => by obtain ⟨a, c, e, hc, hs⟩ := h3 j hj hj'; exact hs⟩
/-- What a slice of terms opens to. -/
theorem SlQ.open {w : World} {v : Value} {ls : List (List DCell)} (h : SlQ w v ls) : ∃ (us : List Value) (aL : Option Addr) (cL : Nat), us.length = ls.length ∧ v = .slice aL ls.length cL ∧ (∀ k (h : k < us.length), ∃ b1 o1, aL = some ⟨b1, o1, none⟩ ∧ w.cell? ⟨b1, o1 + k, none⟩ = some us[k]) ∧ ∀ j (h : j < ls.length) (h' : j < us.length), Sl w us[j] 3 (ls[j].map DCell.enc) := by
  obtain ⟨us, hul, hus, huj⟩ := h
  have husO := hus.open
  obtain ⟨aL, cL, rfl, -⟩ := hus
  simp only [List.length_map, hul] at husO ⊢
  refine ⟨us, aL, cL, hul, rfl, fun k hk => ?_, huj⟩
  rcases husO with ⟨a1, c1, e, hr⟩ | ⟨b1, o1, c1, e, hr, C1⟩
  · exfalso; rw [List.map_eq_nil_iff] at hr; rw [hr] at hk; simp at hk
  · cases e
    refine ⟨b1, o1, rfl, ?_⟩
    have := C1.2 k (encV us[k]) (by simp [hk]) 0 _ rfl
    rwa [Nat.mul_one, Nat.add_zero] at this
def sumL (ls : List (List DCell)) : Nat := (ls.map List.length).sum
theorem sumL_take {ls : List (List DCell)} {k : Nat} (h : k < ls.length) : sumL (ls.take (k + 1)) = sumL (ls.take k) + ls[k].length := by
  rw [List.take_succ_eq_append_getElem h, sumL, sumL, List.map_append, List.sum_append]; simp
def SzTsPost (ls : List (List DCell)) (left : Int) (w : World) (e : Ending) (w' : World) : Prop :=
  ∃ r : Int, e = .returned (.int .i64 r) ∧ -1 ≤ r ∧ r ≤ left ∧ (0 ≤ r → (ls.length : Int) ≤ left ∧ (sumL ls : Int) ≤ left ∧ ∀ j (h : j < ls.length), (ls[j].length : Int) ≤ left ∧ SmallCell left ls[j].length ls[j]) ∧ Below w.heap.size w w'
set_option maxHeartbeats 1600000 in
theorem szTermS (ls : List (List DCell)) (v1 : Value) (left : Int) (w : World) (hl0 : 0 ≤ left) (hl1 : left ≤ 1048576) (hl : ls.length ≤ maxLen) (hok : ∀ x ∈ ls, x.length ≤ maxLen ∧ ∀ y ∈ x, DCell.ok y) (h1 : SlQ w v1 ls) :
    Calls Try.prog 17 #[v1, .int .i64 left] w (SzTsPost ls left w) := by
  replace hok := hd hok
  unfold maxLen at hl
  obtain ⟨us, aL, cL, hul, rfl, huC, huj⟩ := h1.open
  replace huC := hd huC
  replace huj := hd huj
  clear h1
  by_cases hc : (ls.length : Int) ≤ left
  · go_enter Try.func17, Try.ntmps17
    go_wp2_with fail
    go_loopw [1, 5] (fun r i wr => ∃ (k : Nat) (q : Int), k ≤ ls.length ∧ i = .int .i64 k ∧ r = .int .i64 q ∧ 0 ≤ q ∧ q + sumL (ls.take k) ≤ left - ls.length ∧ Hd (∀ j (h : j < ls.length), j < k → (ls[j].length : Int) ≤ left ∧ SmallCell left ls[j].length ls[j]) ∧ Hd (Below w.heap.size w wr)) (fun _ i _ => ls.length - (intOf i).toNat)
    case atStart => exact ⟨0, left - ls.length, Nat.zero_le _, rfl, rfl, by omega, by simp [sumL], fun i h h0 => absurd h0 (by omega), Below.refl _ _⟩
    case round =>
      obtain ⟨k, q, hk, rfl, rfl, hq0, hq1, hsm, hbl⟩ := hrel
      obtain ⟨wo, rfl⟩ : ∃ wo : World, wo = wr := ⟨_, rfl⟩
      by_cases hlt : k < ls.length
      · have hltI : (k : Int) < (ls.length : Int) := by omega
        obtain ⟨b1, o1, rfl, q0⟩ := huC.out k (by omega)
        have q1 := keepCell hbl.out q0
        have hx := hok.out ls[k] (List.getElem_mem hlt)
        have hS := (huj.out k hlt (by omega)).mono hbl.out
        have hst := hd (sumL_take hlt)
        have cz := hd (fun w' (hw : Below wo.heap.size wo w') => szTerm2 ls[k] us[k] q w' hq0 (by omega) hx.1 hx.2 (hS.mono hw))
        have hlen := hd (fun j (h : j < ls.length) => (rfl : ls[j].length = ls[j].length))
        obtain ⟨ak, ck, eu, -⟩ := hS
        rw [List.length_map] at eu
        rw [eu] at q1 cz
        clear q0 hx
        go_wp2_with fail
        refine (cz.out _ (Below.refl _ _)).mono ?_
        rintro e w2 ⟨r, rfl, hr0, hr1, hr2, hb⟩
        have hb2 := hd (hbl.out.next hb)
        clear hb
        by_cases hneg : r < 0
        · go_wp2_with fail
          go_ret
          exact ⟨_, rfl, by omega, by omega, fun h => absurd h (by omega), hb2.out⟩
        · obtain ⟨hr3, hr4⟩ := hr2 (by omega)
          have hst' := hst.out
          have hnew := hd (show ∀ j (h : j < ls.length), j < k + 1 → (ls[j].length : Int) ≤ left ∧ SmallCell left ls[j].length ls[j] from fun j h hj => by
            by_cases hjk : j = k
            · subst hjk; exact ⟨by omega, fun i h1 h2 => by have := hr4 i h1 h2; omega⟩
            · exact hsm.out j h (by omega))
          have hqn : r + sumL (ls.take (k + 1)) ≤ left - ls.length := by omega
          clear hr2 hr4 hst'
          go_wp2_with fail
          go_roundw
          case rel => exact ⟨k + 1, r, by omega, by go_num, rfl, by omega, hqn, hnew, hb2⟩
          case measure => simp [intOf]; omega
      · obtain rfl : k = ls.length := by omega
        have hltI : ¬ (ls.length : Int) < (ls.length : Int) := by omega
        have htl : ls.take ls.length = ls := List.take_length
        rw [htl] at hq1
        go_wp2_with fail
        go_ret
        exact ⟨_, rfl, by omega, by omega, fun _ => ⟨by omega, by omega, fun j h => hsm.out j h h⟩, hbl.out⟩
  · go_enter Try.func17, Try.ntmps17
    go_wp2_with fail
    go_ret
    exact ⟨_, rfl, by omega, by omega, fun h => absurd h (by omega), Below.refl _ _⟩
theorem infoTermv : (Try.prog.info? 29).map (fun i => (i.zero, i.size, i.bytes)) = some (some (.agg #[.slice none 0 0]), 1, 24) := by kernel_rfl
/-- A slice of terms of the call's own, each in a block of its own. -/
def TsO (w : World) (B : Nat) (v : Value) (ls : List (List DCell)) (us : List Value) : Prop :=
  us.length = ls.length ∧ Own w B 29 1 v (us.map encV) ∧ (∀ j (h : j < ls.length) (h' : j < us.length), Own w B 163 3 us[j] (ls[j].map DCell.enc)) ∧
  (∀ i j (h : i < us.length) (h' : j < us.length), i < j → us[i].ownBlock = none ∨ us[j].ownBlock ≠ us[i].ownBlock) ∧ (∀ j (h : j < us.length), us[j].ownBlock = none ∨ v.ownBlock ≠ us[j].ownBlock)
theorem TsO.below {w w' : World} {B : Nat} {v : Value} {ls : List (List DCell)} {us : List Value} (h : TsO w B v ls us) (hb : Below w.heap.size w w') : TsO w' B v ls us :=
  ⟨h.1, h.2.1.below hb, fun j hj hj' => (h.2.2.1 j hj hj').below hb, h.2.2.2.1, h.2.2.2.2⟩
theorem TsO.slt {w : World} {B : Nat} {v : Value} {ls : List (List DCell)} {us : List Value} (h : TsO w B v ls us) : SlT w v ls := by
  refine ⟨us, h.1, h.2.1.sl, fun j hj hj' => ?_⟩
  have ho := h.2.2.1 j hj hj'
  obtain ⟨a, c, e, -⟩ := ho.sl
  rw [List.length_map] at e
  rw [e] at ho
  exact ⟨a, c, e, Own.cap ho, by rw [e]; exact ho.sl⟩
def ToTsPost (ls : List (List DCell)) (w : World) (e : Ending) (w' : World) : Prop := ∃ v us, e = .returned v ∧ TsO w' w.heap.size v ls us ∧ Below w.heap.size w w'
set_option maxHeartbeats 6400000 in
theorem toTermS (ls : List (List DCell)) (v1 : Value) (w : World) (hl : ls.length ≤ 1000000000) (hll : ∀ x ∈ ls, x.length ≤ 1000000000) (h1 : SlQ w v1 ls) :
    Calls Try.prog 19 #[v1] w (ToTsPost ls w) := by
  obtain ⟨us, aL, cL, hul, rfl, huC, huj⟩ := h1.open
  replace huC := hd huC
  replace huj := hd huj
  replace hll := hd hll
  clear h1
  obtain ⟨i0, hi, hz0, hz1, hz2⟩ := info_parts infoTermv
  have Hi := hd hi; have Hz0 := hd hz0; have Hz1 := hd hz1; have Hz2 := hd hz2
  have hby : i0.bytes * ls.length ≤ 281474976710656 := by rw [hz2]; omega
  clear hi hz0 hz1 hz2
  go_enter Try.func19, Try.ntmps19
  go_wp2_with (at_make; refine wpList_make_full _ rfl (.tmp 6) (.tmp 6) 40 rfl w.heap.size 29 i0 _ 1 Try.underlying40 Hi.out Hz0.out Hz1.out .i64 .i64 _ _ ls.length rfl rfl rfl rfl hby (by unfold maxLen; omega) (Nat.le_refl _) ?_; intro w1 ho hg; have ho := hd ho; have hg := hd hg)
  go_loopw [4] (fun i wr => ∃ (k : Nat) (xs : List Value) (vs : List Value), k ≤ ls.length ∧ i = .int .i64 k ∧ vs.length = k ∧ Hd (wr.ownsRow w.heap.size 29 1 (.slice (some ⟨w.heap.size, 0, none⟩) ls.length ls.length) ls.length xs) ∧ Hd (Pre 1 k (vs.map encV) xs) ∧ Hd (∀ j (h : j < ls.length) (h' : j < vs.length), Own wr (w.heap.size + 1) 163 3 vs[j] (ls[j].map DCell.enc)) ∧ Hd (∀ i j (h : i < vs.length) (h' : j < vs.length), i < j → vs[i].ownBlock = none ∨ vs[j].ownBlock ≠ vs[i].ownBlock) ∧ Hd (w.heap.size + 1 ≤ wr.heap.size) ∧ Hd (Below w.heap.size w wr)) (fun i _ => ls.length - (intOf i).toNat)
  case atStart => exact ⟨0, _, [], Nat.zero_le _, rfl, rfl, ho.out, Pre.zero, fun j h h' => absurd h' (by simp), fun i j h => absurd h (by simp), (by
    rcases ho.out.2 with ⟨e, _⟩ | ⟨g, cap, cur, e, _, hg2, _⟩
    · cases e
    · cases e; exact (Array.getElem?_eq_some_iff.1 hg2).1), grownBy_below hg.out⟩
  case round =>
    obtain ⟨k, xs, vs, hk, rfl, hvl, ho2, hp, hin, hap, hz, hbl⟩ := hrel
    obtain ⟨wo, rfl⟩ : ∃ wo : World, wo = wr := ⟨_, rfl⟩
    by_cases hlt : k < ls.length
    · have hltI : (k : Int) < (ls.length : Int) := by omega
      obtain ⟨b1, o1, rfl, q0⟩ := huC.out k (by omega)
      have q1 := keepCell hbl.out q0
      have hS := (huj.out k hlt (by omega)).mono hbl.out
      have ct := hd (toTerm ls[k] us[k] wo (hll.out _ (List.getElem_mem hlt)) hS)
      obtain ⟨ak, ck, eu, -⟩ := hS
      rw [List.length_map] at eu
      rw [eu] at q1 ct
      clear q0 eu
      go_wp2_with fail
      refine ct.out.mono ?_
      rintro e w6 ⟨z, rfl, hoz, hb6⟩
      have hxl : k < xs.length := by have : xs.length = ls.length * 1 := ho2.out.1; omega
      have ho6 := hd (ownsRow_below ho2.out hb6)
      have hbl6 := hd (hbl.out.next hb6)
      have hin6 := hd (fun j (h : j < ls.length) (h' : j < vs.length) => (hin.out j h h').below hb6)
      have q2 : w6.cell? ⟨w.heap.size, k, none⟩ = some xs[k] := by rw [ho6.out.cellAt _ (by omega)]; exact List.getElem?_eq_getElem hxl
      have r2 : w6.frozen? ⟨w.heap.size, k, none⟩ = false := ho6.out.frozenAt _
      have hst := ownsRow_setCells (encV z) _ _ k ho6.out
      have hst1 := hd hst.1
      have hst2 : Hd (w6.grownBy (w6.setCell ⟨w.heap.size, k, none⟩ z) (some w.heap.size)) := hd hst.2
      obtain ⟨az, cz, ez, -⟩ := hoz.sl
      rw [List.length_map] at ez
      have hzz := hz.out
      have hbk := hd (fun g (hg : z.ownBlock = some g) => (show wo.heap.size ≤ g from (hoz.lt g hg).1))
      have hvb := hd (fun j (h : j < vs.length) g (hg : vs[j].ownBlock = some g) => (show g < wo.heap.size from ((hin.out j (by omega) h).lt g hg).2))
      have hin8 := hd (show ∀ j (h : j < ls.length) (h' : j < (vs ++ [z]).length), Own (w6.setCell ⟨w.heap.size, k, none⟩ z) (w.heap.size + 1) 163 3 (vs ++ [z])[j] (ls[j].map DCell.enc) from fun j h h' => by
        rw [List.length_append, List.length_singleton] at h'
        by_cases hj : j < vs.length
        · rw [show (vs ++ [z])[j] = vs[j] from List.getElem_append_left hj]
          refine (hin6.out j h hj).kept hst2.out ?_
          cases hvo : vs[j].ownBlock with
          | none => exact .inl rfl
          | some g => exact .inr (fun e => by have := ((hin6.out j h hj).lt g hvo).1; have e2 : g = w.heap.size := Option.some.inj e; omega)
        · obtain rfl : j = vs.length := by omega
          rw [show (vs ++ [z])[vs.length] = z by simp]
          subst hvl
          refine (hoz.weaken hzz).kept hst2.out ?_
          cases hvo : z.ownBlock with
          | none => exact .inl rfl
          | some g => exact .inr (fun e => by have := hbk.out g hvo; have e2 : g = w.heap.size := Option.some.inj e; omega))
      have hap8 := hd (show ∀ i j (h : i < (vs ++ [z]).length) (h' : j < (vs ++ [z]).length), i < j → (vs ++ [z])[i].ownBlock = none ∨ (vs ++ [z])[j].ownBlock ≠ (vs ++ [z])[i].ownBlock from fun i j h h' hij => by
        rw [List.length_append, List.length_singleton] at h h'
        have hi : i < vs.length := by omega
        rw [show (vs ++ [z])[i] = vs[i] from List.getElem_append_left hi]
        by_cases hj : j < vs.length
        · rw [show (vs ++ [z])[j] = vs[j] from List.getElem_append_left hj]
          exact hap.out i j hi hj hij
        · obtain rfl : j = vs.length := by omega
          rw [show (vs ++ [z])[vs.length] = z by simp]
          cases hvo : vs[i].ownBlock with
          | none => exact .inl rfl
          | some g => exact .inr (fun e => by have h1 := hvb.out i hi g hvo; have h2 := hbk.out g e; omega))
      have hpp := hd (show Pre 1 (k + 1) ((vs ++ [z]).map encV) (setL xs k (encV z)) from by
        have hp2 : Pre 1 k ((vs ++ [z]).map encV) xs := fun i r hi hr => hp.out i r hi (by rw [List.map_append] at hr; rwa [List.getElem?_append_left (by rw [List.length_map]; omega)] at hr)
        have := hp2.step (r := encV z) (fun r hr => by obtain ⟨x, _, rfl⟩ := List.mem_map.1 hr; rfl) (by rw [List.map_append, List.getElem?_append_right (by rw [List.length_map]; omega)]; simp [hvl]) (by omega)
        rwa [Nat.mul_one] at this)
      have hb8 := hd (hbl6.out.grown hst2.out hbl6.out.size (by intro j hj; cases hj; exact Nat.le_refl _))
      have hz8 := hd (Nat.le_trans hzz (Nat.le_trans hb6.size hst2.out.size))
      subst ez
      clear hst hoz hb6 hbk hvb
      go_wp2_with fail
      go_roundw
      case rel => exact ⟨k + 1, _, vs ++ [.slice az ls[k].length cz], by omega, by go_num, by simp [hvl], hst1.out, hpp, hin8, hap8, hz8, hb8⟩
      case measure => simp [intOf]; omega
    · obtain rfl : k = ls.length := by omega
      have hltI : ¬ (ls.length : Int) < (ls.length : Int) := by omega
      have hfin := hd (show TsO wo w.heap.size (.slice (some ⟨w.heap.size, 0, none⟩) ls.length ls.length) ls vs from
        ⟨hvl, ⟨fun r hr => by obtain ⟨x, _, rfl⟩ := List.mem_map.1 hr; rfl, xs, by rw [List.length_map, hvl]; exact ho2.out, by rw [List.length_map, hvl]; exact hp.out⟩, fun j h h' => (hin.out j h h').weaken (by omega), hap.out, fun j h => by
          cases hvo : vs[j].ownBlock with
          | none => exact .inl rfl
          | some g => exact .inr (fun e => by have h1 := ((hin.out j (by omega) h).lt g hvo).1; have e2 : w.heap.size = g := Option.some.inj e; omega)⟩)
      go_wp2_with fail
      go_ret
      exact ⟨_, vs, rfl, hfin.out, hbl.out⟩
set_option maxHeartbeats 3200000 in
theorem eqTermS (ls : List (List DCell)) (v1 v2 : Value) (w : World) (hl : ls.length ≤ 1000000000) (hll : ∀ x ∈ ls, x.length ≤ 1000000000) (h1 : SlQ w v1 ls) (h2 : SlQ w v2 ls) :
    Calls Try.prog 21 #[v1, v2] w (LawTrue w) := by
  obtain ⟨us, aL, cL, hul, rfl, huC, huj⟩ := h1.open
  obtain ⟨vs, aM, cM, hvl, rfl, hvC, hvj⟩ := h2.open
  replace huC := hd huC
  replace huj := hd huj
  replace hvC := hd hvC
  replace hvj := hd hvj
  replace hll := hd hll
  clear h1 h2
  have hmx : Try.prog.follows .mixedOrders = true := by kernel_rfl
  go_enter Try.func21, Try.ntmps21
  go_wp2_with fail
  go_loopw [5] (fun i wr => ∃ k : Nat, k ≤ ls.length ∧ i = .int .i64 k ∧ Hd (Below w.heap.size w wr)) (fun i _ => ls.length - (intOf i).toNat)
  case atStart => exact ⟨0, Nat.zero_le _, rfl, Below.refl _ _⟩
  case round =>
    obtain ⟨k, hk, rfl, hbl⟩ := hrel
    obtain ⟨wo, rfl⟩ : ∃ wo : World, wo = wr := ⟨_, rfl⟩
    by_cases hlt : k < ls.length
    · have hltI : (k : Int) < (ls.length : Int) := by omega
      obtain ⟨b1, o1, rfl, q0⟩ := huC.out k (by omega)
      obtain ⟨b2, o2, rfl, p0⟩ := hvC.out k (by omega)
      have q1 := keepCell hbl.out q0
      have p1 := keepCell hbl.out p0
      have hS := (huj.out k hlt (by omega)).mono hbl.out
      have hV := (hvj.out k hlt (by omega)).mono hbl.out
      have ce := hd (fun w' (hw : Below wo.heap.size wo w') => eqTerm ls[k] us[k] vs[k] w' (hll.out _ (List.getElem_mem hlt)) (hS.mono hw) (hV.mono hw))
      generalize us[k] = u at *
      generalize vs[k] = v at *
      clear q0 p0 hS hV
      go_upto_region 6 with (fail)
      replace q1 := cellB q1
      replace p1 := cellB p1
      refine wp_region_below hmx (by kernel_rfl) ?_
      repeat (go_big_quiet_step ((go_at_call 14; refine callsB (ce.out _ (BB.h _)))))
      refine wpQuiet_nil ?_
      intro wq hw'
      obtain ⟨⟨wx, hbq⟩, hw''⟩ := hw'
      subst hw''
      have hbl6 := hd (hbl.out.next hbq)
      clear q1 p1 hbq
      go_wp2_with fail
      go_roundw
      case rel => exact ⟨k + 1, by omega, by go_num, hbl6⟩
      case measure => simp [intOf]; omega
    · obtain rfl : k = ls.length := by omega
      have hltI : ¬ (ls.length : Int) < (ls.length : Int) := by omega
      go_wp2_with fail
      go_ret
      exact ⟨rfl, hbl.out⟩
/-- Blocks from B up to C alone may have changed. -/
structure Mid (B C : Nat) (w w' : World) : Prop where
  os : w'.os = w.os
  tape : w'.tape = w.tape
  output : w'.output = w.output
  size : w.heap.size ≤ w'.heap.size
  block : ∀ k, k < w.heap.size → k < B ∨ C ≤ k → w'.heap[k]? = w.heap[k]?
theorem Mid.refl (B C : Nat) (w : World) : Mid B C w w := ⟨rfl, rfl, rfl, Nat.le_refl _, fun _ _ _ => rfl⟩
theorem Mid.step {B C : Nat} {w w1 w2 : World} {row : Option Nat} (h : Mid B C w w1) (hg : w1.grownBy w2 row) (hr : ∀ g, row = some g → B ≤ g ∧ g < C) : Mid B C w w2 :=
  ⟨hg.os.trans h.os, hg.tape.trans h.tape, hg.output.trans h.output, Nat.le_trans h.size hg.size, fun k hk hkB => (hg.block k (Nat.lt_of_lt_of_le hk h.size) (fun e => by have := hr k e.symm; omega)).trans (h.block k hk hkB)⟩
theorem Mid.cell {B C : Nat} {w w' : World} (h : Mid B C w w') {a : Addr} {v : Value} (hc : w.cell? a = some v) (ha : a.block < B ∨ C ≤ a.block) : w'.cell? a = some v :=
  (World.cell?_of_block (h.block a.block (World.block_lt_of_cell? w a hc) ha)).trans hc
theorem Mid.below {B C : Nat} {w w' : World} (h : Mid B C w w') (hB : B ≤ w.heap.size) {B2 : Nat} (h2 : B2 ≤ B) : Below B2 w w' :=
  ⟨h.os, h.tape, h.output, h.size, fun k hk => h.block k (by omega) (.inl (by omega))⟩
theorem Mid.own {B C : Nat} {w w' : World} (h : Mid B C w w') {B3 E sz : Nat} {v : Value} {rows : List (List Value)} (ho : Own w B3 E sz v rows) (hg : ∀ g, v.ownBlock = some g → g < B ∨ C ≤ g) : Own w' B3 E sz v rows := by
  obtain ⟨hl, xs, h1, hp⟩ := ho
  refine ⟨hl, xs, ⟨h1.1, h1.2.imp id ?_⟩, hp⟩
  rintro ⟨g, cap, cur, e1, e2, e3, e4⟩
  exact ⟨g, cap, cur, e1, e2, by rw [h.block g (Array.getElem?_eq_some_iff.1 e3).1 (hg g (by rw [e1]; rfl))]; exact e3, e4⟩
theorem Mid.ownR {B C : Nat} {w w' : World} (h : Mid B C w w') {B3 E sz : Nat} {v : Value} {rows : List (List Value)} {rb : Option Nat} (ho : OwnR w B3 E sz v rows rb) (hg : ∀ g, rb = some g → g < B ∨ C ≤ g) : OwnR w' B3 E sz v rows rb := by
  rcases ho with ⟨h1, h2⟩ | h2
  · exact .inl ⟨h1, h.own h2 (fun g e => hg g (h1.trans e))⟩
  · exact .inr h2
def MarkTsPost (B C : Nat) (k : Int) (n : Nat) (w : World) (e : Ending) (w' : World) : Prop := e = .returned (.int .i64 (k + 3 * n)) ∧ Mid B C w w'
theorem sumL_le {ls : List (List DCell)} : ∀ k, sumL (ls.take k) ≤ sumL ls := by
  intro k
  have h : sumL ls = sumL (ls.take k) + sumL (ls.drop k) := by
    rw [sumL, sumL, sumL, ← List.sum_append, ← List.map_append, List.take_append_drop]
  omega
set_option maxHeartbeats 6400000 in
theorem markTermS (ls : List (List DCell)) (v : Value) (us : List Value) (B C : Nat) (k0 : Int) (w : World) (hk0 : 1 ≤ k0) (hk1 : k0 ≤ 100000000000) (hs : sumL ls ≤ 100000000000) (hl : ls.length ≤ 1000000000) (hC : ∀ j (h : j < us.length) g, us[j].ownBlock = some g → g < C) (h : TsO w B v ls us) :
    Calls Try.prog 23 #[v, .int .i64 k0] w (MarkTsPost B C k0 (sumL ls) w) := by
  obtain ⟨hul, hO, hin, hap, hou⟩ := h
  obtain ⟨aL, cL, rfl, -⟩ := hO.sl
  simp only [List.length_map, hul] at hO hou ⊢
  have hlen := hd (fun k (hk : k < ls.length) => (show sumL (ls.take (k + 1)) = sumL (ls.take k) + ls[k].length ∧ sumL (ls.take (k + 1)) ≤ sumL ls from ⟨sumL_take hk, sumL_le _⟩))
  replace hO := hd hO
  replace hin := hd hin
  replace hap := hd hap
  replace hou := hd hou
  go_enter Try.func23, Try.ntmps23
  go_wp2_with fail
  go_loopw [1, 5] (fun q i wr => ∃ k : Nat, k ≤ ls.length ∧ i = .int .i64 k ∧ q = .int .i64 (k0 + 3 * (sumL (ls.take k) : Nat)) ∧ Hd (Own wr B 29 1 (.slice aL ls.length cL) (us.map encV)) ∧ Hd (∀ j (h : j < ls.length) (h' : j < us.length), k ≤ j → Own wr B 163 3 us[j] (ls[j].map DCell.enc)) ∧ Hd (Mid B C w wr)) (fun _ i _ => ls.length - (intOf i).toNat)
  case atStart => exact ⟨0, Nat.zero_le _, rfl, by simp [sumL], hO, fun j h h' _ => hin.out j h h', Mid.refl _ _ _⟩
  case round =>
    obtain ⟨k, hk, rfl, rfl, hOr, hir, hbl⟩ := hrel
    obtain ⟨wo, rfl⟩ : ∃ wo : World, wo = wr := ⟨_, rfl⟩
    by_cases hlt : k < ls.length
    · have hltI : (k : Int) < (ls.length : Int) := by omega
      have hku : k < us.length := by omega
      obtain ⟨g, cg, e1, -⟩ := hOr.out.addr (by intro e; rw [List.map_eq_nil_iff] at e; rw [e] at hku; simp at hku)
      rw [List.length_map, hul] at e1
      cases e1
      have q1 := (hOr.out.cell (i := k) (j := 0) (r := encV us[k]) (u := us[k]) (by simp [hku]) rfl).1
      rw [Nat.mul_one, Nat.add_zero] at q1
      obtain ⟨hl1, hl2⟩ := hlen.out k hlt
      have hOk := hir.out k hlt hku (Nat.le_refl _)
      have cm := hd (fun (q : Int) (hq : 1 ≤ q ∧ q ≤ 1000000000000) => markCell us[k] (ls[k].map DCell.enc) ls[k].length (by rw [List.length_map]) B q wo hq.1 hq.2 (by omega) hOk)
      have hkk : 1 ≤ k0 + 3 * (sumL (ls.take k) : Nat) ∧ k0 + 3 * (sumL (ls.take k) : Nat) ≤ 1000000000000 := by omega
      have hnx := hd (show k0 + 3 * (sumL (ls.take k) : Nat) + 3 * (ls[k].length : Nat) = k0 + 3 * (sumL (ls.take (k + 1)) : Nat) from by omega)
      have hnb := hd (show ∀ g, us[k].ownBlock = some g → B ≤ g ∧ g < C from fun g hg => ⟨(hOk.lt g hg).1, hC k hku g hg⟩)
      have hou1 := hd (hou.out k hlt)
      have hap1 := hd (fun j (h : j < us.length) (hkj : k < j) => hap.out k j hku h hkj)
      have cm1 := hd (cm.out _ hkk)
      clear hOk cm hl1 hl2
      generalize ls[k].length = nk at *
      generalize k0 + 3 * ((sumL (ls.take k) : Nat) : Int) = kq at *
      generalize us[k] = uk at *
      replace hlen := hd hlen
      replace hnx := hd hnx
      go_wp2_with fail
      refine cm1.out.mono ?_
      rintro e w6 ⟨rfl, ho6, hg6⟩
      have hO6 := hd (hOr.out.kept hg6 (hou1.out.elim (fun e => .inr (by rw [e]; intro e2; cases e2)) (fun e => .inr e)))
      have hi6 := hd (show ∀ j (h : j < ls.length) (h' : j < us.length), k + 1 ≤ j → Own w6 B 163 3 us[j] (ls[j].map DCell.enc) from fun j h h' hj => (hir.out j h h' (by omega)).kept hg6 (by
        rcases hap1.out j h' (by omega) with e | e
        · cases hvo : us[j].ownBlock with
          | none => exact .inl rfl
          | some g2 => exact .inr (by rw [e]; intro e2; cases e2)
        · exact .inr e))
      have hb6 := hd (hbl.out.step hg6 hnb.out)
      clear ho6 hg6
      go_wp2_with fail
      go_roundw
      case rel => exact ⟨k + 1, by omega, by go_num, by rw [hnx.out], hO6, hi6, hb6⟩
      case measure => simp [intOf]; omega
    · obtain rfl : k = ls.length := by omega
      have hltI : ¬ (ls.length : Int) < (ls.length : Int) := by omega
      have htl : ls.take ls.length = ls := List.take_length
      rw [htl]
      go_wp2_with fail
      go_ret
      exact ⟨rfl, hbl.out⟩
section
variable {H : Type} {enc : TypeId × Value → H} {w : World} {spare : Nat → Bool} {held : Bool}
theorem elTerm (n : Nat) (cs : List Value) (y : DataW H × List MemPlace) (h : DataW.trod enc Try.prog w 0 spare held n 24 cs = some y) : ∃ d : List DCell × Value, cs = encV d.2 ∧ (d.1.length ≤ maxLen ∧ Sl w d.2 3 (d.1.map DCell.enc) ∧ ∀ x ∈ d.1, x.ok) := by
  have kc : Try.prog.cellsOf 24 = 1 := by kernel_rfl
  have ks : Try.prog.cellsOf 22 = 1 := by kernel_rfl
  obtain ⟨xs, m, _, _, hl, hlen, hf⟩ := DataW.trod_struct Try.underlying24 h
  rw [kc] at hl
  match cs, hl with
  | [c0], _ =>
    have g0 := field_one (c := c0) ks rfl rfl (hf 0 _ rfl)
    rw [List.getElem?_eq_getElem (by rw [hlen]; decide)] at g0
    obtain ⟨l, v, hv, h3, h4, h5⟩ := open_CellS g0
    cases hv
    exact ⟨(l, c0), rfl, h3, h4, h5⟩
theorem open_TermSv {r : Reach} {b0 : Nat} {v : Value} {d : DataW H} {p : List MemPlace} (hv : Value.okWide Try.prog w r b0 36 v) (h : DataW.Trod enc Try.prog w 0 spare held 36 v d p) :
    ∃ (ls : List (List DCell)), ls.length ≤ maxLen ∧ SlQ w v ls ∧ ∀ x ∈ ls, x.length ≤ maxLen ∧ ∀ y ∈ x, y.ok := by
  obtain ⟨a, len, cap, rfl⟩ := okWide_slice Try.underlying36 hv
  obtain ⟨fuel, hf⟩ := h
  obtain ⟨l, v, hv, h3, h4, h5⟩ := open_rows (α := List DCell × Value) (fun d => encV d.2) (fun d => d.1.length ≤ maxLen ∧ Sl w d.2 3 (d.1.map DCell.enc) ∧ ∀ x ∈ d.1, x.ok) 1 (by decide) Try.underlying36 (by kernel_rfl) elTerm hf
  cases hv
  refine ⟨l.map Prod.fst, by rw [List.length_map]; exact h3, ⟨l.map Prod.snd, by simp, by rw [List.map_map]; exact h4, fun j hj hj' => ?_⟩, fun x hx => ?_⟩
  · have hjl : j < l.length := by simpa using hj
    have := (h5 l[j] (List.getElem_mem hjl)).2.1
    simpa using this
  · obtain ⟨q, hq, rfl⟩ := List.mem_map.1 hx
    exact ⟨(h5 q hq).1, (h5 q hq).2.2⟩
end
end Go.Proofs.Ytbjilpemckoioaa

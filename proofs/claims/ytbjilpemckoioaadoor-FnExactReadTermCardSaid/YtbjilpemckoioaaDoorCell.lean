/- The struct Cell as data; the laws' helpers on it (sz, to, eq), on slices of it, on Term. -/
import Derived.Test.YtbjilpemckoioaaDoorRows
import Derived.Test.YtbjilpemckoioaaDoorBases
import Derived.Outline
import Derived.Deep.RegionHeld3
namespace Go.Proofs.YtbjilpemckoioaaDoor
open Go.RowKit Go.ChangeShapes Go.WideShapes
set_option linter.unusedVariables false
set_option maxRecDepth 100000

structure DCell where
  var : Int
  name : ByteArray
  many : Int
deriving Inhabited
def DCell.enc (x : DCell) : List Value := [.int .i64 x.var, .string x.name, .int .i64 x.many]
theorem DCell.enc_len (l : List DCell) : ∀ r ∈ l.map DCell.enc, r.length = 3 := by
  intro r hr; obtain ⟨x, _, rfl⟩ := List.mem_map.1 hr; rfl
theorem DCell.row (l : List DCell) (k : Nat) (h : k < l.length) : (l.map DCell.enc)[k]? = some (l[k].enc) := by simp [h]
/-- What every value that can be read is: its strings are not longer than Go allows. -/
def DCell.ok (x : DCell) : Prop := x.name.size ≤ maxLen
set_option maxHeartbeats 400000 in
theorem eqCell (x0 : Int) (x1 : ByteArray) (x2 : Int) (w : World) : Calls Tryd.prog 36 #[.agg #[.int .i64 x0, .string x1, .int .i64 x2], .agg #[.int .i64 x0, .string x1, .int .i64 x2]] w (LawTrue w) := by
  go_enter Tryd.func36, Tryd.ntmps36
  go_wp2
  go_ret
  exact ⟨rfl, below_a2 _⟩
theorem Cells.rowCell {w : World} {b o : Nat} (l : List DCell) (k : Nat) (h : k < l.length) (C : Cells w b o 3 (l.map DCell.enc)) :
    w.cell? ⟨b, o + k * 3, none⟩ = some (.int .i64 l[k].var) ∧ w.cell? ⟨b, o + k * 3 + 1, none⟩ = some (.string l[k].name) ∧ w.cell? ⟨b, o + k * 3 + 2, none⟩ = some (.int .i64 l[k].many) :=
  ⟨C.2 k _ (DCell.row l k h) 0 _ rfl, C.2 k _ (DCell.row l k h) 1 _ rfl, C.2 k _ (DCell.row l k h) 2 _ rfl⟩
set_option maxHeartbeats 800000 in
theorem eqCellS (l : List DCell) (v1 v2 : Value) (w : World) (hl : l.length ≤ 1000000000000) (h1 : Sl w v1 3 (l.map DCell.enc)) (h2 : Sl w v2 3 (l.map DCell.enc)) :
    Calls Tryd.prog 20 #[v1, v2] w (LawTrue w) := by
  rcases h1.open with ⟨a1, c1, rfl, hr⟩ | ⟨b1, o1, c1, rfl, hr, C1⟩
  · obtain ⟨a2, c2, rfl, _⟩ := h2
    obtain rfl : l = [] := by simpa using hr
    go_enter Tryd.func20, Tryd.ntmps20
    go_wp2
    go_loopw [5] (fun i wr => i = .int .i64 0 ∧ wr = w) (fun _ _ => 0)
    case atStart => exact ⟨rfl, rfl⟩
    case round =>
      obtain ⟨rfl, rfl⟩ := hrel
      go_wp2_with fail
      go_ret
      exact ⟨rfl, Below.refl _ _⟩
  · rcases h2.open with ⟨a2, c2, rfl, hr2⟩ | ⟨b2, o2, c2, rfl, _, C2⟩
    · exact absurd hr2 hr
    clear h1 h2
    simp only [List.length_map]
    go_enter Tryd.func20, Tryd.ntmps20
    go_wp2
    go_loopw [5] (fun i wr => ∃ k : Nat, k ≤ l.length ∧ i = .int .i64 k ∧ Hd (Below w.heap.size w wr)) (fun i _ => l.length - (intOf i).toNat)
    case atStart => exact ⟨0, Nat.zero_le _, rfl, Below.refl _ _⟩
    case round =>
      obtain ⟨k, hk, rfl, hbl⟩ := hrel
      by_cases hlt : k < l.length
      · obtain ⟨f0, f1, f2⟩ := Cells.rowCell l k hlt (C1.mono hbl.out)
        obtain ⟨g0, g1, g2⟩ := Cells.rowCell l k hlt (C2.mono hbl.out)
        go_wp2_with fail
        go_region_held3 (fun w' => w'.cell? ⟨b1, o1 + k * 3, none⟩ = some (.int .i64 l[k].var) ∧ w'.cell? ⟨b1, o1 + k * 3 + 1, none⟩ = some (.string l[k].name) ∧ w'.cell? ⟨b1, o1 + k * 3 + 2, none⟩ = some (.int .i64 l[k].many) ∧ w'.cell? ⟨b2, o2 + k * 3, none⟩ = some (.int .i64 l[k].var) ∧ w'.cell? ⟨b2, o2 + k * 3 + 1, none⟩ = some (.string l[k].name) ∧ w'.cell? ⟨b2, o2 + k * 3 + 2, none⟩ = some (.int .i64 l[k].many)) (first | go_keep | (go_split_ands; (repeat' apply And.intro) <;> exact keepCell hb (by assumption)))
          (first | (go_at_call 36; refine (eqCell _ _ _ _).mono ?_; rintro e w' ⟨rfl, hb⟩))
        have hn := hd (hbl.out.next hb.drewL)
        clear hb
        go_wp2_with fail
        go_roundw
        case rel => exact ⟨k + 1, by omega, by go_num, hn⟩
        case measure => simp [intOf]; omega
      · go_wp2_with fail
        go_ret
        exact ⟨rfl, hbl.out⟩
set_option maxHeartbeats 400000 in
theorem toCell (x0 : Int) (x1 : ByteArray) (x2 : Int) (w : World) : Calls Tryd.prog 32 #[.agg #[.int .i64 x0, .string x1, .int .i64 x2]] w fun e w' => e = .returned (.agg #[.int .i64 x0, .string x1, .int .i64 x2]) ∧ Below w.heap.size w w' := by
  go_enter Tryd.func32, Tryd.ntmps32
  go_wp2
  refine bodyPost_ret (v := .agg #[.int .i64 x0, .string x1, .int .i64 x2]) (by simp [results, Tryd.results32, go_sem]) rfl ⟨rfl, ?_⟩
  exact below_a3 _
theorem infoCell : (Tryd.prog.info? 64).map (fun i => (i.zero, i.size, i.bytes)) = some (some (.agg #[.int .i64 0, .string ⟨#[]⟩, .int .i64 0]), 3, 32) := by kernel_rfl
/-- What a copy made by the laws' helpers says: a new slice that reads as l. -/
def ToCellPost (l : List DCell) (w : World) (e : Ending) (w' : World) : Prop := ∃ v, e = .returned v ∧ Own w' w.heap.size 64 3 v (l.map DCell.enc) ∧ Below w.heap.size w w'
set_option maxHeartbeats 800000 in
theorem toCellS (l : List DCell) (v1 : Value) (w : World) (hl : l.length ≤ 1000000000) (h1 : Sl w v1 3 (l.map DCell.enc)) :
    Calls Tryd.prog 17 #[v1] w (ToCellPost l w) := by
  obtain ⟨i0, hi, hz0, hz1, hz2⟩ := info_parts infoCell
  have Hi := hd hi; have Hz0 := hd hz0; have Hz1 := hd hz1; have Hz2 := hd hz2
  have hby : i0.bytes * l.length ≤ 281474976710656 := by rw [hz2]; omega
  have hls := hd (DCell.enc_len l)
  clear hi hz0 hz1 hz2
  rcases h1.open with ⟨a1, c1, rfl, hr⟩ | ⟨b1, o1, c1, rfl, hr, C1⟩
  · obtain rfl : l = [] := by simpa using hr
    go_enter Tryd.func17, Tryd.ntmps17
    go_wp2_with (at_make; refine wpList_make_full _ rfl (.tmp 6) (.tmp 6) 28 rfl w.heap.size 64 i0 _ 3 Tryd.underlying28 Hi.out Hz0.out Hz1.out .i64 .i64 _ _ 0 rfl rfl rfl rfl (by simp) (by decide) (Nat.le_refl _) ?_; intro w1 ho hg; have ho := hd ho; have hg := hd hg)
    go_loopw [4] (fun i wr => i = .int .i64 0 ∧ wr = w1) (fun _ _ => 0)
    case atStart => exact ⟨rfl, rfl⟩
    case round =>
      obtain ⟨rfl, rfl⟩ := hrel
      go_wp2_with fail
      go_ret
      exact ⟨_, rfl, ⟨by simp, _, ho.out, Pre.zero⟩, grownBy_below hg.out⟩
  · clear h1
    simp only [List.length_map]
    go_enter Tryd.func17, Tryd.ntmps17
    go_wp2_with (at_make; refine wpList_make_full _ rfl (.tmp 6) (.tmp 6) 28 rfl w.heap.size 64 i0 _ 3 Tryd.underlying28 Hi.out Hz0.out Hz1.out .i64 .i64 _ _ l.length rfl rfl rfl rfl hby (by unfold maxLen; omega) (Nat.le_refl _) ?_; intro w1 ho hg; have ho := hd ho; have hg := hd hg)
    go_loopw [4] (fun i wr => ∃ (k : Nat) (xs : List Value), k ≤ l.length ∧ i = .int .i64 k ∧ Hd (wr.ownsRow w.heap.size 64 3 (.slice (some ⟨w.heap.size, 0, none⟩) l.length l.length) l.length xs) ∧ Hd (Pre 3 k (l.map DCell.enc) xs) ∧ Hd (Below w.heap.size w wr)) (fun i _ => l.length - (intOf i).toNat)
    case atStart => exact ⟨0, _, Nat.zero_le _, rfl, ho.out, Pre.zero, grownBy_below hg.out⟩
    case round =>
      obtain ⟨k, xs, hk, rfl, ho2, hp, hbl⟩ := hrel
      by_cases hlt : k < l.length
      · obtain ⟨f0, f1, f2⟩ := Cells.rowCell l k hlt (C1.mono hbl.out)
        go_wp2_with fail
        refine (toCell _ _ _ _).mono ?_
        rintro e w2 ⟨rfl, hb⟩
        have hxl : xs.length = l.length * 3 := by have := ho2.out.1; exact this
        have ho3 := hd (ho2.out.kept (below_grownBy hb none) (.inr (by simp [Value.ownBlock])))
        have hb2 := hd (hbl.out.next hb)

        have q0 : w2.cell? ⟨w.heap.size, k * 3, none⟩ = some (xs[k * 3]'(by omega)) := by rw [ho3.out.cellAt _ (by omega)]; exact List.getElem?_eq_getElem (by omega)
        have r0 : w2.frozen? ⟨w.heap.size, k * 3, none⟩ = false := ho3.out.frozenAt _
        have q1 : w2.cell? ⟨w.heap.size, k * 3 + 1, none⟩ = some (xs[k * 3 + 1]'(by omega)) := by rw [ho3.out.cellAt _ (by omega)]; exact List.getElem?_eq_getElem (by omega)
        have r1 : w2.frozen? ⟨w.heap.size, k * 3 + 1, none⟩ = false := ho3.out.frozenAt _
        have q2 : w2.cell? ⟨w.heap.size, k * 3 + 2, none⟩ = some (xs[k * 3 + 2]'(by omega)) := by rw [ho3.out.cellAt _ (by omega)]; exact List.getElem?_eq_getElem (by omega)
        have r2 : w2.frozen? ⟨w.heap.size, k * 3 + 2, none⟩ = false := ho3.out.frozenAt _
        have hst := ownsRow_setCells (l[k]).enc _ _ (k * 3) ho3.out
        have hpp := hd (hp.out.step hls.out (DCell.row l k hlt) (by omega))
        have hst1 := hd hst.1
        have hst2 := hd hst.2
        clear hst hb ho3
        go_wp2_with fail
        go_roundw
        case rel => exact ⟨k + 1, _, by omega, by go_num, hst1.out, hpp, hb2.out.grown hst2.out hb2.out.size (by intro j hj; cases hj; exact Nat.le_refl _)⟩
        case measure => simp [intOf]; omega
      · have : k = l.length := by omega
        subst this
        go_wp2_with fail
        go_ret
        refine ⟨_, rfl, ⟨hls.out, xs, ?_, ?_⟩, hbl.out⟩
        · rw [List.length_map]; exact ho2.out
        · rw [List.length_map]; exact hp.out
def Sz1CellPost (n : Nat) (left : Int) (w : World) (e : Ending) (w' : World) : Prop :=
  ∃ r : Int, e = .returned (.int .i64 r) ∧ -1 ≤ r ∧ r ≤ left ∧ (0 ≤ r → (n : Int) + r ≤ left) ∧ Below w.heap.size w w'
theorem szCell (x0 : Int) (x1 : ByteArray) (x2 : Int) (left : Int) (w : World) (hl0 : 0 ≤ left) (hl1 : left ≤ 1048576) (hs : x1.size ≤ maxLen) :
    Calls Tryd.prog 29 #[.agg #[.int .i64 x0, .string x1, .int .i64 x2], .int .i64 left] w (Sz1CellPost x1.size left w) := by
  unfold maxLen at hs
  by_cases hc : (x1.size : Int) ≤ left
  · go_enter Tryd.func29, Tryd.ntmps29
    go_wp2
    go_ret
    exact ⟨_, rfl, by omega, by omega, fun _ => by omega, below_a1 _⟩
  · go_enter Tryd.func29, Tryd.ntmps29
    go_wp2
    go_ret
    exact ⟨_, rfl, by omega, by omega, fun h => absurd h (by omega), below_a1 _⟩
/-- The strings of the first k. -/
def SmallCell (left : Int) (k : Nat) (l : List DCell) : Prop := ∀ i (h : i < l.length), i < k → (l[i].name.size : Int) ≤ left
def SzCellPost (l : List DCell) (left : Int) (w : World) (e : Ending) (w' : World) : Prop :=
  ∃ r : Int, e = .returned (.int .i64 r) ∧ -1 ≤ r ∧ r ≤ left ∧ (0 ≤ r → (l.length : Int) ≤ left ∧ SmallCell left l.length l) ∧ Below w.heap.size w w'
set_option maxHeartbeats 800000 in
theorem szCellS (l : List DCell) (v1 : Value) (left : Int) (w : World) (hl0 : 0 ≤ left) (hl1 : left ≤ 1048576) (hl : l.length ≤ maxLen) (hok : ∀ x ∈ l, DCell.ok x) (h1 : Sl w v1 3 (l.map DCell.enc)) :
    Calls Tryd.prog 14 #[v1, .int .i64 left] w (SzCellPost l left w) := by
  replace hok := hd hok
  unfold maxLen at hl
  by_cases hc : (l.length : Int) ≤ left
  · rcases h1.open with ⟨a1, c1, rfl, hr⟩ | ⟨b1, o1, c1, rfl, hr, C1⟩
    · obtain rfl : l = [] := by simpa using hr
      go_enter Tryd.func14, Tryd.ntmps14
      go_wp2
      go_loopw [1, 5] (fun r i wr => r = .int .i64 left ∧ i = .int .i64 0 ∧ wr = w) (fun _ _ _ => 0)
      case atStart => exact ⟨rfl, rfl, rfl⟩
      case round =>
        obtain ⟨rfl, rfl, rfl⟩ := hrel
        go_wp2_with fail
        go_ret
        exact ⟨left, rfl, by omega, by omega, fun _ => ⟨by simpa using hl0, fun i h => absurd h (by simp)⟩, Below.refl _ _⟩
    · clear h1
      simp only [List.length_map]
      go_enter Tryd.func14, Tryd.ntmps14
      go_wp2
      go_loopw [1, 5] (fun r i wr => ∃ (k : Nat) (q : Int), k ≤ l.length ∧ i = .int .i64 k ∧ r = .int .i64 q ∧ 0 ≤ q ∧ q ≤ left - l.length ∧ Hd (SmallCell left k l) ∧ Hd (Below w.heap.size w wr)) (fun _ i _ => l.length - (intOf i).toNat)
      case atStart => exact ⟨0, left - l.length, Nat.zero_le _, rfl, rfl, by omega, by omega, fun i h h0 => absurd h0 (by omega), Below.refl _ _⟩
      case round =>
        obtain ⟨k, q, hk, rfl, rfl, hq0, hq1, hsm, hbl⟩ := hrel
        by_cases hlt : k < l.length
        · obtain ⟨f0, f1, f2⟩ := Cells.rowCell l k hlt (C1.mono hbl.out)
          have hsz := hok.out l[k] (List.getElem_mem hlt)
          go_wp2_with fail
          refine (szCell _ _ _ q _ hq0 (by omega) hsz).mono ?_
          rintro e w2 ⟨r, rfl, hr0, hr1, hr2, hb⟩
          have hb2 := hd (hbl.out.next hb)
          clear hb hsz
          by_cases hneg : r < 0
          · go_wp2_with fail
            go_ret
            exact ⟨_, rfl, by omega, by omega, fun h => absurd h (by omega), hb2.out⟩
          · have hr3 := hr2 (by omega)
            go_wp2_with fail
            go_roundw
            case rel =>
              refine ⟨k + 1, r, by omega, by go_num, rfl, by omega, by omega, ?_, hb2⟩
              intro i h hi
              by_cases hik : i = k
              · subst hik; omega
              · exact hsm.out i h (by omega)
            case measure => simp [intOf]; omega
        · have : k = l.length := by omega
          subst this
          go_wp2_with fail
          go_ret
          exact ⟨_, rfl, by omega, by omega, fun _ => ⟨by omega, hsm.out⟩, hbl.out⟩
  · obtain ⟨a1, c1, rfl, _⟩ := h1
    simp only [List.length_map]
    go_enter Tryd.func14, Tryd.ntmps14
    go_wp2_with fail
    go_ret
    exact ⟨_, rfl, by omega, by omega, fun h => absurd h (by omega), Below.refl _ _⟩
theorem szTerm (l : List DCell) (v1 : Value) (left : Int) (w : World) (hl0 : 0 ≤ left) (hl1 : left ≤ 1048576) (hl : l.length ≤ maxLen) (hok : ∀ x ∈ l, DCell.ok x) (h1 : Sl w v1 3 (l.map DCell.enc)) :
    Calls Tryd.prog 5 #[.agg #[v1], .int .i64 left] w (SzCellPost l left w) := by
  have hk := hd h1
  replace hok := hd hok
  obtain ⟨a1, c1, rfl, _⟩ := h1
  simp only [List.length_map] at hk ⊢
  go_enter Tryd.func5, Tryd.ntmps5
  go_wp2_with fail
  refine (szCellS l _ left _ hl0 hl1 hl hok.out (hk.out.mono (below_a1 _))).mono ?_
  rintro e w2 ⟨r, rfl, h2, h3, h4, hb⟩
  have hb := hd hb.allocL
  replace h4 := hd h4
  by_cases hn : r < 0
  · go_wp2_with fail
    go_ret
    exact ⟨_, rfl, by omega, by omega, fun h => absurd h (by omega), hb.out⟩
  · go_wp2_with fail
    go_ret
    exact ⟨_, rfl, by omega, by omega, h4.out, hb.out⟩
def ToTermPost (l : List DCell) (w : World) (e : Ending) (w' : World) : Prop := ∃ v, e = .returned (.agg #[v]) ∧ Own w' w.heap.size 64 3 v (l.map DCell.enc) ∧ Below w.heap.size w w'
theorem toTerm (l : List DCell) (v1 : Value) (w : World) (hl : l.length ≤ 1000000000) (h1 : Sl w v1 3 (l.map DCell.enc)) :
    Calls Tryd.prog 7 #[.agg #[v1]] w (ToTermPost l w) := by
  have hk := hd h1
  obtain ⟨a1, c1, rfl, _⟩ := h1
  simp only [List.length_map] at hk ⊢
  go_enter Tryd.func7, Tryd.ntmps7
  go_wp2_with fail
  refine (toCellS l _ _ hl (hk.out.mono (below_a3 _))).mono ?_
  rintro e w2 ⟨v, rfl, ho, hb⟩
  obtain ⟨a2, c2, rfl, _⟩ := ho.sl
  rw [List.length_map] at ho ⊢
  have q1 : w2.cell? ⟨w.heap.size + 1, 0, none⟩ = some (.slice none 0 0) := by rw [hb.cell (by simp)]; go_simp
  have q2 : w2.cell? ⟨w.heap.size + 1 + 1, 0, none⟩ = some (.slice none 0 0) := by rw [hb.cell (by simp)]; go_simp
  have r1 : w2.frozen? ⟨w.heap.size + 1, 0, none⟩ = false := by rw [hb.frozen (by simp)]; go_simp
  have r2 : w2.frozen? ⟨w.heap.size + 1 + 1, 0, none⟩ = false := by rw [hb.frozen (by simp)]; go_simp
  have hz : w.heap.size + 1 + 1 < w2.heap.size := by have := hb.size; simp at this; omega
  have hfresh : ∀ k, (Value.slice a2 l.length c2).ownBlock = some k → w.heap.size + 1 + 1 < k := fun k hk => by have := (ho.lt k hk).1; simp at this; omega
  have ho2 := hd (((ho.weaken (B' := w.heap.size) (by simp; omega)).kept (grownBy_setCell w2 ⟨w.heap.size + 1 + 1, 0, none⟩ (.slice a2 l.length c2)) (own_ne hfresh (by simp))).kept (grownBy_setCell _ ⟨w.heap.size + 1, 0, none⟩ (.slice a2 l.length c2)) (own_ne hfresh (by simp)))
  have hb2 := hd (((hb.allocL.allocL.allocL).setCell (p := ⟨w.heap.size + 1 + 1, 0, none⟩) (by simp; omega) (.slice a2 l.length c2)).setCell (p := ⟨w.heap.size + 1, 0, none⟩) (by simp) (.slice a2 l.length c2))
  clear ho hb hk hfresh
  go_wp2_with fail
  refine bodyPost_ret (v := .agg #[.slice a2 l.length c2]) (by simp [results, Tryd.results7, go_sem, q1]) rfl ⟨_, rfl, ho2.out, hb2.out⟩
theorem eqTerm (l : List DCell) (v1 v2 : Value) (w : World) (hl : l.length ≤ 1000000000) (h1 : Sl w v1 3 (l.map DCell.enc)) (h2 : Sl w v2 3 (l.map DCell.enc)) :
    Calls Tryd.prog 9 #[.agg #[v1], .agg #[v2]] w (LawTrue w) := by
  have hk1 := hd h1
  have hk2 := hd h2
  obtain ⟨a1, c1, rfl, _⟩ := h1
  obtain ⟨a2, c2, rfl, _⟩ := h2
  simp only [List.length_map] at hk1 hk2 ⊢
  go_enter Tryd.func9, Tryd.ntmps9
  go_wp2_with fail
  refine (eqCellS l _ _ _ (by omega) (hk1.out.mono (below_a2 _)) (hk2.out.mono (below_a2 _))).mono ?_
  rintro e w2 ⟨rfl, hb⟩
  have hb := hd (hb.allocL.allocL)
  go_wp2_with fail
  go_ret
  exact ⟨rfl, hb.out⟩
section
variable {H : Type} {enc : TypeId × Value → H} {w : World} {spare : Nat → Bool} {held : Bool}
theorem elCell (n : Nat) (cs : List Value) (y : DataW H × List MemPlace) (h : DataW.trod enc Tryd.prog w 0 spare held n 61 cs = some y) : ∃ d : DCell, cs = d.enc ∧ d.ok := by
  have kc : Tryd.prog.cellsOf 61 = 3 := by kernel_rfl
  have ki : Tryd.prog.cellsOf 3 = 1 := by kernel_rfl
  have ks : Tryd.prog.cellsOf 9 = 1 := by kernel_rfl

  obtain ⟨xs, m, _, _, hl, hlen, hf⟩ := DataW.trod_struct Tryd.underlying61 h
  rw [kc] at hl
  obtain ⟨c0, c1, c2, rfl⟩ := list_len3 hl
  have g0 := field_one (c := c0) ki rfl rfl (hf 0 _ rfl)
  rw [List.getElem?_eq_getElem (by rw [hlen]; decide)] at g0
  obtain ⟨x0, rfl⟩ := int_cell Tryd.underlying3 g0
  have g1 := field_one (c := c1) ks rfl rfl (hf 1 _ rfl)
  rw [List.getElem?_eq_getElem (by rw [hlen]; decide)] at g1
  obtain ⟨x1, rfl, s1⟩ := string_cell Tryd.underlying9 g1
  have g2 := field_one (c := c2) ki rfl rfl (hf 2 _ rfl)
  rw [List.getElem?_eq_getElem (by rw [hlen]; decide)] at g2
  obtain ⟨x2, rfl⟩ := int_cell Tryd.underlying3 g2
  exact ⟨⟨x0, x1, x2⟩, rfl, s1⟩
theorem open_CellS {fuel : Nat} {cs : List Value} {x : DataW H × List MemPlace} (h : DataW.trod enc Tryd.prog w 0 spare held fuel 22 cs = some x) :
    ∃ (l : List DCell) (v : Value), cs = [v] ∧ l.length ≤ maxLen ∧ Sl w v 3 (l.map DCell.enc) ∧ ∀ d ∈ l, d.ok :=
  open_rows DCell.enc DCell.ok 3 (by decide) Tryd.underlying22 (by kernel_rfl) elCell h
theorem open_CellSv {r : Reach} {b0 : Nat} {v : Value} {d : DataW H} {p : List MemPlace} (hv : Value.okWide Tryd.prog w r b0 22 v) (h : DataW.Trod enc Tryd.prog w 0 spare held 22 v d p) :
    ∃ (l : List DCell), l.length ≤ maxLen ∧ Sl w v 3 (l.map DCell.enc) ∧ ∀ d ∈ l, d.ok := by
  obtain ⟨a, len, cap, rfl⟩ := okWide_slice Tryd.underlying22 hv
  obtain ⟨fuel, hf⟩ := h
  obtain ⟨l, v, hv, h3, h4, h5⟩ := open_CellS hf
  cases hv
  exact ⟨l, h3, h4, h5⟩
theorem open_Term {r : Reach} {b0 : Nat} {v : Value} {d : DataW H} {p : List MemPlace} (hv : Value.okWide Tryd.prog w r b0 24 v) (h : DataW.Trod enc Tryd.prog w 0 spare held 24 v d p) :
    ∃ (l : List DCell) (s : Value), v = .agg #[s] ∧ l.length ≤ maxLen ∧ Sl w s 3 (l.map DCell.enc) ∧ ∀ d ∈ l, d.ok := by
  obtain ⟨s, rfl⟩ := okWide_struct1 Tryd.underlying24 (by kernel_rfl) hv
  obtain ⟨fuel, hf⟩ := h
  obtain ⟨y, n, _, _, h1⟩ := trod_struct1 Tryd.underlying24 hf
  have h2 := field_one (c := s) (k := 1) (by kernel_rfl) rfl rfl h1
  obtain ⟨l, v, hv, h3, h4, h5⟩ := open_CellS h2
  cases hv
  exact ⟨l, s, rfl, h3, h4, h5⟩
end
end Go.Proofs.YtbjilpemckoioaaDoor

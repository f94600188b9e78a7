/- The struct Type as data; the laws' helpers on it (sz, to, eq), on slices of it, on Schema. -/
import Derived.Test.YtcepnifcfkgaeaaDoorRows
import Derived.Test.YtcepnifcfkgaeaaDoorBases
import Derived.Outline
import Derived.Deep.RegionHeld3
namespace Go.Proofs.YtcepnifcfkgaeaaDoor
open Go.RowKit Go.ChangeShapes Go.WideShapes
set_option linter.unusedVariables false
set_option maxRecDepth 100000

structure DType where
  kind : Int
  name : ByteArray
  no : Int
  must : Bool
  up : Int
  most : Int
deriving Inhabited
def DType.enc (x : DType) : List Value := [.int .i64 x.kind, .string x.name, .int .i64 x.no, .bool x.must, .int .i64 x.up, .int .i64 x.most]
theorem DType.enc_len (l : List DType) : ∀ r ∈ l.map DType.enc, r.length = 6 := by
  intro r hr; obtain ⟨x, _, rfl⟩ := List.mem_map.1 hr; rfl
theorem DType.row (l : List DType) (k : Nat) (h : k < l.length) : (l.map DType.enc)[k]? = some (l[k].enc) := by simp [h]
/-- What every value that can be read is: its strings are not longer than Go allows. -/
def DType.ok (x : DType) : Prop := x.name.size ≤ maxLen
set_option maxHeartbeats 400000 in
theorem eqType (x0 : Int) (x1 : ByteArray) (x2 : Int) (x3 : Bool) (x4 : Int) (x5 : Int) (w : World) : Calls Tryd.prog 29 #[.agg #[.int .i64 x0, .string x1, .int .i64 x2, .bool x3, .int .i64 x4, .int .i64 x5], .agg #[.int .i64 x0, .string x1, .int .i64 x2, .bool x3, .int .i64 x4, .int .i64 x5]] w (LawTrue w) := by
  go_enter Tryd.func29, Tryd.ntmps29
  go_wp2
  go_ret
  exact ⟨rfl, below_a2 _⟩
theorem Cells.rowType {w : World} {b o : Nat} (l : List DType) (k : Nat) (h : k < l.length) (C : Cells w b o 6 (l.map DType.enc)) :
    w.cell? ⟨b, o + k * 6, none⟩ = some (.int .i64 l[k].kind) ∧ w.cell? ⟨b, o + k * 6 + 1, none⟩ = some (.string l[k].name) ∧ w.cell? ⟨b, o + k * 6 + 2, none⟩ = some (.int .i64 l[k].no) ∧ w.cell? ⟨b, o + k * 6 + 3, none⟩ = some (.bool l[k].must) ∧ w.cell? ⟨b, o + k * 6 + 4, none⟩ = some (.int .i64 l[k].up) ∧ w.cell? ⟨b, o + k * 6 + 5, none⟩ = some (.int .i64 l[k].most) :=
  ⟨C.2 k _ (DType.row l k h) 0 _ rfl, C.2 k _ (DType.row l k h) 1 _ rfl, C.2 k _ (DType.row l k h) 2 _ rfl, C.2 k _ (DType.row l k h) 3 _ rfl, C.2 k _ (DType.row l k h) 4 _ rfl, C.2 k _ (DType.row l k h) 5 _ rfl⟩
set_option maxHeartbeats 800000 in
theorem eqTypeS (l : List DType) (v1 v2 : Value) (w : World) (hl : l.length ≤ 1000000000000) (h1 : Sl w v1 6 (l.map DType.enc)) (h2 : Sl w v2 6 (l.map DType.enc)) :
    Calls Tryd.prog 16 #[v1, v2] w (LawTrue w) := by
  rcases h1.open with ⟨a1, c1, rfl, hr⟩ | ⟨b1, o1, c1, rfl, hr, C1⟩
  · obtain ⟨a2, c2, rfl, _⟩ := h2
    obtain rfl : l = [] := by simpa using hr
    go_enter Tryd.func16, Tryd.ntmps16
    go_wp2
    go_loopw [5] (fun i wr => i = .int .i64 0 ∧ wr = w) (fun _ _ => 0)
    case atStart => exact ⟨rfl, rfl⟩
    case round =>
      obtain ⟨rfl, rfl⟩ := hrel
      go_wp2_with fail
      go_ret
      exact ⟨rfl, Below.refl _ _⟩
  · rcases h2.open with ⟨a2, c2, rfl, hr2⟩ | ⟨b2, o2, c2, rfl, _, C2⟩
    · exact absurd hr2 hr
    clear h1 h2
    simp only [List.length_map]
    go_enter Tryd.func16, Tryd.ntmps16
    go_wp2
    go_loopw [5] (fun i wr => ∃ k : Nat, k ≤ l.length ∧ i = .int .i64 k ∧ Hd (Below w.heap.size w wr)) (fun i _ => l.length - (intOf i).toNat)
    case atStart => exact ⟨0, Nat.zero_le _, rfl, Below.refl _ _⟩
    case round =>
      obtain ⟨k, hk, rfl, hbl⟩ := hrel
      by_cases hlt : k < l.length
      · obtain ⟨f0, f1, f2, f3, f4, f5⟩ := Cells.rowType l k hlt (C1.mono hbl.out)
        obtain ⟨g0, g1, g2, g3, g4, g5⟩ := Cells.rowType l k hlt (C2.mono hbl.out)
        go_wp2_with fail
        go_region_held3 (fun w' => w'.cell? ⟨b1, o1 + k * 6, none⟩ = some (.int .i64 l[k].kind) ∧ w'.cell? ⟨b1, o1 + k * 6 + 1, none⟩ = some (.string l[k].name) ∧ w'.cell? ⟨b1, o1 + k * 6 + 2, none⟩ = some (.int .i64 l[k].no) ∧ w'.cell? ⟨b1, o1 + k * 6 + 3, none⟩ = some (.bool l[k].must) ∧ w'.cell? ⟨b1, o1 + k * 6 + 4, none⟩ = some (.int .i64 l[k].up) ∧ w'.cell? ⟨b1, o1 + k * 6 + 5, none⟩ = some (.int .i64 l[k].most) ∧ w'.cell? ⟨b2, o2 + k * 6, none⟩ = some (.int .i64 l[k].kind) ∧ w'.cell? ⟨b2, o2 + k * 6 + 1, none⟩ = some (.string l[k].name) ∧ w'.cell? ⟨b2, o2 + k * 6 + 2, none⟩ = some (.int .i64 l[k].no) ∧ w'.cell? ⟨b2, o2 + k * 6 + 3, none⟩ = some (.bool l[k].must) ∧ w'.cell? ⟨b2, o2 + k * 6 + 4, none⟩ = some (.int .i64 l[k].up) ∧ w'.cell? ⟨b2, o2 + k * 6 + 5, none⟩ = some (.int .i64 l[k].most)) (first | go_keep | (go_split_ands; (repeat' apply And.intro) <;> exact keepCell hb (by assumption)))
          (first | (go_at_call 29; refine (eqType _ _ _ _ _ _ _).mono ?_; rintro e w' ⟨rfl, hb⟩))
        have hn := hd (hbl.out.next hb.drewL)
        clear hb
        go_wp2_with fail
        go_roundw
        case rel => exact ⟨k + 1, by omega, by go_num, hn⟩
        case measure => simp [intOf]; omega
      · go_wp2_with fail
        go_ret
        exact ⟨rfl, hbl.out⟩
set_option maxHeartbeats 400000 in
theorem toType (x0 : Int) (x1 : ByteArray) (x2 : Int) (x3 : Bool) (x4 : Int) (x5 : Int) (w : World) : Calls Tryd.prog 23 #[.agg #[.int .i64 x0, .string x1, .int .i64 x2, .bool x3, .int .i64 x4, .int .i64 x5]] w fun e w' => e = .returned (.agg #[.int .i64 x0, .string x1, .int .i64 x2, .bool x3, .int .i64 x4, .int .i64 x5]) ∧ Below w.heap.size w w' := by
  go_enter Tryd.func23, Tryd.ntmps23
  go_wp2
  refine bodyPost_ret (v := .agg #[.int .i64 x0, .string x1, .int .i64 x2, .bool x3, .int .i64 x4, .int .i64 x5]) (by simp [results, Tryd.results23, go_sem]) rfl ⟨rfl, ?_⟩
  exact below_a3 _
theorem infoType : (Tryd.prog.info? 50).map (fun i => (i.zero, i.size, i.bytes)) = some (some (.agg #[.int .i64 0, .string ⟨#[]⟩, .int .i64 0, .bool false, .int .i64 0, .int .i64 0]), 6, 56) := by kernel_rfl
/-- What a copy made by the laws' helpers says: a new slice that reads as l. -/
def ToTypePost (l : List DType) (w : World) (e : Ending) (w' : World) : Prop := ∃ v, e = .returned v ∧ Own w' w.heap.size 50 6 v (l.map DType.enc) ∧ Below w.heap.size w w'
set_option maxHeartbeats 800000 in
theorem toTypeS (l : List DType) (v1 : Value) (w : World) (hl : l.length ≤ 1000000000) (h1 : Sl w v1 6 (l.map DType.enc)) :
    Calls Tryd.prog 13 #[v1] w (ToTypePost l w) := by
  obtain ⟨i0, hi, hz0, hz1, hz2⟩ := info_parts infoType
  have Hi := hd hi; have Hz0 := hd hz0; have Hz1 := hd hz1; have Hz2 := hd hz2
  have hby : i0.bytes * l.length ≤ 281474976710656 := by rw [hz2]; omega
  have hls := hd (DType.enc_len l)
  clear hi hz0 hz1 hz2
  rcases h1.open with ⟨a1, c1, rfl, hr⟩ | ⟨b1, o1, c1, rfl, hr, C1⟩
  · obtain rfl : l = [] := by simpa using hr
    go_enter Tryd.func13, Tryd.ntmps13
    go_wp2_with (at_make; refine wpList_make_full _ rfl (.tmp 6) (.tmp 6) 28 rfl w.heap.size 50 i0 _ 6 Tryd.underlying28 Hi.out Hz0.out Hz1.out .i64 .i64 _ _ 0 rfl rfl rfl rfl (by simp) (by decide) (Nat.le_refl _) ?_; intro w1 ho hg; have ho := hd ho; have hg := hd hg)
    go_loopw [4] (fun i wr => i = .int .i64 0 ∧ wr = w1) (fun _ _ => 0)
    case atStart => exact ⟨rfl, rfl⟩
    case round =>
      obtain ⟨rfl, rfl⟩ := hrel
      go_wp2_with fail
      go_ret
      exact ⟨_, rfl, ⟨by simp, _, ho.out, Pre.zero⟩, grownBy_below hg.out⟩
  · clear h1
    simp only [List.length_map]
    go_enter Tryd.func13, Tryd.ntmps13
    go_wp2_with (at_make; refine wpList_make_full _ rfl (.tmp 6) (.tmp 6) 28 rfl w.heap.size 50 i0 _ 6 Tryd.underlying28 Hi.out Hz0.out Hz1.out .i64 .i64 _ _ l.length rfl rfl rfl rfl hby (by unfold maxLen; omega) (Nat.le_refl _) ?_; intro w1 ho hg; have ho := hd ho; have hg := hd hg)
    go_loopw [4] (fun i wr => ∃ (k : Nat) (xs : List Value), k ≤ l.length ∧ i = .int .i64 k ∧ Hd (wr.ownsRow w.heap.size 50 6 (.slice (some ⟨w.heap.size, 0, none⟩) l.length l.length) l.length xs) ∧ Hd (Pre 6 k (l.map DType.enc) xs) ∧ Hd (Below w.heap.size w wr)) (fun i _ => l.length - (intOf i).toNat)
    case atStart => exact ⟨0, _, Nat.zero_le _, rfl, ho.out, Pre.zero, grownBy_below hg.out⟩
    case round =>
      obtain ⟨k, xs, hk, rfl, ho2, hp, hbl⟩ := hrel
      by_cases hlt : k < l.length
      · obtain ⟨f0, f1, f2, f3, f4, f5⟩ := Cells.rowType l k hlt (C1.mono hbl.out)
        go_wp2_with fail
        refine (toType _ _ _ _ _ _ _).mono ?_
        rintro e w2 ⟨rfl, hb⟩
        have hxl : xs.length = l.length * 6 := by have := ho2.out.1; exact this
        have ho3 := hd (ho2.out.kept (below_grownBy hb none) (.inr (by simp [Value.ownBlock])))
        have hb2 := hd (hbl.out.next hb)

        have q0 : w2.cell? ⟨w.heap.size, k * 6, none⟩ = some (xs[k * 6]'(by omega)) := by rw [ho3.out.cellAt _ (by omega)]; exact List.getElem?_eq_getElem (by omega)
        have r0 : w2.frozen? ⟨w.heap.size, k * 6, none⟩ = false := ho3.out.frozenAt _
        have q1 : w2.cell? ⟨w.heap.size, k * 6 + 1, none⟩ = some (xs[k * 6 + 1]'(by omega)) := by rw [ho3.out.cellAt _ (by omega)]; exact List.getElem?_eq_getElem (by omega)
        have r1 : w2.frozen? ⟨w.heap.size, k * 6 + 1, none⟩ = false := ho3.out.frozenAt _
        have q2 : w2.cell? ⟨w.heap.size, k * 6 + 2, none⟩ = some (xs[k * 6 + 2]'(by omega)) := by rw [ho3.out.cellAt _ (by omega)]; exact List.getElem?_eq_getElem (by omega)
        have r2 : w2.frozen? ⟨w.heap.size, k * 6 + 2, none⟩ = false := ho3.out.frozenAt _
        have q3 : w2.cell? ⟨w.heap.size, k * 6 + 3, none⟩ = some (xs[k * 6 + 3]'(by omega)) := by rw [ho3.out.cellAt _ (by omega)]; exact List.getElem?_eq_getElem (by omega)
        have r3 : w2.frozen? ⟨w.heap.size, k * 6 + 3, none⟩ = false := ho3.out.frozenAt _
        have q4 : w2.cell? ⟨w.heap.size, k * 6 + 4, none⟩ = some (xs[k * 6 + 4]'(by omega)) := by rw [ho3.out.cellAt _ (by omega)]; exact List.getElem?_eq_getElem (by omega)
        have r4 : w2.frozen? ⟨w.heap.size, k * 6 + 4, none⟩ = false := ho3.out.frozenAt _
        have q5 : w2.cell? ⟨w.heap.size, k * 6 + 5, none⟩ = some (xs[k * 6 + 5]'(by omega)) := by rw [ho3.out.cellAt _ (by omega)]; exact List.getElem?_eq_getElem (by omega)
        have r5 : w2.frozen? ⟨w.heap.size, k * 6 + 5, none⟩ = false := ho3.out.frozenAt _
        have hst := ownsRow_setCells (l[k]).enc _ _ (k * 6) ho3.out
        have hpp := hd (hp.out.step hls.out (DType.row l k hlt) (by omega))
        have hst1 := hd hst.1
        have hst2 := hd hst.2
        clear hst hb ho3
        go_wp2_with fail
        go_roundw
        case rel => exact ⟨k + 1, _, by omega, by go_num, hst1.out, hpp, hb2.out.grown hst2.out hb2.out.size (by intro j hj; cases hj; exact Nat.le_refl _)⟩
        case measure => simp [intOf]; omega
      · have : k = l.length := by omega
        subst this
        go_wp2_with fail
        go_ret
        refine ⟨_, rfl, ⟨hls.out, xs, ?_, ?_⟩, hbl.out⟩
        · rw [List.length_map]; exact ho2.out
        · rw [List.length_map]; exact hp.out
def Sz1TypePost (n : Nat) (left : Int) (w : World) (e : Ending) (w' : World) : Prop :=
  ∃ r : Int, e = .returned (.int .i64 r) ∧ -1 ≤ r ∧ r ≤ left ∧ (0 ≤ r → (n : Int) + r ≤ left) ∧ Below w.heap.size w w'
theorem szType (x0 : Int) (x1 : ByteArray) (x2 : Int) (x3 : Bool) (x4 : Int) (x5 : Int) (left : Int) (w : World) (hl0 : 0 ≤ left) (hl1 : left ≤ 1048576) (hs : x1.size ≤ maxLen) :
    Calls Tryd.prog 17 #[.agg #[.int .i64 x0, .string x1, .int .i64 x2, .bool x3, .int .i64 x4, .int .i64 x5], .int .i64 left] w (Sz1TypePost x1.size left w) := by
  unfold maxLen at hs
  by_cases hc : (x1.size : Int) ≤ left
  · go_enter Tryd.func17, Tryd.ntmps17
    go_wp2
    go_ret
    exact ⟨_, rfl, by omega, by omega, fun _ => by omega, below_a1 _⟩
  · go_enter Tryd.func17, Tryd.ntmps17
    go_wp2
    go_ret
    exact ⟨_, rfl, by omega, by omega, fun h => absurd h (by omega), below_a1 _⟩
/-- The strings of the first k. -/
def SmallType (left : Int) (k : Nat) (l : List DType) : Prop := ∀ i (h : i < l.length), i < k → (l[i].name.size : Int) ≤ left
def SzTypePost (l : List DType) (left : Int) (w : World) (e : Ending) (w' : World) : Prop :=
  ∃ r : Int, e = .returned (.int .i64 r) ∧ -1 ≤ r ∧ r ≤ left ∧ (0 ≤ r → (l.length : Int) ≤ left ∧ SmallType left l.length l) ∧ Below w.heap.size w w'
set_option maxHeartbeats 800000 in
theorem szTypeS (l : List DType) (v1 : Value) (left : Int) (w : World) (hl0 : 0 ≤ left) (hl1 : left ≤ 1048576) (hl : l.length ≤ maxLen) (hok : ∀ x ∈ l, DType.ok x) (h1 : Sl w v1 6 (l.map DType.enc)) :
    Calls Tryd.prog 9 #[v1, .int .i64 left] w (SzTypePost l left w) := by
  replace hok := hd hok
  unfold maxLen at hl
  by_cases hc : (l.length : Int) ≤ left
  · rcases h1.open with ⟨a1, c1, rfl, hr⟩ | ⟨b1, o1, c1, rfl, hr, C1⟩
    · obtain rfl : l = [] := by simpa using hr
      go_enter Tryd.func9, Tryd.ntmps9
      go_wp2
      go_loopw [1, 5] (fun r i wr => r = .int .i64 left ∧ i = .int .i64 0 ∧ wr = w) (fun _ _ _ => 0)
      case atStart => exact ⟨rfl, rfl, rfl⟩
      case round =>
        obtain ⟨rfl, rfl, rfl⟩ := hrel
        go_wp2_with fail
        go_ret
        exact ⟨left, rfl, by omega, by omega, fun _ => ⟨by simpa using hl0, fun i h => absurd h (by simp)⟩, Below.refl _ _⟩
    · clear h1
      simp only [List.length_map]
      go_enter Tryd.func9, Tryd.ntmps9
      go_wp2
      go_loopw [1, 5] (fun r i wr => ∃ (k : Nat) (q : Int), k ≤ l.length ∧ i = .int .i64 k ∧ r = .int .i64 q ∧ 0 ≤ q ∧ q ≤ left - l.length ∧ Hd (SmallType left k l) ∧ Hd (Below w.heap.size w wr)) (fun _ i _ => l.length - (intOf i).toNat)
      case atStart => exact ⟨0, left - l.length, Nat.zero_le _, rfl, rfl, by omega, by omega, fun i h h0 => absurd h0 (by omega), Below.refl _ _⟩
      case round =>
        obtain ⟨k, q, hk, rfl, rfl, hq0, hq1, hsm, hbl⟩ := hrel
        by_cases hlt : k < l.length
        · obtain ⟨f0, f1, f2, f3, f4, f5⟩ := Cells.rowType l k hlt (C1.mono hbl.out)
          have hsz := hok.out l[k] (List.getElem_mem hlt)
          go_wp2_with fail
          refine (szType _ _ _ _ _ _ q _ hq0 (by omega) hsz).mono ?_
          rintro e w2 ⟨r, rfl, hr0, hr1, hr2, hb⟩
          have hb2 := hd (hbl.out.next hb)
          clear hb hsz
          by_cases hneg : r < 0
          · go_wp2_with fail
            go_ret
            exact ⟨_, rfl, by omega, by omega, fun h => absurd h (by omega), hb2.out⟩
          · have hr3 := hr2 (by omega)
            go_wp2_with fail
            go_roundw
            case rel =>
              refine ⟨k + 1, r, by omega, by go_num, rfl, by omega, by omega, ?_, hb2⟩
              intro i h hi
              by_cases hik : i = k
              · subst hik; omega
              · exact hsm.out i h (by omega)
            case measure => simp [intOf]; omega
        · have : k = l.length := by omega
          subst this
          go_wp2_with fail
          go_ret
          exact ⟨_, rfl, by omega, by omega, fun _ => ⟨by omega, hsm.out⟩, hbl.out⟩
  · obtain ⟨a1, c1, rfl, _⟩ := h1
    simp only [List.length_map]
    go_enter Tryd.func9, Tryd.ntmps9
    go_wp2_with fail
    go_ret
    exact ⟨_, rfl, by omega, by omega, fun h => absurd h (by omega), Below.refl _ _⟩
theorem szSchema (l : List DType) (v1 : Value) (left : Int) (w : World) (hl0 : 0 ≤ left) (hl1 : left ≤ 1048576) (hl : l.length ≤ maxLen) (hok : ∀ x ∈ l, DType.ok x) (h1 : Sl w v1 6 (l.map DType.enc)) :
    Calls Tryd.prog 4 #[.agg #[v1], .int .i64 left] w (SzTypePost l left w) := by
  have hk := hd h1
  replace hok := hd hok
  obtain ⟨a1, c1, rfl, _⟩ := h1
  simp only [List.length_map] at hk ⊢
  go_enter Tryd.func4, Tryd.ntmps4
  go_wp2_with fail
  refine (szTypeS l _ left _ hl0 hl1 hl hok.out (hk.out.mono (below_a1 _))).mono ?_
  rintro e w2 ⟨r, rfl, h2, h3, h4, hb⟩
  have hb := hd hb.allocL
  replace h4 := hd h4
  by_cases hn : r < 0
  · go_wp2_with fail
    go_ret
    exact ⟨_, rfl, by omega, by omega, fun h => absurd h (by omega), hb.out⟩
  · go_wp2_with fail
    go_ret
    exact ⟨_, rfl, by omega, by omega, h4.out, hb.out⟩
def ToSchemaPost (l : List DType) (w : World) (e : Ending) (w' : World) : Prop := ∃ v, e = .returned (.agg #[v]) ∧ Own w' w.heap.size 50 6 v (l.map DType.enc) ∧ Below w.heap.size w w'
theorem toSchema (l : List DType) (v1 : Value) (w : World) (hl : l.length ≤ 1000000000) (h1 : Sl w v1 6 (l.map DType.enc)) :
    Calls Tryd.prog 6 #[.agg #[v1]] w (ToSchemaPost l w) := by
  have hk := hd h1
  obtain ⟨a1, c1, rfl, _⟩ := h1
  simp only [List.length_map] at hk ⊢
  go_enter Tryd.func6, Tryd.ntmps6
  go_wp2_with fail
  refine (toTypeS l _ _ hl (hk.out.mono (below_a3 _))).mono ?_
  rintro e w2 ⟨v, rfl, ho, hb⟩
  obtain ⟨a2, c2, rfl, _⟩ := ho.sl
  rw [List.length_map] at ho ⊢
  have q1 : w2.cell? ⟨w.heap.size + 1, 0, none⟩ = some (.slice none 0 0) := by rw [hb.cell (by simp)]; go_simp
  have q2 : w2.cell? ⟨w.heap.size + 1 + 1, 0, none⟩ = some (.slice none 0 0) := by rw [hb.cell (by simp)]; go_simp
  have r1 : w2.frozen? ⟨w.heap.size + 1, 0, none⟩ = false := by rw [hb.frozen (by simp)]; go_simp
  have r2 : w2.frozen? ⟨w.heap.size + 1 + 1, 0, none⟩ = false := by rw [hb.frozen (by simp)]; go_simp
  have hz : w.heap.size + 1 + 1 < w2.heap.size := by have := hb.size; simp at this; omega
  have hfresh : ∀ k, (Value.slice a2 l.length c2).ownBlock = some k → w.heap.size + 1 + 1 < k := fun k hk => by have := (ho.lt k hk).1; simp at this; omega
  have ho2 := hd (((ho.weaken (B' := w.heap.size) (by simp; omega)).kept (grownBy_setCell w2 ⟨w.heap.size + 1 + 1, 0, none⟩ (.slice a2 l.length c2)) (own_ne hfresh (by simp))).kept (grownBy_setCell _ ⟨w.heap.size + 1, 0, none⟩ (.slice a2 l.length c2)) (own_ne hfresh (by simp)))
  have hb2 := hd (((hb.allocL.allocL.allocL).setCell (p := ⟨w.heap.size + 1 + 1, 0, none⟩) (by simp; omega) (.slice a2 l.length c2)).setCell (p := ⟨w.heap.size + 1, 0, none⟩) (by simp) (.slice a2 l.length c2))
  clear ho hb hk hfresh
  go_wp2_with fail
  refine bodyPost_ret (v := .agg #[.slice a2 l.length c2]) (by simp [results, Tryd.results6, go_sem, q1]) rfl ⟨_, rfl, ho2.out, hb2.out⟩
theorem eqSchema (l : List DType) (v1 v2 : Value) (w : World) (hl : l.length ≤ 1000000000) (h1 : Sl w v1 6 (l.map DType.enc)) (h2 : Sl w v2 6 (l.map DType.enc)) :
    Calls Tryd.prog 8 #[.agg #[v1], .agg #[v2]] w (LawTrue w) := by
  have hk1 := hd h1
  have hk2 := hd h2
  obtain ⟨a1, c1, rfl, _⟩ := h1
  obtain ⟨a2, c2, rfl, _⟩ := h2
  simp only [List.length_map] at hk1 hk2 ⊢
  go_enter Tryd.func8, Tryd.ntmps8
  go_wp2_with fail
  refine (eqTypeS l _ _ _ (by omega) (hk1.out.mono (below_a2 _)) (hk2.out.mono (below_a2 _))).mono ?_
  rintro e w2 ⟨rfl, hb⟩
  have hb := hd (hb.allocL.allocL)
  go_wp2_with fail
  go_ret
  exact ⟨rfl, hb.out⟩
section
variable {H : Type} {enc : TypeId × Value → H} {w : World} {spare : Nat → Bool} {held : Bool}
theorem elType (n : Nat) (cs : List Value) (y : DataW H × List MemPlace) (h : DataW.trod enc Tryd.prog w 0 spare held n 48 cs = some y) : ∃ d : DType, cs = d.enc ∧ d.ok := by
  have kc : Tryd.prog.cellsOf 48 = 6 := by kernel_rfl
  have ki : Tryd.prog.cellsOf 3 = 1 := by kernel_rfl
  have ks : Tryd.prog.cellsOf 9 = 1 := by kernel_rfl
  have kb : Tryd.prog.cellsOf 4 = 1 := by kernel_rfl
  obtain ⟨xs, m, _, _, hl, hlen, hf⟩ := DataW.trod_struct Tryd.underlying48 h
  rw [kc] at hl
  obtain ⟨c0, c1, c2, c3, c4, c5, rfl⟩ := list_len6 hl
  have g0 := field_one (c := c0) ki rfl rfl (hf 0 _ rfl)
  rw [List.getElem?_eq_getElem (by rw [hlen]; decide)] at g0
  obtain ⟨x0, rfl⟩ := int_cell Tryd.underlying3 g0
  have g1 := field_one (c := c1) ks rfl rfl (hf 1 _ rfl)
  rw [List.getElem?_eq_getElem (by rw [hlen]; decide)] at g1
  obtain ⟨x1, rfl, s1⟩ := string_cell Tryd.underlying9 g1
  have g2 := field_one (c := c2) ki rfl rfl (hf 2 _ rfl)
  rw [List.getElem?_eq_getElem (by rw [hlen]; decide)] at g2
  obtain ⟨x2, rfl⟩ := int_cell Tryd.underlying3 g2
  have g3 := field_one (c := c3) kb rfl rfl (hf 3 _ rfl)
  rw [List.getElem?_eq_getElem (by rw [hlen]; decide)] at g3
  obtain ⟨x3, rfl⟩ := bool_cell Tryd.underlying4 g3
  have g4 := field_one (c := c4) ki rfl rfl (hf 4 _ rfl)
  rw [List.getElem?_eq_getElem (by rw [hlen]; decide)] at g4
  obtain ⟨x4, rfl⟩ := int_cell Tryd.underlying3 g4
  have g5 := field_one (c := c5) ki rfl rfl (hf 5 _ rfl)
  rw [List.getElem?_eq_getElem (by rw [hlen]; decide)] at g5
  obtain ⟨x5, rfl⟩ := int_cell Tryd.underlying3 g5
  exact ⟨⟨x0, x1, x2, x3, x4, x5⟩, rfl, s1⟩
theorem open_TypeS {fuel : Nat} {cs : List Value} {x : DataW H × List MemPlace} (h : DataW.trod enc Tryd.prog w 0 spare held fuel 22 cs = some x) :
    ∃ (l : List DType) (v : Value), cs = [v] ∧ l.length ≤ maxLen ∧ Sl w v 6 (l.map DType.enc) ∧ ∀ d ∈ l, d.ok :=
  open_rows DType.enc DType.ok 6 (by decide) Tryd.underlying22 (by kernel_rfl) elType h
theorem open_TypeSv {r : Reach} {b0 : Nat} {v : Value} {d : DataW H} {p : List MemPlace} (hv : Value.okWide Tryd.prog w r b0 22 v) (h : DataW.Trod enc Tryd.prog w 0 spare held 22 v d p) :
    ∃ (l : List DType), l.length ≤ maxLen ∧ Sl w v 6 (l.map DType.enc) ∧ ∀ d ∈ l, d.ok := by
  obtain ⟨a, len, cap, rfl⟩ := okWide_slice Tryd.underlying22 hv
  obtain ⟨fuel, hf⟩ := h
  obtain ⟨l, v, hv, h3, h4, h5⟩ := open_TypeS hf
  cases hv
  exact ⟨l, h3, h4, h5⟩
theorem open_Schema {r : Reach} {b0 : Nat} {v : Value} {d : DataW H} {p : List MemPlace} (hv : Value.okWide Tryd.prog w r b0 24 v) (h : DataW.Trod enc Tryd.prog w 0 spare held 24 v d p) :
    ∃ (l : List DType) (s : Value), v = .agg #[s] ∧ l.length ≤ maxLen ∧ Sl w s 6 (l.map DType.enc) ∧ ∀ d ∈ l, d.ok := by
  obtain ⟨s, rfl⟩ := okWide_struct1 Tryd.underlying24 (by kernel_rfl) hv
  obtain ⟨fuel, hf⟩ := h
  obtain ⟨y, n, _, _, h1⟩ := trod_struct1 Tryd.underlying24 hf
  have h2 := field_one (c := s) (k := 1) (by kernel_rfl) rfl rfl h1
  obtain ⟨l, v, hv, h3, h4, h5⟩ := open_TypeS h2
  cases hv
  exact ⟨l, s, rfl, h3, h4, h5⟩
end
end Go.Proofs.YtcepnifcfkgaeaaDoor

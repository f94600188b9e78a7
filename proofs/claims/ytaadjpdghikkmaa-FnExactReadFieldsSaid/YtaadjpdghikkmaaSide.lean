/- The struct Side as data; the laws' helpers on it (sz, to, eq), on slices of it, on Box. -/
import Derived.Test.YtaadjpdghikkmaaRows
import Derived.Test.YtaadjpdghikkmaaOpen
import Derived.Outline
import Derived.Deep.RegionHeld3
namespace Go.Proofs.Ytaadjpdghikkmaa
open Go.RowKit Go.ChangeShapes Go.WideShapes
set_option linter.unusedVariables false
set_option maxRecDepth 100000

structure DSide where
  lo : Int
  hi : Int
deriving Inhabited
def DSide.enc (x : DSide) : List Value := [.int .i64 x.lo, .int .i64 x.hi]
theorem DSide.enc_len (l : List DSide) : ∀ r ∈ l.map DSide.enc, r.length = 2 := by
  intro r hr; obtain ⟨x, _, rfl⟩ := List.mem_map.1 hr; rfl
theorem DSide.row (l : List DSide) (k : Nat) (h : k < l.length) : (l.map DSide.enc)[k]? = some (l[k].enc) := by simp [h]
/-- What every value that can be read is: its strings are not longer than Go allows. -/
def DSide.ok (x : DSide) : Prop := True
set_option maxHeartbeats 400000 in
theorem eqSide (x0 : Int) (x1 : Int) (w : World) : Calls Try.prog 109 #[.agg #[.int .i64 x0, .int .i64 x1], .agg #[.int .i64 x0, .int .i64 x1]] w (LawTrue w) := by
  go_enter Try.func109, Try.ntmps109
  go_wp2
  go_ret
  exact ⟨rfl, below_a2 _⟩
theorem Cells.rowSide {w : World} {b o : Nat} (l : List DSide) (k : Nat) (h : k < l.length) (C : Cells w b o 2 (l.map DSide.enc)) :
    w.cell? ⟨b, o + k * 2, none⟩ = some (.int .i64 l[k].lo) ∧ w.cell? ⟨b, o + k * 2 + 1, none⟩ = some (.int .i64 l[k].hi) :=
  ⟨C.2 k _ (DSide.row l k h) 0 _ rfl, C.2 k _ (DSide.row l k h) 1 _ rfl⟩
set_option maxHeartbeats 800000 in
theorem eqSideS (l : List DSide) (v1 v2 : Value) (w : World) (hl : l.length ≤ 1000000000000) (h1 : Sl w v1 2 (l.map DSide.enc)) (h2 : Sl w v2 2 (l.map DSide.enc)) :
    Calls Try.prog 64 #[v1, v2] w (LawTrue w) := by
  rcases h1.open with ⟨a1, c1, rfl, hr⟩ | ⟨b1, o1, c1, rfl, hr, C1⟩
  · obtain ⟨a2, c2, rfl, _⟩ := h2
    obtain rfl : l = [] := by simpa using hr
    go_enter Try.func64, Try.ntmps64
    go_wp2
    go_loopw [5] (fun i wr => i = .int .i64 0 ∧ wr = w) (fun _ _ => 0)
    case atStart => exact ⟨rfl, rfl⟩
    case round =>
      obtain ⟨rfl, rfl⟩ := hrel
      go_wp2_with fail
      go_ret
      exact ⟨rfl, Below.refl _ _⟩
  · rcases h2.open with ⟨a2, c2, rfl, hr2⟩ | ⟨b2, o2, c2, rfl, _, C2⟩
    · exact absurd hr2 hr
    clear h1 h2
    simp only [List.length_map]
    go_enter Try.func64, Try.ntmps64
    go_wp2
    go_loopw [5] (fun i wr => ∃ k : Nat, k ≤ l.length ∧ i = .int .i64 k ∧ Hd (Below w.heap.size w wr)) (fun i _ => l.length - (intOf i).toNat)
    case atStart => exact ⟨0, Nat.zero_le _, rfl, Below.refl _ _⟩
    case round =>
      obtain ⟨k, hk, rfl, hbl⟩ := hrel
      by_cases hlt : k < l.length
      · obtain ⟨f0, f1⟩ := Cells.rowSide l k hlt (C1.mono hbl.out)
        obtain ⟨g0, g1⟩ := Cells.rowSide l k hlt (C2.mono hbl.out)
        go_wp2_with fail
        go_region_held3 (fun w' => w'.cell? ⟨b1, o1 + k * 2, none⟩ = some (.int .i64 l[k].lo) ∧ w'.cell? ⟨b1, o1 + k * 2 + 1, none⟩ = some (.int .i64 l[k].hi) ∧ w'.cell? ⟨b2, o2 + k * 2, none⟩ = some (.int .i64 l[k].lo) ∧ w'.cell? ⟨b2, o2 + k * 2 + 1, none⟩ = some (.int .i64 l[k].hi)) (first | go_keep | (go_split_ands; (repeat' apply And.intro) <;> exact keepCell hb (by assumption)))
          (first | (go_at_call 109; refine (eqSide _ _ _).mono ?_; rintro e w' ⟨rfl, hb⟩))
        have hn := hd (hbl.out.next hb.drewL)
        clear hb
        go_wp2_with fail
        go_roundw
        case rel => exact ⟨k + 1, by omega, by go_num, hn⟩
        case measure => simp [intOf]; omega
      · go_wp2_with fail
        go_ret
        exact ⟨rfl, hbl.out⟩
set_option maxHeartbeats 400000 in
theorem toSide (x0 : Int) (x1 : Int) (w : World) : Calls Try.prog 107 #[.agg #[.int .i64 x0, .int .i64 x1]] w fun e w' => e = .returned (.agg #[.int .i64 x0, .int .i64 x1]) ∧ Below w.heap.size w w' := by
  go_enter Try.func107, Try.ntmps107
  go_wp2
  refine bodyPost_ret (v := .agg #[.int .i64 x0, .int .i64 x1]) (by simp [results, Try.results107, go_sem]) rfl ⟨rfl, ?_⟩
  exact below_a3 _
theorem infoSide : (Try.prog.info? 88).map (fun i => (i.zero, i.size, i.bytes)) = some (some (.agg #[.int .i64 0, .int .i64 0]), 2, 16) := by kernel_rfl
/-- What a copy made by the laws' helpers says: a new slice that reads as l. -/
def ToSidePost (l : List DSide) (w : World) (e : Ending) (w' : World) : Prop := ∃ v, e = .returned v ∧ Own w' w.heap.size 88 2 v (l.map DSide.enc) ∧ Below w.heap.size w w'
set_option maxHeartbeats 800000 in
theorem toSideS (l : List DSide) (v1 : Value) (w : World) (hl : l.length ≤ 1000000000) (h1 : Sl w v1 2 (l.map DSide.enc)) :
    Calls Try.prog 61 #[v1] w (ToSidePost l w) := by
  obtain ⟨i0, hi, hz0, hz1, hz2⟩ := info_parts infoSide
  have Hi := hd hi; have Hz0 := hd hz0; have Hz1 := hd hz1; have Hz2 := hd hz2
  have hby : i0.bytes * l.length ≤ 281474976710656 := by rw [hz2]; omega
  have hls := hd (DSide.enc_len l)
  clear hi hz0 hz1 hz2
  rcases h1.open with ⟨a1, c1, rfl, hr⟩ | ⟨b1, o1, c1, rfl, hr, C1⟩
  · obtain rfl : l = [] := by simpa using hr
    go_enter Try.func61, Try.ntmps61
    go_wp2_with (at_make; refine wpList_make_full _ rfl (.tmp 6) (.tmp 6) 27 rfl w.heap.size 88 i0 _ 2 Try.underlying27 Hi.out Hz0.out Hz1.out .i64 .i64 _ _ 0 rfl rfl rfl rfl (by simp) (by decide) (Nat.le_refl _) ?_; intro w1 ho hg; have ho := hd ho; have hg := hd hg)
    go_loopw [4] (fun i wr => i = .int .i64 0 ∧ wr = w1) (fun _ _ => 0)
    case atStart => exact ⟨rfl, rfl⟩
    case round =>
      obtain ⟨rfl, rfl⟩ := hrel
      go_wp2_with fail
      go_ret
      exact ⟨_, rfl, ⟨by simp, _, ho.out, Pre.zero⟩, grownBy_below hg.out⟩
  · clear h1
    simp only [List.length_map]
    go_enter Try.func61, Try.ntmps61
    go_wp2_with (at_make; refine wpList_make_full _ rfl (.tmp 6) (.tmp 6) 27 rfl w.heap.size 88 i0 _ 2 Try.underlying27 Hi.out Hz0.out Hz1.out .i64 .i64 _ _ l.length rfl rfl rfl rfl hby (by unfold maxLen; omega) (Nat.le_refl _) ?_; intro w1 ho hg; have ho := hd ho; have hg := hd hg)
    go_loopw [4] (fun i wr => ∃ (k : Nat) (xs : List Value), k ≤ l.length ∧ i = .int .i64 k ∧ Hd (wr.ownsRow w.heap.size 88 2 (.slice (some ⟨w.heap.size, 0, none⟩) l.length l.length) l.length xs) ∧ Hd (Pre 2 k (l.map DSide.enc) xs) ∧ Hd (Below w.heap.size w wr)) (fun i _ => l.length - (intOf i).toNat)
    case atStart => exact ⟨0, _, Nat.zero_le _, rfl, ho.out, Pre.zero, grownBy_below hg.out⟩
    case round =>
      obtain ⟨k, xs, hk, rfl, ho2, hp, hbl⟩ := hrel
      by_cases hlt : k < l.length
      · obtain ⟨f0, f1⟩ := Cells.rowSide l k hlt (C1.mono hbl.out)
        go_wp2_with fail
        refine (toSide _ _ _).mono ?_
        rintro e w2 ⟨rfl, hb⟩
        have hxl : xs.length = l.length * 2 := by have := ho2.out.1; exact this
        have ho3 := hd (ho2.out.kept (below_grownBy hb none) (.inr (by simp [Value.ownBlock])))
        have hb2 := hd (hbl.out.next hb)

        have q0 : w2.cell? ⟨w.heap.size, k * 2, none⟩ = some (xs[k * 2]'(by omega)) := by rw [ho3.out.cellAt _ (by omega)]; exact List.getElem?_eq_getElem (by omega)
        have r0 : w2.frozen? ⟨w.heap.size, k * 2, none⟩ = false := ho3.out.frozenAt _
        have q1 : w2.cell? ⟨w.heap.size, k * 2 + 1, none⟩ = some (xs[k * 2 + 1]'(by omega)) := by rw [ho3.out.cellAt _ (by omega)]; exact List.getElem?_eq_getElem (by omega)
        have r1 : w2.frozen? ⟨w.heap.size, k * 2 + 1, none⟩ = false := ho3.out.frozenAt _
        have hst := ownsRow_setCells (l[k]).enc _ _ (k * 2) ho3.out
        have hpp := hd (hp.out.step hls.out (DSide.row l k hlt) (by omega))
        have hst1 := hd hst.1
        have hst2 := hd hst.2
        clear hst hb ho3
        go_wp2_with fail
        go_roundw
        case rel => exact ⟨k + 1, _, by omega, by go_num, hst1.out, hpp, hb2.out.grown hst2.out hb2.out.size (by intro j hj; cases hj; exact Nat.le_refl _)⟩
        case measure => simp [intOf]; omega
      · have : k = l.length := by omega
        subst this
        go_wp2_with fail
        go_ret
        refine ⟨_, rfl, ⟨hls.out, xs, ?_, ?_⟩, hbl.out⟩
        · rw [List.length_map]; exact ho2.out
        · rw [List.length_map]; exact hp.out
def SzSidePost (l : List DSide) (left : Int) (w : World) (e : Ending) (w' : World) : Prop :=
  ∃ r : Int, e = .returned (.int .i64 r) ∧ -1 ≤ r ∧ r ≤ left ∧ (0 ≤ r → (l.length : Int) ≤ left) ∧ Below w.heap.size w w'
theorem szSideS (l : List DSide) (v1 : Value) (left : Int) (w : World) (hl0 : 0 ≤ left) (hl1 : left ≤ 1048576) (hl : l.length ≤ maxLen) (h1 : Sl w v1 2 (l.map DSide.enc)) :
    Calls Try.prog 59 #[v1, .int .i64 left] w (SzSidePost l left w) := by
  obtain ⟨a1, c1, rfl, _⟩ := h1
  unfold maxLen at hl
  simp only [List.length_map]
  by_cases hc : (l.length : Int) ≤ left
  · go_enter Try.func59, Try.ntmps59
    go_wp2
    go_ret
    exact ⟨_, rfl, by omega, by omega, fun _ => hc, Below.refl _ _⟩
  · go_enter Try.func59, Try.ntmps59
    go_wp2
    go_ret
    exact ⟨_, rfl, by omega, by omega, fun h => absurd h (by omega), Below.refl _ _⟩
theorem szBox (l : List DSide) (v1 : Value) (left : Int) (w : World) (hl0 : 0 ≤ left) (hl1 : left ≤ 1048576) (hl : l.length ≤ maxLen) (h1 : Sl w v1 2 (l.map DSide.enc)) :
    Calls Try.prog 15 #[.agg #[v1], .int .i64 left] w (SzSidePost l left w) := by
  have hk := hd h1
  obtain ⟨a1, c1, rfl, _⟩ := h1
  simp only [List.length_map] at hk ⊢
  go_enter Try.func15, Try.ntmps15
  go_wp2_with fail
  refine (szSideS l _ left _ hl0 hl1 hl (hk.out.mono (below_a1 _))).mono ?_
  rintro e w2 ⟨r, rfl, h2, h3, h4, hb⟩
  have hb := hd hb.allocL
  replace h4 := hd h4
  by_cases hn : r < 0
  · go_wp2_with fail
    go_ret
    exact ⟨_, rfl, by omega, by omega, fun h => absurd h (by omega), hb.out⟩
  · go_wp2_with fail
    go_ret
    exact ⟨_, rfl, by omega, by omega, h4.out, hb.out⟩
def ToBoxPost (l : List DSide) (w : World) (e : Ending) (w' : World) : Prop := ∃ v, e = .returned (.agg #[v]) ∧ Own w' w.heap.size 88 2 v (l.map DSide.enc) ∧ Below w.heap.size w w'
theorem toBox (l : List DSide) (v1 : Value) (w : World) (hl : l.length ≤ 1000000000) (h1 : Sl w v1 2 (l.map DSide.enc)) :
    Calls Try.prog 17 #[.agg #[v1]] w (ToBoxPost l w) := by
  have hk := hd h1
  obtain ⟨a1, c1, rfl, _⟩ := h1
  simp only [List.length_map] at hk ⊢
  go_enter Try.func17, Try.ntmps17
  go_wp2_with fail
  refine (toSideS l _ _ hl (hk.out.mono (below_a3 _))).mono ?_
  rintro e w2 ⟨v, rfl, ho, hb⟩
  obtain ⟨a2, c2, rfl, _⟩ := ho.sl
  rw [List.length_map] at ho ⊢
  have q1 : w2.cell? ⟨w.heap.size + 1, 0, none⟩ = some (.slice none 0 0) := by rw [hb.cell (by simp)]; go_simp
  have q2 : w2.cell? ⟨w.heap.size + 1 + 1, 0, none⟩ = some (.slice none 0 0) := by rw [hb.cell (by simp)]; go_simp
  have r1 : w2.frozen? ⟨w.heap.size + 1, 0, none⟩ = false := by rw [hb.frozen (by simp)]; go_simp
  have r2 : w2.frozen? ⟨w.heap.size + 1 + 1, 0, none⟩ = false := by rw [hb.frozen (by simp)]; go_simp
  have hz : w.heap.size + 1 + 1 < w2.heap.size := by have := hb.size; simp at this; omega
  have hfresh : ∀ k, (Value.slice a2 l.length c2).ownBlock = some k → w.heap.size + 1 + 1 < k := fun k hk => by have := (ho.lt k hk).1; simp at this; omega
  have ho2 := hd (((ho.weaken (B' := w.heap.size) (by simp; omega)).kept (grownBy_setCell w2 ⟨w.heap.size + 1 + 1, 0, none⟩ (.slice a2 l.length c2)) (own_ne hfresh (by simp))).kept (grownBy_setCell _ ⟨w.heap.size + 1, 0, none⟩ (.slice a2 l.length c2)) (own_ne hfresh (by simp)))
  have hb2 := hd (((hb.allocL.allocL.allocL).setCell (p := ⟨w.heap.size + 1 + 1, 0, none⟩) (by simp; omega) (.slice a2 l.length c2)).setCell (p := ⟨w.heap.size + 1, 0, none⟩) (by simp) (.slice a2 l.length c2))
  clear ho hb hk hfresh
  go_wp2_with fail
  refine bodyPost_ret (v := .agg #[.slice a2 l.length c2]) (by simp [results, Try.results17, go_sem, q1]) rfl ⟨_, rfl, ho2.out, hb2.out⟩
theorem eqBox (l : List DSide) (v1 v2 : Value) (w : World) (hl : l.length ≤ 1000000000) (h1 : Sl w v1 2 (l.map DSide.enc)) (h2 : Sl w v2 2 (l.map DSide.enc)) :
    Calls Try.prog 19 #[.agg #[v1], .agg #[v2]] w (LawTrue w) := by
  have hk1 := hd h1
  have hk2 := hd h2
  obtain ⟨a1, c1, rfl, _⟩ := h1
  obtain ⟨a2, c2, rfl, _⟩ := h2
  simp only [List.length_map] at hk1 hk2 ⊢
  go_enter Try.func19, Try.ntmps19
  go_wp2_with fail
  refine (eqSideS l _ _ _ (by omega) (hk1.out.mono (below_a2 _)) (hk2.out.mono (below_a2 _))).mono ?_
  rintro e w2 ⟨rfl, hb⟩
  have hb := hd (hb.allocL.allocL)
  go_wp2_with fail
  go_ret
  exact ⟨rfl, hb.out⟩
section
variable {H : Type} {enc : TypeId × Value → H} {w : World} {spare : Nat → Bool} {held : Bool}
theorem elSide (n : Nat) (cs : List Value) (y : DataW H × List MemPlace) (h : DataW.trod enc Try.prog w 0 spare held n 132 cs = some y) : ∃ d : DSide, cs = d.enc ∧ d.ok := by
  have kc : Try.prog.cellsOf 132 = 2 := by kernel_rfl
  have ki : Try.prog.cellsOf 3 = 1 := by kernel_rfl


  obtain ⟨xs, m, _, _, hl, hlen, hf⟩ := DataW.trod_struct Try.underlying132 h
  rw [kc] at hl
  obtain ⟨c0, c1, rfl⟩ := list_len2 hl
  have g0 := field_one (c := c0) ki rfl rfl (hf 0 _ rfl)
  rw [List.getElem?_eq_getElem (by rw [hlen]; decide)] at g0
  obtain ⟨x0, rfl⟩ := int_cell Try.underlying3 g0
  have g1 := field_one (c := c1) ki rfl rfl (hf 1 _ rfl)
  rw [List.getElem?_eq_getElem (by rw [hlen]; decide)] at g1
  obtain ⟨x1, rfl⟩ := int_cell Try.underlying3 g1
  exact ⟨⟨x0, x1⟩, rfl, trivial⟩
theorem open_SideS {fuel : Nat} {cs : List Value} {x : DataW H × List MemPlace} (h : DataW.trod enc Try.prog w 0 spare held fuel 22 cs = some x) :
    ∃ (l : List DSide) (v : Value), cs = [v] ∧ l.length ≤ maxLen ∧ Sl w v 2 (l.map DSide.enc) ∧ ∀ d ∈ l, d.ok :=
  open_rows DSide.enc DSide.ok 2 (by decide) Try.underlying22 (by kernel_rfl) elSide h
theorem open_SideSv {r : Reach} {b0 : Nat} {v : Value} {d : DataW H} {p : List MemPlace} (hv : Value.okWide Try.prog w r b0 22 v) (h : DataW.Trod enc Try.prog w 0 spare held 22 v d p) :
    ∃ (l : List DSide), l.length ≤ maxLen ∧ Sl w v 2 (l.map DSide.enc) ∧ ∀ d ∈ l, d.ok := by
  obtain ⟨a, len, cap, rfl⟩ := okWide_slice Try.underlying22 hv
  obtain ⟨fuel, hf⟩ := h
  obtain ⟨l, v, hv, h3, h4, h5⟩ := open_SideS hf
  cases hv
  exact ⟨l, h3, h4, h5⟩
theorem open_Box {r : Reach} {b0 : Nat} {v : Value} {d : DataW H} {p : List MemPlace} (hv : Value.okWide Try.prog w r b0 24 v) (h : DataW.Trod enc Try.prog w 0 spare held 24 v d p) :
    ∃ (l : List DSide) (s : Value), v = .agg #[s] ∧ l.length ≤ maxLen ∧ Sl w s 2 (l.map DSide.enc) ∧ ∀ d ∈ l, d.ok := by
  obtain ⟨s, rfl⟩ := okWide_struct1 Try.underlying24 (by kernel_rfl) hv
  obtain ⟨fuel, hf⟩ := h
  obtain ⟨y, n, _, _, h1⟩ := trod_struct1 Try.underlying24 hf
  have h2 := field_one (c := s) (k := 1) (by kernel_rfl) rfl rfl h1
  obtain ⟨l, v, hv, h3, h4, h5⟩ := open_SideS h2
  cases hv
  exact ⟨l, s, rfl, h3, h4, h5⟩
end
end Go.Proofs.Ytaadjpdghikkmaa

/- The struct Instr as data; the laws' helpers on it (sz, to, eq), on slices of it, on Program (with Want, Test, Field, Fields, ReadM). -/
import Derived.Test.YtbjilpemckoioaaRows
import Derived.Test.YtbjilpemckoioaaBases
import Derived.Outline
import Derived.Deep.RegionHeld3
import Derived.Deep.Light
/- The struct Instr as data; the laws' helpers on it (sz, to, eq), on slices of it, on Program. -/
namespace Go.Proofs.Ytbjilpemckoioaa
open Go.RowKit Go.ChangeShapes Go.WideShapes
set_option linter.unusedVariables false
set_option maxRecDepth 100000

structure DInstr where
  code : Int
  kind : Int
  no : Int
  num : Int
  text : ByteArray
  to : Int
deriving Inhabited
def DInstr.enc (x : DInstr) : List Value := [.int .i64 x.code, .int .i64 x.kind, .int .i64 x.no, .int .i64 x.num, .string x.text, .int .i64 x.to]
theorem DInstr.enc_len (l : List DInstr) : ∀ r ∈ l.map DInstr.enc, r.length = 6 := by
  intro r hr; obtain ⟨x, _, rfl⟩ := List.mem_map.1 hr; rfl
theorem DInstr.row (l : List DInstr) (k : Nat) (h : k < l.length) : (l.map DInstr.enc)[k]? = some (l[k].enc) := by simp [h]
/-- What every value that can be read is: its strings are not longer than Go allows. -/
def DInstr.ok (x : DInstr) : Prop := x.text.size ≤ maxLen
set_option maxHeartbeats 400000 in
theorem eqInstr (x0 : Int) (x1 : Int) (x2 : Int) (x3 : Int) (x4 : ByteArray) (x5 : Int) (w : World) : Calls Try.prog 128 #[.agg #[.int .i64 x0, .int .i64 x1, .int .i64 x2, .int .i64 x3, .string x4, .int .i64 x5], .agg #[.int .i64 x0, .int .i64 x1, .int .i64 x2, .int .i64 x3, .string x4, .int .i64 x5]] w (LawTrue w) := by
  go_enter Try.func128, Try.ntmps128
  go_wp2
  go_ret
  exact ⟨rfl, below_a2 _⟩
theorem Cells.rowInstr {w : World} {b o : Nat} (l : List DInstr) (k : Nat) (h : k < l.length) (C : Cells w b o 6 (l.map DInstr.enc)) :
    w.cell? ⟨b, o + k * 6, none⟩ = some (.int .i64 l[k].code) ∧ w.cell? ⟨b, o + k * 6 + 1, none⟩ = some (.int .i64 l[k].kind) ∧ w.cell? ⟨b, o + k * 6 + 2, none⟩ = some (.int .i64 l[k].no) ∧ w.cell? ⟨b, o + k * 6 + 3, none⟩ = some (.int .i64 l[k].num) ∧ w.cell? ⟨b, o + k * 6 + 4, none⟩ = some (.string l[k].text) ∧ w.cell? ⟨b, o + k * 6 + 5, none⟩ = some (.int .i64 l[k].to) :=
  ⟨C.2 k _ (DInstr.row l k h) 0 _ rfl, C.2 k _ (DInstr.row l k h) 1 _ rfl, C.2 k _ (DInstr.row l k h) 2 _ rfl, C.2 k _ (DInstr.row l k h) 3 _ rfl, C.2 k _ (DInstr.row l k h) 4 _ rfl, C.2 k _ (DInstr.row l k h) 5 _ rfl⟩
set_option maxHeartbeats 800000 in
theorem eqInstrS (l : List DInstr) (v1 v2 : Value) (w : World) (hl : l.length ≤ 1000000000000) (h1 : Sl w v1 6 (l.map DInstr.enc)) (h2 : Sl w v2 6 (l.map DInstr.enc)) :
    Calls Try.prog 74 #[v1, v2] w (LawTrue w) := by
  rcases h1.open with ⟨a1, c1, rfl, hr⟩ | ⟨b1, o1, c1, rfl, hr, C1⟩
  · obtain ⟨a2, c2, rfl, _⟩ := h2
    obtain rfl : l = [] := by simpa using hr
    go_enter Try.func74, Try.ntmps74
    go_wp2
    go_loopw [5] (fun i wr => i = .int .i64 0 ∧ wr = w) (fun _ _ => 0)
    case atStart => exact ⟨rfl, rfl⟩
    case round =>
      obtain ⟨rfl, rfl⟩ := hrel
      go_wp2_with fail
      go_ret
      exact ⟨rfl, Below.refl _ _⟩
  · rcases h2.open with ⟨a2, c2, rfl, hr2⟩ | ⟨b2, o2, c2, rfl, _, C2⟩
    · exact absurd hr2 hr
    clear h1 h2
    simp only [List.length_map]
    go_enter Try.func74, Try.ntmps74
    go_wp2
    go_loopw [5] (fun i wr => ∃ k : Nat, k ≤ l.length ∧ i = .int .i64 k ∧ Hd (Below w.heap.size w wr)) (fun i _ => l.length - (intOf i).toNat)
    case atStart => exact ⟨0, Nat.zero_le _, rfl, Below.refl _ _⟩
    case round =>
      obtain ⟨k, hk, rfl, hbl⟩ := hrel
      by_cases hlt : k < l.length
      · obtain ⟨f0, f1, f2, f3, f4, f5⟩ := Cells.rowInstr l k hlt (C1.mono hbl.out)
        obtain ⟨g0, g1, g2, g3, g4, g5⟩ := Cells.rowInstr l k hlt (C2.mono hbl.out)
        go_wp2_with fail
        go_region_held3 (fun w' => w'.cell? ⟨b1, o1 + k * 6, none⟩ = some (.int .i64 l[k].code) ∧ w'.cell? ⟨b1, o1 + k * 6 + 1, none⟩ = some (.int .i64 l[k].kind) ∧ w'.cell? ⟨b1, o1 + k * 6 + 2, none⟩ = some (.int .i64 l[k].no) ∧ w'.cell? ⟨b1, o1 + k * 6 + 3, none⟩ = some (.int .i64 l[k].num) ∧ w'.cell? ⟨b1, o1 + k * 6 + 4, none⟩ = some (.string l[k].text) ∧ w'.cell? ⟨b1, o1 + k * 6 + 5, none⟩ = some (.int .i64 l[k].to) ∧ w'.cell? ⟨b2, o2 + k * 6, none⟩ = some (.int .i64 l[k].code) ∧ w'.cell? ⟨b2, o2 + k * 6 + 1, none⟩ = some (.int .i64 l[k].kind) ∧ w'.cell? ⟨b2, o2 + k * 6 + 2, none⟩ = some (.int .i64 l[k].no) ∧ w'.cell? ⟨b2, o2 + k * 6 + 3, none⟩ = some (.int .i64 l[k].num) ∧ w'.cell? ⟨b2, o2 + k * 6 + 4, none⟩ = some (.string l[k].text) ∧ w'.cell? ⟨b2, o2 + k * 6 + 5, none⟩ = some (.int .i64 l[k].to)) (first | go_keep | (go_split_ands; (repeat' apply And.intro) <;> exact keepCell hb (by assumption)))
          (first | (go_at_call 128; refine (eqInstr _ _ _ _ _ _ _).mono ?_; rintro e w' ⟨rfl, hb⟩))
        have hn := hd (hbl.out.next hb.drewL)
        clear hb
        go_wp2_with fail
        go_roundw
        case rel => exact ⟨k + 1, by omega, by go_num, hn⟩
        case measure => simp [intOf]; omega
      · go_wp2_with fail
        go_ret
        exact ⟨rfl, hbl.out⟩
set_option maxHeartbeats 400000 in
theorem toInstr (x0 : Int) (x1 : Int) (x2 : Int) (x3 : Int) (x4 : ByteArray) (x5 : Int) (w : World) : Calls Try.prog 122 #[.agg #[.int .i64 x0, .int .i64 x1, .int .i64 x2, .int .i64 x3, .string x4, .int .i64 x5]] w fun e w' => e = .returned (.agg #[.int .i64 x0, .int .i64 x1, .int .i64 x2, .int .i64 x3, .string x4, .int .i64 x5]) ∧ Below w.heap.size w w' := by
  go_enter Try.func122, Try.ntmps122
  go_wp2
  refine bodyPost_ret (v := .agg #[.int .i64 x0, .int .i64 x1, .int .i64 x2, .int .i64 x3, .string x4, .int .i64 x5]) (by simp [results, Try.results122, go_sem]) rfl ⟨rfl, ?_⟩
  exact below_a3 _
theorem infoInstr : (Try.prog.info? 119).map (fun i => (i.zero, i.size, i.bytes)) = some (some (.agg #[.int .i64 0, .int .i64 0, .int .i64 0, .int .i64 0, .string ⟨#[]⟩, .int .i64 0]), 6, 56) := by kernel_rfl
/-- What a copy made by the laws' helpers says: a new slice that reads as l. -/
def ToInstrPost (l : List DInstr) (w : World) (e : Ending) (w' : World) : Prop := ∃ v, e = .returned v ∧ Own w' w.heap.size 119 6 v (l.map DInstr.enc) ∧ Below w.heap.size w w'
set_option maxHeartbeats 800000 in
theorem toInstrS (l : List DInstr) (v1 : Value) (w : World) (hl : l.length ≤ 1000000000) (h1 : Sl w v1 6 (l.map DInstr.enc)) :
    Calls Try.prog 70 #[v1] w (ToInstrPost l w) := by
  obtain ⟨i0, hi, hz0, hz1, hz2⟩ := info_parts infoInstr
  have Hi := hd hi; have Hz0 := hd hz0; have Hz1 := hd hz1; have Hz2 := hd hz2
  have hby : i0.bytes * l.length ≤ 281474976710656 := by rw [hz2]; omega
  have hls := hd (DInstr.enc_len l)
  clear hi hz0 hz1 hz2
  rcases h1.open with ⟨a1, c1, rfl, hr⟩ | ⟨b1, o1, c1, rfl, hr, C1⟩
  · obtain rfl : l = [] := by simpa using hr
    go_enter Try.func70, Try.ntmps70
    go_wp2_with (at_make; refine wpList_make_full _ rfl (.tmp 6) (.tmp 6) 50 rfl w.heap.size 119 i0 _ 6 Try.underlying50 Hi.out Hz0.out Hz1.out .i64 .i64 _ _ 0 rfl rfl rfl rfl (by simp) (by decide) (Nat.le_refl _) ?_; intro w1 ho hg; have ho := hd ho; have hg := hd hg)
    go_loopw [4] (fun i wr => i = .int .i64 0 ∧ wr = w1) (fun _ _ => 0)
    case atStart => exact ⟨rfl, rfl⟩
    case round =>
      obtain ⟨rfl, rfl⟩ := hrel
      go_wp2_with fail
      go_ret
      exact ⟨_, rfl, ⟨by simp, _, ho.out, Pre.zero⟩, grownBy_below hg.out⟩
  · clear h1
    simp only [List.length_map]
    go_enter Try.func70, Try.ntmps70
    go_wp2_with (at_make; refine wpList_make_full _ rfl (.tmp 6) (.tmp 6) 50 rfl w.heap.size 119 i0 _ 6 Try.underlying50 Hi.out Hz0.out Hz1.out .i64 .i64 _ _ l.length rfl rfl rfl rfl hby (by unfold maxLen; omega) (Nat.le_refl _) ?_; intro w1 ho hg; have ho := hd ho; have hg := hd hg)
    go_loopw [4] (fun i wr => ∃ (k : Nat) (xs : List Value), k ≤ l.length ∧ i = .int .i64 k ∧ Hd (wr.ownsRow w.heap.size 119 6 (.slice (some ⟨w.heap.size, 0, none⟩) l.length l.length) l.length xs) ∧ Hd (Pre 6 k (l.map DInstr.enc) xs) ∧ Hd (Below w.heap.size w wr)) (fun i _ => l.length - (intOf i).toNat)
    case atStart => exact ⟨0, _, Nat.zero_le _, rfl, ho.out, Pre.zero, grownBy_below hg.out⟩
    case round =>
      obtain ⟨k, xs, hk, rfl, ho2, hp, hbl⟩ := hrel
      by_cases hlt : k < l.length
      · obtain ⟨f0, f1, f2, f3, f4, f5⟩ := Cells.rowInstr l k hlt (C1.mono hbl.out)
        go_wp2_with fail
        refine (toInstr _ _ _ _ _ _ _).mono ?_
        rintro e w2 ⟨rfl, hb⟩
        have hxl : xs.length = l.length * 6 := by have := ho2.out.1; exact this
        have ho3 := hd (ho2.out.kept (below_grownBy hb none) (.inr (by simp [Value.ownBlock])))
        have hb2 := hd (hbl.out.next hb)

        have q0 : w2.cell? ⟨w.heap.size, k * 6, none⟩ = some (xs[k * 6]'(by omega)) := by rw [ho3.out.cellAt _ (by omega)]; exact List.getElem?_eq_getElem (by omega)
        have r0 : w2.frozen? ⟨w.heap.size, k * 6, none⟩ = false := ho3.out.frozenAt _
        have q1 : w2.cell? ⟨w.heap.size, k * 6 + 1, none⟩ = some (xs[k * 6 + 1]'(by omega)) := by rw [ho3.out.cellAt _ (by omega)]; exact List.getElem?_eq_getElem (by omega)
        have r1 : w2.frozen? ⟨w.heap.size, k * 6 + 1, none⟩ = false := ho3.out.frozenAt _
        have q2 : w2.cell? ⟨w.heap.size, k * 6 + 2, none⟩ = some (xs[k * 6 + 2]'(by omega)) := by rw [ho3.out.cellAt _ (by omega)]; exact List.getElem?_eq_getElem (by omega)
        have r2 : w2.frozen? ⟨w.heap.size, k * 6 + 2, none⟩ = false := ho3.out.frozenAt _
        have q3 : w2.cell? ⟨w.heap.size, k * 6 + 3, none⟩ = some (xs[k * 6 + 3]'(by omega)) := by rw [ho3.out.cellAt _ (by omega)]; exact List.getElem?_eq_getElem (by omega)
        have r3 : w2.frozen? ⟨w.heap.size, k * 6 + 3, none⟩ = false := ho3.out.frozenAt _
        have q4 : w2.cell? ⟨w.heap.size, k * 6 + 4, none⟩ = some (xs[k * 6 + 4]'(by omega)) := by rw [ho3.out.cellAt _ (by omega)]; exact List.getElem?_eq_getElem (by omega)
        have r4 : w2.frozen? ⟨w.heap.size, k * 6 + 4, none⟩ = false := ho3.out.frozenAt _
        have q5 : w2.cell? ⟨w.heap.size, k * 6 + 5, none⟩ = some (xs[k * 6 + 5]'(by omega)) := by rw [ho3.out.cellAt _ (by omega)]; exact List.getElem?_eq_getElem (by omega)
        have r5 : w2.frozen? ⟨w.heap.size, k * 6 + 5, none⟩ = false := ho3.out.frozenAt _
        have hst := ownsRow_setCells (l[k]).enc _ _ (k * 6) ho3.out
        have hpp := hd (hp.out.step hls.out (DInstr.row l k hlt) (by omega))
        have hst1 := hd hst.1
        have hst2 := hd hst.2
        clear hst hb ho3
        go_wp2_with fail
        go_roundw
        case rel => exact ⟨k + 1, _, by omega, by go_num, hst1.out, hpp, hb2.out.grown hst2.out hb2.out.size (by intro j hj; cases hj; exact Nat.le_refl _)⟩
        case measure => simp [intOf]; omega
      · have : k = l.length := by omega
        subst this
        go_wp2_with fail
        go_ret
        refine ⟨_, rfl, ⟨hls.out, xs, ?_, ?_⟩, hbl.out⟩
        · rw [List.length_map]; exact ho2.out
        · rw [List.length_map]; exact hp.out
def Sz1InstrPost (n : Nat) (left : Int) (w : World) (e : Ending) (w' : World) : Prop :=
  ∃ r : Int, e = .returned (.int .i64 r) ∧ -1 ≤ r ∧ r ≤ left ∧ (0 ≤ r → (n : Int) + r ≤ left) ∧ Below w.heap.size w w'
theorem szInstr (x0 : Int) (x1 : Int) (x2 : Int) (x3 : Int) (x4 : ByteArray) (x5 : Int) (left : Int) (w : World) (hl0 : 0 ≤ left) (hl1 : left ≤ 1048576) (hs : x4.size ≤ maxLen) :
    Calls Try.prog 117 #[.agg #[.int .i64 x0, .int .i64 x1, .int .i64 x2, .int .i64 x3, .string x4, .int .i64 x5], .int .i64 left] w (Sz1InstrPost x4.size left w) := by
  unfold maxLen at hs
  by_cases hc : (x4.size : Int) ≤ left
  · go_enter Try.func117, Try.ntmps117
    go_wp2
    go_ret
    exact ⟨_, rfl, by omega, by omega, fun _ => by omega, below_a1 _⟩
  · go_enter Try.func117, Try.ntmps117
    go_wp2
    go_ret
    exact ⟨_, rfl, by omega, by omega, fun h => absurd h (by omega), below_a1 _⟩
/-- The strings of the first k. -/
def SmallInstr (left : Int) (k : Nat) (l : List DInstr) : Prop := ∀ i (h : i < l.length), i < k → (l[i].text.size : Int) ≤ left
def SzInstrPost (l : List DInstr) (left : Int) (w : World) (e : Ending) (w' : World) : Prop :=
  ∃ r : Int, e = .returned (.int .i64 r) ∧ -1 ≤ r ∧ r ≤ left ∧ (0 ≤ r → (l.length : Int) ≤ left ∧ SmallInstr left l.length l) ∧ Below w.heap.size w w'
set_option maxHeartbeats 800000 in
theorem szInstrS (l : List DInstr) (v1 : Value) (left : Int) (w : World) (hl0 : 0 ≤ left) (hl1 : left ≤ 1048576) (hl : l.length ≤ maxLen) (hok : ∀ x ∈ l, DInstr.ok x) (h1 : Sl w v1 6 (l.map DInstr.enc)) :
    Calls Try.prog 67 #[v1, .int .i64 left] w (SzInstrPost l left w) := by
  replace hok := hd hok
  unfold maxLen at hl
  by_cases hc : (l.length : Int) ≤ left
  · rcases h1.open with ⟨a1, c1, rfl, hr⟩ | ⟨b1, o1, c1, rfl, hr, C1⟩
    · obtain rfl : l = [] := by simpa using hr
      go_enter Try.func67, Try.ntmps67
      go_wp2
      go_loopw [1, 5] (fun r i wr => r = .int .i64 left ∧ i = .int .i64 0 ∧ wr = w) (fun _ _ _ => 0)
      case atStart => exact ⟨rfl, rfl, rfl⟩
      case round =>
        obtain ⟨rfl, rfl, rfl⟩ := hrel
        go_wp2_with fail
        go_ret
        exact ⟨left, rfl, by omega, by omega, fun _ => ⟨by simpa using hl0, fun i h => absurd h (by simp)⟩, Below.refl _ _⟩
    · clear h1
      simp only [List.length_map]
      go_enter Try.func67, Try.ntmps67
      go_wp2
      go_loopw [1, 5] (fun r i wr => ∃ (k : Nat) (q : Int), k ≤ l.length ∧ i = .int .i64 k ∧ r = .int .i64 q ∧ 0 ≤ q ∧ q ≤ left - l.length ∧ Hd (SmallInstr left k l) ∧ Hd (Below w.heap.size w wr)) (fun _ i _ => l.length - (intOf i).toNat)
      case atStart => exact ⟨0, left - l.length, Nat.zero_le _, rfl, rfl, by omega, by omega, fun i h h0 => absurd h0 (by omega), Below.refl _ _⟩
      case round =>
        obtain ⟨k, q, hk, rfl, rfl, hq0, hq1, hsm, hbl⟩ := hrel
        by_cases hlt : k < l.length
        · obtain ⟨f0, f1, f2, f3, f4, f5⟩ := Cells.rowInstr l k hlt (C1.mono hbl.out)
          have hsz := hok.out l[k] (List.getElem_mem hlt)
          go_wp2_with fail
          refine (szInstr _ _ _ _ _ _ q _ hq0 (by omega) hsz).mono ?_
          rintro e w2 ⟨r, rfl, hr0, hr1, hr2, hb⟩
          have hb2 := hd (hbl.out.next hb)
          clear hb hsz
          by_cases hneg : r < 0
          · go_wp2_with fail
            go_ret
            exact ⟨_, rfl, by omega, by omega, fun h => absurd h (by omega), hb2.out⟩
          · have hr3 := hr2 (by omega)
            go_wp2_with fail
            go_roundw
            case rel =>
              refine ⟨k + 1, r, by omega, by go_num, rfl, by omega, by omega, ?_, hb2⟩
              intro i h hi
              by_cases hik : i = k
              · subst hik; omega
              · exact hsm.out i h (by omega)
            case measure => simp [intOf]; omega
        · have : k = l.length := by omega
          subst this
          go_wp2_with fail
          go_ret
          exact ⟨_, rfl, by omega, by omega, fun _ => ⟨by omega, hsm.out⟩, hbl.out⟩
  · obtain ⟨a1, c1, rfl, _⟩ := h1
    simp only [List.length_map]
    go_enter Try.func67, Try.ntmps67
    go_wp2_with fail
    go_ret
    exact ⟨_, rfl, by omega, by omega, fun h => absurd h (by omega), Below.refl _ _⟩
theorem szProgram (l : List DInstr) (v1 : Value) (left : Int) (w : World) (hl0 : 0 ≤ left) (hl1 : left ≤ 1048576) (hl : l.length ≤ maxLen) (hok : ∀ x ∈ l, DInstr.ok x) (h1 : Sl w v1 6 (l.map DInstr.enc)) :
    Calls Try.prog 25 #[.agg #[v1], .int .i64 left] w (SzInstrPost l left w) := by
  have hk := hd h1
  replace hok := hd hok
  obtain ⟨a1, c1, rfl, _⟩ := h1
  simp only [List.length_map] at hk ⊢
  go_enter Try.func25, Try.ntmps25
  go_wp2_with fail
  refine (szInstrS l _ left _ hl0 hl1 hl hok.out (hk.out.mono (below_a1 _))).mono ?_
  rintro e w2 ⟨r, rfl, h2, h3, h4, hb⟩
  have hb := hd hb.allocL
  replace h4 := hd h4
  by_cases hn : r < 0
  · go_wp2_with fail
    go_ret
    exact ⟨_, rfl, by omega, by omega, fun h => absurd h (by omega), hb.out⟩
  · go_wp2_with fail
    go_ret
    exact ⟨_, rfl, by omega, by omega, h4.out, hb.out⟩
def ToProgramPost (l : List DInstr) (w : World) (e : Ending) (w' : World) : Prop := ∃ v, e = .returned (.agg #[v]) ∧ Own w' w.heap.size 119 6 v (l.map DInstr.enc) ∧ Below w.heap.size w w'
theorem toProgram (l : List DInstr) (v1 : Value) (w : World) (hl : l.length ≤ 1000000000) (h1 : Sl w v1 6 (l.map DInstr.enc)) :
    Calls Try.prog 27 #[.agg #[v1]] w (ToProgramPost l w) := by
  have hk := hd h1
  obtain ⟨a1, c1, rfl, _⟩ := h1
  simp only [List.length_map] at hk ⊢
  go_enter Try.func27, Try.ntmps27
  go_wp2_with fail
  refine (toInstrS l _ _ hl (hk.out.mono (below_a3 _))).mono ?_
  rintro e w2 ⟨v, rfl, ho, hb⟩
  obtain ⟨a2, c2, rfl, _⟩ := ho.sl
  rw [List.length_map] at ho ⊢
  have q1 : w2.cell? ⟨w.heap.size + 1, 0, none⟩ = some (.slice none 0 0) := by rw [hb.cell (by simp)]; go_simp
  have q2 : w2.cell? ⟨w.heap.size + 1 + 1, 0, none⟩ = some (.slice none 0 0) := by rw [hb.cell (by simp)]; go_simp
  have r1 : w2.frozen? ⟨w.heap.size + 1, 0, none⟩ = false := by rw [hb.frozen (by simp)]; go_simp
  have r2 : w2.frozen? ⟨w.heap.size + 1 + 1, 0, none⟩ = false := by rw [hb.frozen (by simp)]; go_simp
  have hz : w.heap.size + 1 + 1 < w2.heap.size := by have := hb.size; simp at this; omega
  have hfresh : ∀ k, (Value.slice a2 l.length c2).ownBlock = some k → w.heap.size + 1 + 1 < k := fun k hk => by have := (ho.lt k hk).1; simp at this; omega
  have ho2 := hd (((ho.weaken (B' := w.heap.size) (by simp; omega)).kept (grownBy_setCell w2 ⟨w.heap.size + 1 + 1, 0, none⟩ (.slice a2 l.length c2)) (own_ne hfresh (by simp))).kept (grownBy_setCell _ ⟨w.heap.size + 1, 0, none⟩ (.slice a2 l.length c2)) (own_ne hfresh (by simp)))
  have hb2 := hd (((hb.allocL.allocL.allocL).setCell (p := ⟨w.heap.size + 1 + 1, 0, none⟩) (by simp; omega) (.slice a2 l.length c2)).setCell (p := ⟨w.heap.size + 1, 0, none⟩) (by simp) (.slice a2 l.length c2))
  clear ho hb hk hfresh
  go_wp2_with fail
  refine bodyPost_ret (v := .agg #[.slice a2 l.length c2]) (by simp [results, Try.results27, go_sem, q1]) rfl ⟨_, rfl, ho2.out, hb2.out⟩
theorem eqProgram (l : List DInstr) (v1 v2 : Value) (w : World) (hl : l.length ≤ 1000000000) (h1 : Sl w v1 6 (l.map DInstr.enc)) (h2 : Sl w v2 6 (l.map DInstr.enc)) :
    Calls Try.prog 29 #[.agg #[v1], .agg #[v2]] w (LawTrue w) := by
  have hk1 := hd h1
  have hk2 := hd h2
  obtain ⟨a1, c1, rfl, _⟩ := h1
  obtain ⟨a2, c2, rfl, _⟩ := h2
  simp only [List.length_map] at hk1 hk2 ⊢
  go_enter Try.func29, Try.ntmps29
  go_wp2_with fail
  refine (eqInstrS l _ _ _ (by omega) (hk1.out.mono (below_a2 _)) (hk2.out.mono (below_a2 _))).mono ?_
  rintro e w2 ⟨rfl, hb⟩
  have hb := hd (hb.allocL.allocL)
  go_wp2_with fail
  go_ret
  exact ⟨rfl, hb.out⟩
section
variable {H : Type} {enc : TypeId × Value → H} {w : World} {spare : Nat → Bool} {held : Bool}
theorem elInstr (n : Nat) (cs : List Value) (y : DataW H × List MemPlace) (h : DataW.trod enc Try.prog w 0 spare held n 177 cs = some y) : ∃ d : DInstr, cs = d.enc ∧ d.ok := by
  have kc : Try.prog.cellsOf 177 = 6 := by kernel_rfl
  have ki : Try.prog.cellsOf 3 = 1 := by kernel_rfl
  have ks : Try.prog.cellsOf 9 = 1 := by kernel_rfl

  obtain ⟨xs, m, _, _, hl, hlen, hf⟩ := DataW.trod_struct Try.underlying177 h
  rw [kc] at hl
  obtain ⟨c0, c1, c2, c3, c4, c5, rfl⟩ := list_len6 hl
  have g0 := field_one (c := c0) ki rfl rfl (hf 0 _ rfl)
  rw [List.getElem?_eq_getElem (by rw [hlen]; decide)] at g0
  obtain ⟨x0, rfl⟩ := int_cell Try.underlying3 g0
  have g1 := field_one (c := c1) ki rfl rfl (hf 1 _ rfl)
  rw [List.getElem?_eq_getElem (by rw [hlen]; decide)] at g1
  obtain ⟨x1, rfl⟩ := int_cell Try.underlying3 g1
  have g2 := field_one (c := c2) ki rfl rfl (hf 2 _ rfl)
  rw [List.getElem?_eq_getElem (by rw [hlen]; decide)] at g2
  obtain ⟨x2, rfl⟩ := int_cell Try.underlying3 g2
  have g3 := field_one (c := c3) ki rfl rfl (hf 3 _ rfl)
  rw [List.getElem?_eq_getElem (by rw [hlen]; decide)] at g3
  obtain ⟨x3, rfl⟩ := int_cell Try.underlying3 g3
  have g4 := field_one (c := c4) ks rfl rfl (hf 4 _ rfl)
  rw [List.getElem?_eq_getElem (by rw [hlen]; decide)] at g4
  obtain ⟨x4, rfl, s4⟩ := string_cell Try.underlying9 g4
  have g5 := field_one (c := c5) ki rfl rfl (hf 5 _ rfl)
  rw [List.getElem?_eq_getElem (by rw [hlen]; decide)] at g5
  obtain ⟨x5, rfl⟩ := int_cell Try.underlying3 g5
  exact ⟨⟨x0, x1, x2, x3, x4, x5⟩, rfl, s4⟩
theorem open_InstrS {fuel : Nat} {cs : List Value} {x : DataW H × List MemPlace} (h : DataW.trod enc Try.prog w 0 spare held fuel 46 cs = some x) :
    ∃ (l : List DInstr) (v : Value), cs = [v] ∧ l.length ≤ maxLen ∧ Sl w v 6 (l.map DInstr.enc) ∧ ∀ d ∈ l, d.ok :=
  open_rows DInstr.enc DInstr.ok 6 (by decide) Try.underlying46 (by kernel_rfl) elInstr h
theorem open_InstrSv {r : Reach} {b0 : Nat} {v : Value} {d : DataW H} {p : List MemPlace} (hv : Value.okWide Try.prog w r b0 46 v) (h : DataW.Trod enc Try.prog w 0 spare held 46 v d p) :
    ∃ (l : List DInstr), l.length ≤ maxLen ∧ Sl w v 6 (l.map DInstr.enc) ∧ ∀ d ∈ l, d.ok := by
  obtain ⟨a, len, cap, rfl⟩ := okWide_slice Try.underlying46 hv
  obtain ⟨fuel, hf⟩ := h
  obtain ⟨l, v, hv, h3, h4, h5⟩ := open_InstrS hf
  cases hv
  exact ⟨l, h3, h4, h5⟩
theorem open_Program {r : Reach} {b0 : Nat} {v : Value} {d : DataW H} {p : List MemPlace} (hv : Value.okWide Try.prog w r b0 48 v) (h : DataW.Trod enc Try.prog w 0 spare held 48 v d p) :
    ∃ (l : List DInstr) (s : Value), v = .agg #[s] ∧ l.length ≤ maxLen ∧ Sl w s 6 (l.map DInstr.enc) ∧ ∀ d ∈ l, d.ok := by
  obtain ⟨s, rfl⟩ := okWide_struct1 Try.underlying48 (by kernel_rfl) hv
  obtain ⟨fuel, hf⟩ := h
  obtain ⟨y, n, _, _, h1⟩ := trod_struct1 Try.underlying48 hf
  have h2 := field_one (c := s) (k := 1) (by kernel_rfl) rfl rfl h1
  obtain ⟨l, v, hv, h3, h4, h5⟩ := open_InstrS h2
  cases hv
  exact ⟨l, s, rfl, h3, h4, h5⟩
end
end Go.Proofs.Ytbjilpemckoioaa
/- The struct Want as data; the laws' helpers on it (sz, to, eq), on slices of it, on Filter. -/
namespace Go.Proofs.Ytbjilpemckoioaa
open Go.RowKit Go.ChangeShapes Go.WideShapes
set_option linter.unusedVariables false
set_option maxRecDepth 100000

structure DWant where
  kind : Int
  no : Int
  num : Int
  text : ByteArray
  a : Int
  b : Int
deriving Inhabited
def DWant.enc (x : DWant) : List Value := [.int .i64 x.kind, .int .i64 x.no, .int .i64 x.num, .string x.text, .int .i64 x.a, .int .i64 x.b]
theorem DWant.enc_len (l : List DWant) : ∀ r ∈ l.map DWant.enc, r.length = 6 := by
  intro r hr; obtain ⟨x, _, rfl⟩ := List.mem_map.1 hr; rfl
theorem DWant.row (l : List DWant) (k : Nat) (h : k < l.length) : (l.map DWant.enc)[k]? = some (l[k].enc) := by simp [h]
/-- What every value that can be read is: its strings are not longer than Go allows. -/
def DWant.ok (x : DWant) : Prop := x.text.size ≤ maxLen
set_option maxHeartbeats 400000 in
theorem eqWant (x0 : Int) (x1 : Int) (x2 : Int) (x3 : ByteArray) (x4 : Int) (x5 : Int) (w : World) : Calls Try.prog 138 #[.agg #[.int .i64 x0, .int .i64 x1, .int .i64 x2, .string x3, .int .i64 x4, .int .i64 x5], .agg #[.int .i64 x0, .int .i64 x1, .int .i64 x2, .string x3, .int .i64 x4, .int .i64 x5]] w (LawTrue w) := by
  go_enter Try.func138, Try.ntmps138
  go_wp2
  go_ret
  exact ⟨rfl, below_a2 _⟩
theorem Cells.rowWant {w : World} {b o : Nat} (l : List DWant) (k : Nat) (h : k < l.length) (C : Cells w b o 6 (l.map DWant.enc)) :
    w.cell? ⟨b, o + k * 6, none⟩ = some (.int .i64 l[k].kind) ∧ w.cell? ⟨b, o + k * 6 + 1, none⟩ = some (.int .i64 l[k].no) ∧ w.cell? ⟨b, o + k * 6 + 2, none⟩ = some (.int .i64 l[k].num) ∧ w.cell? ⟨b, o + k * 6 + 3, none⟩ = some (.string l[k].text) ∧ w.cell? ⟨b, o + k * 6 + 4, none⟩ = some (.int .i64 l[k].a) ∧ w.cell? ⟨b, o + k * 6 + 5, none⟩ = some (.int .i64 l[k].b) :=
  ⟨C.2 k _ (DWant.row l k h) 0 _ rfl, C.2 k _ (DWant.row l k h) 1 _ rfl, C.2 k _ (DWant.row l k h) 2 _ rfl, C.2 k _ (DWant.row l k h) 3 _ rfl, C.2 k _ (DWant.row l k h) 4 _ rfl, C.2 k _ (DWant.row l k h) 5 _ rfl⟩
set_option maxHeartbeats 800000 in
theorem eqWantS (l : List DWant) (v1 v2 : Value) (w : World) (hl : l.length ≤ 1000000000000) (h1 : Sl w v1 6 (l.map DWant.enc)) (h2 : Sl w v2 6 (l.map DWant.enc)) :
    Calls Try.prog 84 #[v1, v2] w (LawTrue w) := by
  rcases h1.open with ⟨a1, c1, rfl, hr⟩ | ⟨b1, o1, c1, rfl, hr, C1⟩
  · obtain ⟨a2, c2, rfl, _⟩ := h2
    obtain rfl : l = [] := by simpa using hr
    go_enter Try.func84, Try.ntmps84
    go_wp2
    go_loopw [5] (fun i wr => i = .int .i64 0 ∧ wr = w) (fun _ _ => 0)
    case atStart => exact ⟨rfl, rfl⟩
    case round =>
      obtain ⟨rfl, rfl⟩ := hrel
      go_wp2_with fail
      go_ret
      exact ⟨rfl, Below.refl _ _⟩
  · rcases h2.open with ⟨a2, c2, rfl, hr2⟩ | ⟨b2, o2, c2, rfl, _, C2⟩
    · exact absurd hr2 hr
    clear h1 h2
    simp only [List.length_map]
    go_enter Try.func84, Try.ntmps84
    go_wp2
    go_loopw [5] (fun i wr => ∃ k : Nat, k ≤ l.length ∧ i = .int .i64 k ∧ Hd (Below w.heap.size w wr)) (fun i _ => l.length - (intOf i).toNat)
    case atStart => exact ⟨0, Nat.zero_le _, rfl, Below.refl _ _⟩
    case round =>
      obtain ⟨k, hk, rfl, hbl⟩ := hrel
      by_cases hlt : k < l.length
      · obtain ⟨f0, f1, f2, f3, f4, f5⟩ := Cells.rowWant l k hlt (C1.mono hbl.out)
        obtain ⟨g0, g1, g2, g3, g4, g5⟩ := Cells.rowWant l k hlt (C2.mono hbl.out)
        go_wp2_with fail
        go_region_held3 (fun w' => w'.cell? ⟨b1, o1 + k * 6, none⟩ = some (.int .i64 l[k].kind) ∧ w'.cell? ⟨b1, o1 + k * 6 + 1, none⟩ = some (.int .i64 l[k].no) ∧ w'.cell? ⟨b1, o1 + k * 6 + 2, none⟩ = some (.int .i64 l[k].num) ∧ w'.cell? ⟨b1, o1 + k * 6 + 3, none⟩ = some (.string l[k].text) ∧ w'.cell? ⟨b1, o1 + k * 6 + 4, none⟩ = some (.int .i64 l[k].a) ∧ w'.cell? ⟨b1, o1 + k * 6 + 5, none⟩ = some (.int .i64 l[k].b) ∧ w'.cell? ⟨b2, o2 + k * 6, none⟩ = some (.int .i64 l[k].kind) ∧ w'.cell? ⟨b2, o2 + k * 6 + 1, none⟩ = some (.int .i64 l[k].no) ∧ w'.cell? ⟨b2, o2 + k * 6 + 2, none⟩ = some (.int .i64 l[k].num) ∧ w'.cell? ⟨b2, o2 + k * 6 + 3, none⟩ = some (.string l[k].text) ∧ w'.cell? ⟨b2, o2 + k * 6 + 4, none⟩ = some (.int .i64 l[k].a) ∧ w'.cell? ⟨b2, o2 + k * 6 + 5, none⟩ = some (.int .i64 l[k].b)) (first | go_keep | (go_split_ands; (repeat' apply And.intro) <;> exact keepCell hb (by assumption)))
          (first | (go_at_call 138; refine (eqWant _ _ _ _ _ _ _).mono ?_; rintro e w' ⟨rfl, hb⟩))
        have hn := hd (hbl.out.next hb.drewL)
        clear hb
        go_wp2_with fail
        go_roundw
        case rel => exact ⟨k + 1, by omega, by go_num, hn⟩
        case measure => simp [intOf]; omega
      · go_wp2_with fail
        go_ret
        exact ⟨rfl, hbl.out⟩
set_option maxHeartbeats 400000 in
theorem toWant (x0 : Int) (x1 : Int) (x2 : Int) (x3 : ByteArray) (x4 : Int) (x5 : Int) (w : World) : Calls Try.prog 131 #[.agg #[.int .i64 x0, .int .i64 x1, .int .i64 x2, .string x3, .int .i64 x4, .int .i64 x5]] w fun e w' => e = .returned (.agg #[.int .i64 x0, .int .i64 x1, .int .i64 x2, .string x3, .int .i64 x4, .int .i64 x5]) ∧ Below w.heap.size w w' := by
  go_enter Try.func131, Try.ntmps131
  go_wp2
  refine bodyPost_ret (v := .agg #[.int .i64 x0, .int .i64 x1, .int .i64 x2, .string x3, .int .i64 x4, .int .i64 x5]) (by simp [results, Try.results131, go_sem]) rfl ⟨rfl, ?_⟩
  exact below_a3 _
theorem infoWant : (Try.prog.info? 125).map (fun i => (i.zero, i.size, i.bytes)) = some (some (.agg #[.int .i64 0, .int .i64 0, .int .i64 0, .string ⟨#[]⟩, .int .i64 0, .int .i64 0]), 6, 56) := by kernel_rfl
/-- What a copy made by the laws' helpers says: a new slice that reads as l. -/
def ToWantPost (l : List DWant) (w : World) (e : Ending) (w' : World) : Prop := ∃ v, e = .returned v ∧ Own w' w.heap.size 125 6 v (l.map DWant.enc) ∧ Below w.heap.size w w'
set_option maxHeartbeats 800000 in
theorem toWantS (l : List DWant) (v1 : Value) (w : World) (hl : l.length ≤ 1000000000) (h1 : Sl w v1 6 (l.map DWant.enc)) :
    Calls Try.prog 80 #[v1] w (ToWantPost l w) := by
  obtain ⟨i0, hi, hz0, hz1, hz2⟩ := info_parts infoWant
  have Hi := hd hi; have Hz0 := hd hz0; have Hz1 := hd hz1; have Hz2 := hd hz2
  have hby : i0.bytes * l.length ≤ 281474976710656 := by rw [hz2]; omega
  have hls := hd (DWant.enc_len l)
  clear hi hz0 hz1 hz2
  rcases h1.open with ⟨a1, c1, rfl, hr⟩ | ⟨b1, o1, c1, rfl, hr, C1⟩
  · obtain rfl : l = [] := by simpa using hr
    go_enter Try.func80, Try.ntmps80
    go_wp2_with (at_make; refine wpList_make_full _ rfl (.tmp 6) (.tmp 6) 66 rfl w.heap.size 125 i0 _ 6 Try.underlying66 Hi.out Hz0.out Hz1.out .i64 .i64 _ _ 0 rfl rfl rfl rfl (by simp) (by decide) (Nat.le_refl _) ?_; intro w1 ho hg; have ho := hd ho; have hg := hd hg)
    go_loopw [4] (fun i wr => i = .int .i64 0 ∧ wr = w1) (fun _ _ => 0)
    case atStart => exact ⟨rfl, rfl⟩
    case round =>
      obtain ⟨rfl, rfl⟩ := hrel
      go_wp2_with fail
      go_ret
      exact ⟨_, rfl, ⟨by simp, _, ho.out, Pre.zero⟩, grownBy_below hg.out⟩
  · clear h1
    simp only [List.length_map]
    go_enter Try.func80, Try.ntmps80
    go_wp2_with (at_make; refine wpList_make_full _ rfl (.tmp 6) (.tmp 6) 66 rfl w.heap.size 125 i0 _ 6 Try.underlying66 Hi.out Hz0.out Hz1.out .i64 .i64 _ _ l.length rfl rfl rfl rfl hby (by unfold maxLen; omega) (Nat.le_refl _) ?_; intro w1 ho hg; have ho := hd ho; have hg := hd hg)
    go_loopw [4] (fun i wr => ∃ (k : Nat) (xs : List Value), k ≤ l.length ∧ i = .int .i64 k ∧ Hd (wr.ownsRow w.heap.size 125 6 (.slice (some ⟨w.heap.size, 0, none⟩) l.length l.length) l.length xs) ∧ Hd (Pre 6 k (l.map DWant.enc) xs) ∧ Hd (Below w.heap.size w wr)) (fun i _ => l.length - (intOf i).toNat)
    case atStart => exact ⟨0, _, Nat.zero_le _, rfl, ho.out, Pre.zero, grownBy_below hg.out⟩
    case round =>
      obtain ⟨k, xs, hk, rfl, ho2, hp, hbl⟩ := hrel
      by_cases hlt : k < l.length
      · obtain ⟨f0, f1, f2, f3, f4, f5⟩ := Cells.rowWant l k hlt (C1.mono hbl.out)
        go_wp2_with fail
        refine (toWant _ _ _ _ _ _ _).mono ?_
        rintro e w2 ⟨rfl, hb⟩
        have hxl : xs.length = l.length * 6 := by have := ho2.out.1; exact this
        have ho3 := hd (ho2.out.kept (below_grownBy hb none) (.inr (by simp [Value.ownBlock])))
        have hb2 := hd (hbl.out.next hb)

        have q0 : w2.cell? ⟨w.heap.size, k * 6, none⟩ = some (xs[k * 6]'(by omega)) := by rw [ho3.out.cellAt _ (by omega)]; exact List.getElem?_eq_getElem (by omega)
        have r0 : w2.frozen? ⟨w.heap.size, k * 6, none⟩ = false := ho3.out.frozenAt _
        have q1 : w2.cell? ⟨w.heap.size, k * 6 + 1, none⟩ = some (xs[k * 6 + 1]'(by omega)) := by rw [ho3.out.cellAt _ (by omega)]; exact List.getElem?_eq_getElem (by omega)
        have r1 : w2.frozen? ⟨w.heap.size, k * 6 + 1, none⟩ = false := ho3.out.frozenAt _
        have q2 : w2.cell? ⟨w.heap.size, k * 6 + 2, none⟩ = some (xs[k * 6 + 2]'(by omega)) := by rw [ho3.out.cellAt _ (by omega)]; exact List.getElem?_eq_getElem (by omega)
        have r2 : w2.frozen? ⟨w.heap.size, k * 6 + 2, none⟩ = false := ho3.out.frozenAt _
        have q3 : w2.cell? ⟨w.heap.size, k * 6 + 3, none⟩ = some (xs[k * 6 + 3]'(by omega)) := by rw [ho3.out.cellAt _ (by omega)]; exact List.getElem?_eq_getElem (by omega)
        have r3 : w2.frozen? ⟨w.heap.size, k * 6 + 3, none⟩ = false := ho3.out.frozenAt _
        have q4 : w2.cell? ⟨w.heap.size, k * 6 + 4, none⟩ = some (xs[k * 6 + 4]'(by omega)) := by rw [ho3.out.cellAt _ (by omega)]; exact List.getElem?_eq_getElem (by omega)
        have r4 : w2.frozen? ⟨w.heap.size, k * 6 + 4, none⟩ = false := ho3.out.frozenAt _
        have q5 : w2.cell? ⟨w.heap.size, k * 6 + 5, none⟩ = some (xs[k * 6 + 5]'(by omega)) := by rw [ho3.out.cellAt _ (by omega)]; exact List.getElem?_eq_getElem (by omega)
        have r5 : w2.frozen? ⟨w.heap.size, k * 6 + 5, none⟩ = false := ho3.out.frozenAt _
        have hst := ownsRow_setCells (l[k]).enc _ _ (k * 6) ho3.out
        have hpp := hd (hp.out.step hls.out (DWant.row l k hlt) (by omega))
        have hst1 := hd hst.1
        have hst2 := hd hst.2
        clear hst hb ho3
        go_wp2_with fail
        go_roundw
        case rel => exact ⟨k + 1, _, by omega, by go_num, hst1.out, hpp, hb2.out.grown hst2.out hb2.out.size (by intro j hj; cases hj; exact Nat.le_refl _)⟩
        case measure => simp [intOf]; omega
      · have : k = l.length := by omega
        subst this
        go_wp2_with fail
        go_ret
        refine ⟨_, rfl, ⟨hls.out, xs, ?_, ?_⟩, hbl.out⟩
        · rw [List.length_map]; exact ho2.out
        · rw [List.length_map]; exact hp.out
def Sz1WantPost (n : Nat) (left : Int) (w : World) (e : Ending) (w' : World) : Prop :=
  ∃ r : Int, e = .returned (.int .i64 r) ∧ -1 ≤ r ∧ r ≤ left ∧ (0 ≤ r → (n : Int) + r ≤ left) ∧ Below w.heap.size w w'
theorem szWant (x0 : Int) (x1 : Int) (x2 : Int) (x3 : ByteArray) (x4 : Int) (x5 : Int) (left : Int) (w : World) (hl0 : 0 ≤ left) (hl1 : left ≤ 1048576) (hs : x3.size ≤ maxLen) :
    Calls Try.prog 129 #[.agg #[.int .i64 x0, .int .i64 x1, .int .i64 x2, .string x3, .int .i64 x4, .int .i64 x5], .int .i64 left] w (Sz1WantPost x3.size left w) := by
  unfold maxLen at hs
  by_cases hc : (x3.size : Int) ≤ left
  · go_enter Try.func129, Try.ntmps129
    go_wp2
    go_ret
    exact ⟨_, rfl, by omega, by omega, fun _ => by omega, below_a1 _⟩
  · go_enter Try.func129, Try.ntmps129
    go_wp2
    go_ret
    exact ⟨_, rfl, by omega, by omega, fun h => absurd h (by omega), below_a1 _⟩
/-- The strings of the first k. -/
def SmallWant (left : Int) (k : Nat) (l : List DWant) : Prop := ∀ i (h : i < l.length), i < k → (l[i].text.size : Int) ≤ left
def SzWantPost (l : List DWant) (left : Int) (w : World) (e : Ending) (w' : World) : Prop :=
  ∃ r : Int, e = .returned (.int .i64 r) ∧ -1 ≤ r ∧ r ≤ left ∧ (0 ≤ r → (l.length : Int) ≤ left ∧ SmallWant left l.length l) ∧ Below w.heap.size w w'
set_option maxHeartbeats 800000 in
theorem szWantS (l : List DWant) (v1 : Value) (left : Int) (w : World) (hl0 : 0 ≤ left) (hl1 : left ≤ 1048576) (hl : l.length ≤ maxLen) (hok : ∀ x ∈ l, DWant.ok x) (h1 : Sl w v1 6 (l.map DWant.enc)) :
    Calls Try.prog 77 #[v1, .int .i64 left] w (SzWantPost l left w) := by
  replace hok := hd hok
  unfold maxLen at hl
  by_cases hc : (l.length : Int) ≤ left
  · rcases h1.open with ⟨a1, c1, rfl, hr⟩ | ⟨b1, o1, c1, rfl, hr, C1⟩
    · obtain rfl : l = [] := by simpa using hr
      go_enter Try.func77, Try.ntmps77
      go_wp2
      go_loopw [1, 5] (fun r i wr => r = .int .i64 left ∧ i = .int .i64 0 ∧ wr = w) (fun _ _ _ => 0)
      case atStart => exact ⟨rfl, rfl, rfl⟩
      case round =>
        obtain ⟨rfl, rfl, rfl⟩ := hrel
        go_wp2_with fail
        go_ret
        exact ⟨left, rfl, by omega, by omega, fun _ => ⟨by simpa using hl0, fun i h => absurd h (by simp)⟩, Below.refl _ _⟩
    · clear h1
      simp only [List.length_map]
      go_enter Try.func77, Try.ntmps77
      go_wp2
      go_loopw [1, 5] (fun r i wr => ∃ (k : Nat) (q : Int), k ≤ l.length ∧ i = .int .i64 k ∧ r = .int .i64 q ∧ 0 ≤ q ∧ q ≤ left - l.length ∧ Hd (SmallWant left k l) ∧ Hd (Below w.heap.size w wr)) (fun _ i _ => l.length - (intOf i).toNat)
      case atStart => exact ⟨0, left - l.length, Nat.zero_le _, rfl, rfl, by omega, by omega, fun i h h0 => absurd h0 (by omega), Below.refl _ _⟩
      case round =>
        obtain ⟨k, q, hk, rfl, rfl, hq0, hq1, hsm, hbl⟩ := hrel
        by_cases hlt : k < l.length
        · obtain ⟨f0, f1, f2, f3, f4, f5⟩ := Cells.rowWant l k hlt (C1.mono hbl.out)
          have hsz := hok.out l[k] (List.getElem_mem hlt)
          go_wp2_with fail
          refine (szWant _ _ _ _ _ _ q _ hq0 (by omega) hsz).mono ?_
          rintro e w2 ⟨r, rfl, hr0, hr1, hr2, hb⟩
          have hb2 := hd (hbl.out.next hb)
          clear hb hsz
          by_cases hneg : r < 0
          · go_wp2_with fail
            go_ret
            exact ⟨_, rfl, by omega, by omega, fun h => absurd h (by omega), hb2.out⟩
          · have hr3 := hr2 (by omega)
            go_wp2_with fail
            go_roundw
            case rel =>
              refine ⟨k + 1, r, by omega, by go_num, rfl, by omega, by omega, ?_, hb2⟩
              intro i h hi
              by_cases hik : i = k
              · subst hik; omega
              · exact hsm.out i h (by omega)
            case measure => simp [intOf]; omega
        · have : k = l.length := by omega
          subst this
          go_wp2_with fail
          go_ret
          exact ⟨_, rfl, by omega, by omega, fun _ => ⟨by omega, hsm.out⟩, hbl.out⟩
  · obtain ⟨a1, c1, rfl, _⟩ := h1
    simp only [List.length_map]
    go_enter Try.func77, Try.ntmps77
    go_wp2_with fail
    go_ret
    exact ⟨_, rfl, by omega, by omega, fun h => absurd h (by omega), Below.refl _ _⟩
theorem szFilter (l : List DWant) (v1 : Value) (left : Int) (w : World) (hl0 : 0 ≤ left) (hl1 : left ≤ 1048576) (hl : l.length ≤ maxLen) (hok : ∀ x ∈ l, DWant.ok x) (h1 : Sl w v1 6 (l.map DWant.enc)) :
    Calls Try.prog 32 #[.agg #[v1], .int .i64 left] w (SzWantPost l left w) := by
  have hk := hd h1
  replace hok := hd hok
  obtain ⟨a1, c1, rfl, _⟩ := h1
  simp only [List.length_map] at hk ⊢
  go_enter Try.func32, Try.ntmps32
  go_wp2_with fail
  refine (szWantS l _ left _ hl0 hl1 hl hok.out (hk.out.mono (below_a1 _))).mono ?_
  rintro e w2 ⟨r, rfl, h2, h3, h4, hb⟩
  have hb := hd hb.allocL
  replace h4 := hd h4
  by_cases hn : r < 0
  · go_wp2_with fail
    go_ret
    exact ⟨_, rfl, by omega, by omega, fun h => absurd h (by omega), hb.out⟩
  · go_wp2_with fail
    go_ret
    exact ⟨_, rfl, by omega, by omega, h4.out, hb.out⟩
def ToFilterPost (l : List DWant) (w : World) (e : Ending) (w' : World) : Prop := ∃ v, e = .returned (.agg #[v]) ∧ Own w' w.heap.size 125 6 v (l.map DWant.enc) ∧ Below w.heap.size w w'
theorem toFilter (l : List DWant) (v1 : Value) (w : World) (hl : l.length ≤ 1000000000) (h1 : Sl w v1 6 (l.map DWant.enc)) :
    Calls Try.prog 34 #[.agg #[v1]] w (ToFilterPost l w) := by
  have hk := hd h1
  obtain ⟨a1, c1, rfl, _⟩ := h1
  simp only [List.length_map] at hk ⊢
  go_enter Try.func34, Try.ntmps34
  go_wp2_with fail
  refine (toWantS l _ _ hl (hk.out.mono (below_a3 _))).mono ?_
  rintro e w2 ⟨v, rfl, ho, hb⟩
  obtain ⟨a2, c2, rfl, _⟩ := ho.sl
  rw [List.length_map] at ho ⊢
  have q1 : w2.cell? ⟨w.heap.size + 1, 0, none⟩ = some (.slice none 0 0) := by rw [hb.cell (by simp)]; go_simp
  have q2 : w2.cell? ⟨w.heap.size + 1 + 1, 0, none⟩ = some (.slice none 0 0) := by rw [hb.cell (by simp)]; go_simp
  have r1 : w2.frozen? ⟨w.heap.size + 1, 0, none⟩ = false := by rw [hb.frozen (by simp)]; go_simp
  have r2 : w2.frozen? ⟨w.heap.size + 1 + 1, 0, none⟩ = false := by rw [hb.frozen (by simp)]; go_simp
  have hz : w.heap.size + 1 + 1 < w2.heap.size := by have := hb.size; simp at this; omega
  have hfresh : ∀ k, (Value.slice a2 l.length c2).ownBlock = some k → w.heap.size + 1 + 1 < k := fun k hk => by have := (ho.lt k hk).1; simp at this; omega
  have ho2 := hd (((ho.weaken (B' := w.heap.size) (by simp; omega)).kept (grownBy_setCell w2 ⟨w.heap.size + 1 + 1, 0, none⟩ (.slice a2 l.length c2)) (own_ne hfresh (by simp))).kept (grownBy_setCell _ ⟨w.heap.size + 1, 0, none⟩ (.slice a2 l.length c2)) (own_ne hfresh (by simp)))
  have hb2 := hd (((hb.allocL.allocL.allocL).setCell (p := ⟨w.heap.size + 1 + 1, 0, none⟩) (by simp; omega) (.slice a2 l.length c2)).setCell (p := ⟨w.heap.size + 1, 0, none⟩) (by simp) (.slice a2 l.length c2))
  clear ho hb hk hfresh
  go_wp2_with fail
  refine bodyPost_ret (v := .agg #[.slice a2 l.length c2]) (by simp [results, Try.results34, go_sem, q1]) rfl ⟨_, rfl, ho2.out, hb2.out⟩
theorem eqFilter (l : List DWant) (v1 v2 : Value) (w : World) (hl : l.length ≤ 1000000000) (h1 : Sl w v1 6 (l.map DWant.enc)) (h2 : Sl w v2 6 (l.map DWant.enc)) :
    Calls Try.prog 37 #[.agg #[v1], .agg #[v2]] w (LawTrue w) := by
  have hk1 := hd h1
  have hk2 := hd h2
  obtain ⟨a1, c1, rfl, _⟩ := h1
  obtain ⟨a2, c2, rfl, _⟩ := h2
  simp only [List.length_map] at hk1 hk2 ⊢
  go_enter Try.func37, Try.ntmps37
  go_wp2_with fail
  refine (eqWantS l _ _ _ (by omega) (hk1.out.mono (below_a2 _)) (hk2.out.mono (below_a2 _))).mono ?_
  rintro e w2 ⟨rfl, hb⟩
  have hb := hd (hb.allocL.allocL)
  go_wp2_with fail
  go_ret
  exact ⟨rfl, hb.out⟩
section
variable {H : Type} {enc : TypeId × Value → H} {w : World} {spare : Nat → Bool} {held : Bool}
theorem elWant (n : Nat) (cs : List Value) (y : DataW H × List MemPlace) (h : DataW.trod enc Try.prog w 0 spare held n 185 cs = some y) : ∃ d : DWant, cs = d.enc ∧ d.ok := by
  have kc : Try.prog.cellsOf 185 = 6 := by kernel_rfl
  have ki : Try.prog.cellsOf 3 = 1 := by kernel_rfl
  have ks : Try.prog.cellsOf 9 = 1 := by kernel_rfl

  obtain ⟨xs, m, _, _, hl, hlen, hf⟩ := DataW.trod_struct Try.underlying185 h
  rw [kc] at hl
  obtain ⟨c0, c1, c2, c3, c4, c5, rfl⟩ := list_len6 hl
  have g0 := field_one (c := c0) ki rfl rfl (hf 0 _ rfl)
  rw [List.getElem?_eq_getElem (by rw [hlen]; decide)] at g0
  obtain ⟨x0, rfl⟩ := int_cell Try.underlying3 g0
  have g1 := field_one (c := c1) ki rfl rfl (hf 1 _ rfl)
  rw [List.getElem?_eq_getElem (by rw [hlen]; decide)] at g1
  obtain ⟨x1, rfl⟩ := int_cell Try.underlying3 g1
  have g2 := field_one (c := c2) ki rfl rfl (hf 2 _ rfl)
  rw [List.getElem?_eq_getElem (by rw [hlen]; decide)] at g2
  obtain ⟨x2, rfl⟩ := int_cell Try.underlying3 g2
  have g3 := field_one (c := c3) ks rfl rfl (hf 3 _ rfl)
  rw [List.getElem?_eq_getElem (by rw [hlen]; decide)] at g3
  obtain ⟨x3, rfl, s3⟩ := string_cell Try.underlying9 g3
  have g4 := field_one (c := c4) ki rfl rfl (hf 4 _ rfl)
  rw [List.getElem?_eq_getElem (by rw [hlen]; decide)] at g4
  obtain ⟨x4, rfl⟩ := int_cell Try.underlying3 g4
  have g5 := field_one (c := c5) ki rfl rfl (hf 5 _ rfl)
  rw [List.getElem?_eq_getElem (by rw [hlen]; decide)] at g5
  obtain ⟨x5, rfl⟩ := int_cell Try.underlying3 g5
  exact ⟨⟨x0, x1, x2, x3, x4, x5⟩, rfl, s3⟩
theorem open_WantS {fuel : Nat} {cs : List Value} {x : DataW H × List MemPlace} (h : DataW.trod enc Try.prog w 0 spare held fuel 59 cs = some x) :
    ∃ (l : List DWant) (v : Value), cs = [v] ∧ l.length ≤ maxLen ∧ Sl w v 6 (l.map DWant.enc) ∧ ∀ d ∈ l, d.ok :=
  open_rows DWant.enc DWant.ok 6 (by decide) Try.underlying59 (by kernel_rfl) elWant h
theorem open_WantSv {r : Reach} {b0 : Nat} {v : Value} {d : DataW H} {p : List MemPlace} (hv : Value.okWide Try.prog w r b0 59 v) (h : DataW.Trod enc Try.prog w 0 spare held 59 v d p) :
    ∃ (l : List DWant), l.length ≤ maxLen ∧ Sl w v 6 (l.map DWant.enc) ∧ ∀ d ∈ l, d.ok := by
  obtain ⟨a, len, cap, rfl⟩ := okWide_slice Try.underlying59 hv
  obtain ⟨fuel, hf⟩ := h
  obtain ⟨l, v, hv, h3, h4, h5⟩ := open_WantS hf
  cases hv
  exact ⟨l, h3, h4, h5⟩
theorem open_Filter {r : Reach} {b0 : Nat} {v : Value} {d : DataW H} {p : List MemPlace} (hv : Value.okWide Try.prog w r b0 61 v) (h : DataW.Trod enc Try.prog w 0 spare held 61 v d p) :
    ∃ (l : List DWant) (s : Value), v = .agg #[s] ∧ l.length ≤ maxLen ∧ Sl w s 6 (l.map DWant.enc) ∧ ∀ d ∈ l, d.ok := by
  obtain ⟨s, rfl⟩ := okWide_struct1 Try.underlying61 (by kernel_rfl) hv
  obtain ⟨fuel, hf⟩ := h
  obtain ⟨y, n, _, _, h1⟩ := trod_struct1 Try.underlying61 hf
  have h2 := field_one (c := s) (k := 1) (by kernel_rfl) rfl rfl h1
  obtain ⟨l, v, hv, h3, h4, h5⟩ := open_WantS h2
  cases hv
  exact ⟨l, s, rfl, h3, h4, h5⟩
end
end Go.Proofs.Ytbjilpemckoioaa
/- testOK and wantOK, instrOK: what a test, a want, an instruction must be; of the program and of the reference. -/
namespace Go.Proofs.Ytbjilpemckoioaa
open Go.RowKit
set_option linter.unusedVariables false
set_option maxRecDepth 100000
def emptyS (s : ByteArray) : Bool := s.toList.isEmpty
def testB (kind num : Int) (text : ByteArray) : Bool :=
  if kind = 1 ∨ kind = 2 ∨ kind = 3 then numB num && emptyS text
  else if kind = 4 then decide (num = 0) && emptyS text
  else if kind = 5 then decide (num = 0) && decide ((text.size : Int) ≤ 30)
  else false
set_option maxHeartbeats 800000 in
theorem testOK_same (kind num : Int) (text : ByteArray) (w : World) : Calls Try.prog 155 #[.int .i64 kind, .int .i64 num, .string text] w fun e w' => e = .returned (.bool (testB kind num text)) ∧ w = w' := by
  have c1 := hd (fun w => numberOK_i num w)
  generalize hn : numB num = nb at *
  replace hn := hd hn
  go_enter Try.func155, Try.ntmps155
  go_wp2_with (go_at_call 185; refine (c1.out _).mono ?_; rintro e w' ⟨rfl, rfl⟩)
  all_goals go_ret
  all_goals refine ⟨ret_bool ?_, rfl⟩
  all_goals go_light
  all_goals replace hn := hn.out
  all_goals simp_all [testB, emptyS]
theorem testOK_i (kind num : Int) (text : ByteArray) (w : World) : Calls Try.prog 155 #[.int .i64 kind, .int .i64 num, .string text] w (BoolPost (testB kind num text) w) :=
  (testOK_same kind num text w).mono fun e w' h => ⟨h.1, h.2 ▸ Below.refl _ _⟩

def instrP (c k no nu : Int) (t : ByteArray) (to i n : Int) : Prop :=
  ((c = 5) ↔ (i = n - 1)) ∧
  ((c = 1 ∧ 1 ≤ no ∧ no ≤ 30 ∧ k = 0 ∧ nu = 0 ∧ emptyS t = true ∧ to = 0) ∨
   (c = 2 ∧ no = 0 ∧ to = 0 ∧ testB k nu t = true) ∨
   (c = 3 ∧ 0 ≤ nu ∧ nu ≤ 1 ∧ i + 1 ≤ to ∧ to ≤ n - 1 ∧ k = 0 ∧ no = 0 ∧ emptyS t = true) ∨
   ((c = 4 ∨ c = 5) ∧ k = 0 ∧ no = 0 ∧ nu = 0 ∧ emptyS t = true ∧ to = 0))
instance (c k no nu : Int) (t : ByteArray) (to i n : Int) : Decidable (instrP c k no nu t to i n) := by unfold instrP; infer_instance
def instrB (x : DInstr) (i n : Int) : Bool := decide (instrP x.code x.kind x.no x.num x.text x.to i n)
set_option maxHeartbeats 1600000 in
theorem instrOK_i (c k no nu : Int) (t : ByteArray) (to i n : Int) (w : World) (hi0 : 0 ≤ i) (hi1 : i ≤ 1000000) (hn0 : 1 ≤ n) (hn1 : n ≤ 1000000) :
    Calls Try.prog 124 #[.agg #[.int .i64 c, .int .i64 k, .int .i64 no, .int .i64 nu, .string t, .int .i64 to], .int .i64 i, .int .i64 n] w (BoolPost (decide (instrP c k no nu t to i n)) w) := by
  have c1 := hd (fun w => testOK_i k nu t w)
  by_cases h1 : c = 1
  · subst h1
    go_enter Try.func124, Try.ntmps124
    go_wp2_with (first | (go_at_call 123; refine (within_i _ _ _ _ _ rfl).mono ?_; rintro e w' ⟨rfl, rfl⟩) | (go_at_call 155; refine (c1.out _).mono ?_; rintro e w' ⟨rfl, hb⟩; replace hb := hd hb))
    all_goals go_ret
    all_goals refine ⟨ret_bool ?_, below_a1 _⟩
    all_goals go_light
    all_goals (rw [Bool.eq_iff_iff]; simp_all [instrP, emptyS]; try omega)
  by_cases h2 : c = 2
  · subst h2
    clear h1
    go_enter Try.func124, Try.ntmps124
    go_wp2_with (first | (go_at_call 123; refine (within_i _ _ _ _ _ rfl).mono ?_; rintro e w' ⟨rfl, rfl⟩) | (go_at_call 155; refine (c1.out _).mono ?_; rintro e w' ⟨rfl, hb⟩; replace hb := hd hb))
    all_goals go_ret
    all_goals refine ⟨ret_bool ?_, (by first | exact below_a1 _ | exact (below_a1 _).next hb.out)⟩
    all_goals go_light
    all_goals (rw [Bool.eq_iff_iff]; simp_all [instrP, emptyS]; try omega)
  by_cases h3 : c = 3
  · subst h3
    clear h1 h2
    go_enter Try.func124, Try.ntmps124
    go_wp2_with (first | (go_at_call 123; refine (within_i _ _ _ _ _ rfl).mono ?_; rintro e w' ⟨rfl, rfl⟩) | (go_at_call 155; refine (c1.out _).mono ?_; rintro e w' ⟨rfl, hb⟩; replace hb := hd hb))
    all_goals go_ret
    all_goals refine ⟨ret_bool ?_, below_a1 _⟩
    all_goals go_light
    all_goals (rw [Bool.eq_iff_iff]; simp_all [instrP, emptyS]; try omega)
  by_cases h4 : c = 4
  · subst h4
    clear h1 h2 h3
    go_enter Try.func124, Try.ntmps124
    go_wp2_with (first | (go_at_call 123; refine (within_i _ _ _ _ _ rfl).mono ?_; rintro e w' ⟨rfl, rfl⟩) | (go_at_call 155; refine (c1.out _).mono ?_; rintro e w' ⟨rfl, hb⟩; replace hb := hd hb))
    all_goals go_ret
    all_goals refine ⟨ret_bool ?_, below_a1 _⟩
    all_goals go_light
    all_goals (rw [Bool.eq_iff_iff]; simp_all [instrP, emptyS]; try omega)
  by_cases h5 : c = 5
  · subst h5
    clear h1 h2 h3 h4
    go_enter Try.func124, Try.ntmps124
    go_wp2_with (first | (go_at_call 123; refine (within_i _ _ _ _ _ rfl).mono ?_; rintro e w' ⟨rfl, rfl⟩) | (go_at_call 155; refine (c1.out _).mono ?_; rintro e w' ⟨rfl, hb⟩; replace hb := hd hb))
    all_goals go_ret
    all_goals refine ⟨ret_bool ?_, below_a1 _⟩
    all_goals go_light
    all_goals (rw [Bool.eq_iff_iff]; simp_all [instrP, emptyS]; try omega)
  · have g1 : (c == 1) = false := by simpa using h1
    have g2 : (c == 2) = false := by simpa using h2
    have g3 : (c == 3) = false := by simpa using h3
    have g4 : (c == 4) = false := by simpa using h4
    have g5 : (c == 5) = false := by simpa using h5
    clear h1 h2 h3 h4 h5
    go_enter Try.func124, Try.ntmps124
    go_wp2_with (first | (go_at_call 123; refine (within_i _ _ _ _ _ rfl).mono ?_; rintro e w' ⟨rfl, rfl⟩) | (go_at_call 155; refine (c1.out _).mono ?_; rintro e w' ⟨rfl, hb⟩; replace hb := hd hb))
    all_goals go_ret
    all_goals refine ⟨ret_bool ?_, below_a1 _⟩
    all_goals go_light
    all_goals (rw [Bool.eq_iff_iff]; simp_all [instrP, emptyS]; try omega)
end Go.Proofs.Ytbjilpemckoioaa
/- The struct Field as data; the laws' helpers on it (sz, to, eq), on slices of it. -/
namespace Go.Proofs.Ytbjilpemckoioaa
open Go.RowKit Go.ChangeShapes Go.WideShapes
set_option linter.unusedVariables false
set_option maxRecDepth 100000

structure DField where
  no : Int
  kind : Int
  num : Int
  data : ByteArray
deriving Inhabited
def DField.enc (x : DField) : List Value := [.int .i64 x.no, .int .i64 x.kind, .int .i64 x.num, .string x.data]
theorem DField.enc_len (l : List DField) : ∀ r ∈ l.map DField.enc, r.length = 4 := by
  intro r hr; obtain ⟨x, _, rfl⟩ := List.mem_map.1 hr; rfl
theorem DField.row (l : List DField) (k : Nat) (h : k < l.length) : (l.map DField.enc)[k]? = some (l[k].enc) := by simp [h]
/-- What every value that can be read is: its strings are not longer than Go allows. -/
def DField.ok (x : DField) : Prop := x.data.size ≤ maxLen
set_option maxHeartbeats 400000 in
theorem eqField (x0 : Int) (x1 : Int) (x2 : Int) (x3 : ByteArray) (w : World) : Calls Try.prog 105 #[.agg #[.int .i64 x0, .int .i64 x1, .int .i64 x2, .string x3], .agg #[.int .i64 x0, .int .i64 x1, .int .i64 x2, .string x3]] w (LawTrue w) := by
  go_enter Try.func105, Try.ntmps105
  go_wp2
  go_ret
  exact ⟨rfl, below_a2 _⟩
theorem Cells.rowField {w : World} {b o : Nat} (l : List DField) (k : Nat) (h : k < l.length) (C : Cells w b o 4 (l.map DField.enc)) :
    w.cell? ⟨b, o + k * 4, none⟩ = some (.int .i64 l[k].no) ∧ w.cell? ⟨b, o + k * 4 + 1, none⟩ = some (.int .i64 l[k].kind) ∧ w.cell? ⟨b, o + k * 4 + 2, none⟩ = some (.int .i64 l[k].num) ∧ w.cell? ⟨b, o + k * 4 + 3, none⟩ = some (.string l[k].data) :=
  ⟨C.2 k _ (DField.row l k h) 0 _ rfl, C.2 k _ (DField.row l k h) 1 _ rfl, C.2 k _ (DField.row l k h) 2 _ rfl, C.2 k _ (DField.row l k h) 3 _ rfl⟩
set_option maxHeartbeats 800000 in
theorem eqFieldS (l : List DField) (v1 v2 : Value) (w : World) (hl : l.length ≤ 1000000000000) (h1 : Sl w v1 4 (l.map DField.enc)) (h2 : Sl w v2 4 (l.map DField.enc)) :
    Calls Try.prog 48 #[v1, v2] w (LawTrue w) := by
  rcases h1.open with ⟨a1, c1, rfl, hr⟩ | ⟨b1, o1, c1, rfl, hr, C1⟩
  · obtain ⟨a2, c2, rfl, _⟩ := h2
    obtain rfl : l = [] := by simpa using hr
    go_enter Try.func48, Try.ntmps48
    go_wp2
    go_loopw [5] (fun i wr => i = .int .i64 0 ∧ wr = w) (fun _ _ => 0)
    case atStart => exact ⟨rfl, rfl⟩
    case round =>
      obtain ⟨rfl, rfl⟩ := hrel
      go_wp2_with fail
      go_ret
      exact ⟨rfl, Below.refl _ _⟩
  · rcases h2.open with ⟨a2, c2, rfl, hr2⟩ | ⟨b2, o2, c2, rfl, _, C2⟩
    · exact absurd hr2 hr
    clear h1 h2
    simp only [List.length_map]
    go_enter Try.func48, Try.ntmps48
    go_wp2
    go_loopw [5] (fun i wr => ∃ k : Nat, k ≤ l.length ∧ i = .int .i64 k ∧ Hd (Below w.heap.size w wr)) (fun i _ => l.length - (intOf i).toNat)
    case atStart => exact ⟨0, Nat.zero_le _, rfl, Below.refl _ _⟩
    case round =>
      obtain ⟨k, hk, rfl, hbl⟩ := hrel
      by_cases hlt : k < l.length
      · obtain ⟨f0, f1, f2, f3⟩ := Cells.rowField l k hlt (C1.mono hbl.out)
        obtain ⟨g0, g1, g2, g3⟩ := Cells.rowField l k hlt (C2.mono hbl.out)
        go_wp2_with fail
        go_region_held3 (fun w' => w'.cell? ⟨b1, o1 + k * 4, none⟩ = some (.int .i64 l[k].no) ∧ w'.cell? ⟨b1, o1 + k * 4 + 1, none⟩ = some (.int .i64 l[k].kind) ∧ w'.cell? ⟨b1, o1 + k * 4 + 2, none⟩ = some (.int .i64 l[k].num) ∧ w'.cell? ⟨b1, o1 + k * 4 + 3, none⟩ = some (.string l[k].data) ∧ w'.cell? ⟨b2, o2 + k * 4, none⟩ = some (.int .i64 l[k].no) ∧ w'.cell? ⟨b2, o2 + k * 4 + 1, none⟩ = some (.int .i64 l[k].kind) ∧ w'.cell? ⟨b2, o2 + k * 4 + 2, none⟩ = some (.int .i64 l[k].num) ∧ w'.cell? ⟨b2, o2 + k * 4 + 3, none⟩ = some (.string l[k].data)) (first | go_keep | (go_split_ands; (repeat' apply And.intro) <;> exact keepCell hb (by assumption)))
          (first | (go_at_call 105; refine (eqField _ _ _ _ _).mono ?_; rintro e w' ⟨rfl, hb⟩))
        have hn := hd (hbl.out.next hb.drewL)
        clear hb
        go_wp2_with fail
        go_roundw
        case rel => exact ⟨k + 1, by omega, by go_num, hn⟩
        case measure => simp [intOf]; omega
      · go_wp2_with fail
        go_ret
        exact ⟨rfl, hbl.out⟩
set_option maxHeartbeats 400000 in
theorem toField (x0 : Int) (x1 : Int) (x2 : Int) (x3 : ByteArray) (w : World) : Calls Try.prog 100 #[.agg #[.int .i64 x0, .int .i64 x1, .int .i64 x2, .string x3]] w fun e w' => e = .returned (.agg #[.int .i64 x0, .int .i64 x1, .int .i64 x2, .string x3]) ∧ Below w.heap.size w w' := by
  go_enter Try.func100, Try.ntmps100
  go_wp2
  refine bodyPost_ret (v := .agg #[.int .i64 x0, .int .i64 x1, .int .i64 x2, .string x3]) (by simp [results, Try.results100, go_sem]) rfl ⟨rfl, ?_⟩
  exact below_a3 _
theorem infoField : (Try.prog.info? 141).map (fun i => (i.zero, i.size, i.bytes)) = some (some (.agg #[.int .i64 0, .int .i64 0, .int .i64 0, .string ⟨#[]⟩]), 4, 40) := by kernel_rfl
/-- What a copy made by the laws' helpers says: a new slice that reads as l. -/
def ToFieldPost (l : List DField) (w : World) (e : Ending) (w' : World) : Prop := ∃ v, e = .returned v ∧ Own w' w.heap.size 141 4 v (l.map DField.enc) ∧ Below w.heap.size w w'
set_option maxHeartbeats 800000 in
theorem toFieldS (l : List DField) (v1 : Value) (w : World) (hl : l.length ≤ 1000000000) (h1 : Sl w v1 4 (l.map DField.enc)) :
    Calls Try.prog 46 #[v1] w (ToFieldPost l w) := by
  obtain ⟨i0, hi, hz0, hz1, hz2⟩ := info_parts infoField
  have Hi := hd hi; have Hz0 := hd hz0; have Hz1 := hd hz1; have Hz2 := hd hz2
  have hby : i0.bytes * l.length ≤ 281474976710656 := by rw [hz2]; omega
  have hls := hd (DField.enc_len l)
  clear hi hz0 hz1 hz2
  rcases h1.open with ⟨a1, c1, rfl, hr⟩ | ⟨b1, o1, c1, rfl, hr, C1⟩
  · obtain rfl : l = [] := by simpa using hr
    go_enter Try.func46, Try.ntmps46
    go_wp2_with (at_make; refine wpList_make_full _ rfl (.tmp 6) (.tmp 6) 81 rfl w.heap.size 141 i0 _ 4 Try.underlying81 Hi.out Hz0.out Hz1.out .i64 .i64 _ _ 0 rfl rfl rfl rfl (by simp) (by decide) (Nat.le_refl _) ?_; intro w1 ho hg; have ho := hd ho; have hg := hd hg)
    go_loopw [4] (fun i wr => i = .int .i64 0 ∧ wr = w1) (fun _ _ => 0)
    case atStart => exact ⟨rfl, rfl⟩
    case round =>
      obtain ⟨rfl, rfl⟩ := hrel
      go_wp2_with fail
      go_ret
      exact ⟨_, rfl, ⟨by simp, _, ho.out, Pre.zero⟩, grownBy_below hg.out⟩
  · clear h1
    simp only [List.length_map]
    go_enter Try.func46, Try.ntmps46
    go_wp2_with (at_make; refine wpList_make_full _ rfl (.tmp 6) (.tmp 6) 81 rfl w.heap.size 141 i0 _ 4 Try.underlying81 Hi.out Hz0.out Hz1.out .i64 .i64 _ _ l.length rfl rfl rfl rfl hby (by unfold maxLen; omega) (Nat.le_refl _) ?_; intro w1 ho hg; have ho := hd ho; have hg := hd hg)
    go_loopw [4] (fun i wr => ∃ (k : Nat) (xs : List Value), k ≤ l.length ∧ i = .int .i64 k ∧ Hd (wr.ownsRow w.heap.size 141 4 (.slice (some ⟨w.heap.size, 0, none⟩) l.length l.length) l.length xs) ∧ Hd (Pre 4 k (l.map DField.enc) xs) ∧ Hd (Below w.heap.size w wr)) (fun i _ => l.length - (intOf i).toNat)
    case atStart => exact ⟨0, _, Nat.zero_le _, rfl, ho.out, Pre.zero, grownBy_below hg.out⟩
    case round =>
      obtain ⟨k, xs, hk, rfl, ho2, hp, hbl⟩ := hrel
      by_cases hlt : k < l.length
      · obtain ⟨f0, f1, f2, f3⟩ := Cells.rowField l k hlt (C1.mono hbl.out)
        go_wp2_with fail
        refine (toField _ _ _ _ _).mono ?_
        rintro e w2 ⟨rfl, hb⟩
        have hxl : xs.length = l.length * 4 := by have := ho2.out.1; exact this
        have ho3 := hd (ho2.out.kept (below_grownBy hb none) (.inr (by simp [Value.ownBlock])))
        have hb2 := hd (hbl.out.next hb)

        have q0 : w2.cell? ⟨w.heap.size, k * 4, none⟩ = some (xs[k * 4]'(by omega)) := by rw [ho3.out.cellAt _ (by omega)]; exact List.getElem?_eq_getElem (by omega)
        have r0 : w2.frozen? ⟨w.heap.size, k * 4, none⟩ = false := ho3.out.frozenAt _
        have q1 : w2.cell? ⟨w.heap.size, k * 4 + 1, none⟩ = some (xs[k * 4 + 1]'(by omega)) := by rw [ho3.out.cellAt _ (by omega)]; exact List.getElem?_eq_getElem (by omega)
        have r1 : w2.frozen? ⟨w.heap.size, k * 4 + 1, none⟩ = false := ho3.out.frozenAt _
        have q2 : w2.cell? ⟨w.heap.size, k * 4 + 2, none⟩ = some (xs[k * 4 + 2]'(by omega)) := by rw [ho3.out.cellAt _ (by omega)]; exact List.getElem?_eq_getElem (by omega)
        have r2 : w2.frozen? ⟨w.heap.size, k * 4 + 2, none⟩ = false := ho3.out.frozenAt _
        have q3 : w2.cell? ⟨w.heap.size, k * 4 + 3, none⟩ = some (xs[k * 4 + 3]'(by omega)) := by rw [ho3.out.cellAt _ (by omega)]; exact List.getElem?_eq_getElem (by omega)
        have r3 : w2.frozen? ⟨w.heap.size, k * 4 + 3, none⟩ = false := ho3.out.frozenAt _
        have hst := ownsRow_setCells (l[k]).enc _ _ (k * 4) ho3.out
        have hpp := hd (hp.out.step hls.out (DField.row l k hlt) (by omega))
        have hst1 := hd hst.1
        have hst2 := hd hst.2
        clear hst hb ho3
        go_wp2_with fail
        go_roundw
        case rel => exact ⟨k + 1, _, by omega, by go_num, hst1.out, hpp, hb2.out.grown hst2.out hb2.out.size (by intro j hj; cases hj; exact Nat.le_refl _)⟩
        case measure => simp [intOf]; omega
      · have : k = l.length := by omega
        subst this
        go_wp2_with fail
        go_ret
        refine ⟨_, rfl, ⟨hls.out, xs, ?_, ?_⟩, hbl.out⟩
        · rw [List.length_map]; exact ho2.out
        · rw [List.length_map]; exact hp.out
def Sz1FieldPost (n : Nat) (left : Int) (w : World) (e : Ending) (w' : World) : Prop :=
  ∃ r : Int, e = .returned (.int .i64 r) ∧ -1 ≤ r ∧ r ≤ left ∧ (0 ≤ r → (n : Int) + r ≤ left) ∧ Below w.heap.size w w'
theorem szField (x0 : Int) (x1 : Int) (x2 : Int) (x3 : ByteArray) (left : Int) (w : World) (hl0 : 0 ≤ left) (hl1 : left ≤ 1048576) (hs : x3.size ≤ maxLen) :
    Calls Try.prog 98 #[.agg #[.int .i64 x0, .int .i64 x1, .int .i64 x2, .string x3], .int .i64 left] w (Sz1FieldPost x3.size left w) := by
  unfold maxLen at hs
  by_cases hc : (x3.size : Int) ≤ left
  · go_enter Try.func98, Try.ntmps98
    go_wp2
    go_ret
    exact ⟨_, rfl, by omega, by omega, fun _ => by omega, below_a1 _⟩
  · go_enter Try.func98, Try.ntmps98
    go_wp2
    go_ret
    exact ⟨_, rfl, by omega, by omega, fun h => absurd h (by omega), below_a1 _⟩
/-- The strings of the first k. -/
def SmallField (left : Int) (k : Nat) (l : List DField) : Prop := ∀ i (h : i < l.length), i < k → (l[i].data.size : Int) ≤ left
def SzFieldPost (l : List DField) (left : Int) (w : World) (e : Ending) (w' : World) : Prop :=
  ∃ r : Int, e = .returned (.int .i64 r) ∧ -1 ≤ r ∧ r ≤ left ∧ (0 ≤ r → (l.length : Int) ≤ left ∧ SmallField left l.length l) ∧ Below w.heap.size w w'
set_option maxHeartbeats 800000 in
theorem szFieldS (l : List DField) (v1 : Value) (left : Int) (w : World) (hl0 : 0 ≤ left) (hl1 : left ≤ 1048576) (hl : l.length ≤ maxLen) (hok : ∀ x ∈ l, DField.ok x) (h1 : Sl w v1 4 (l.map DField.enc)) :
    Calls Try.prog 44 #[v1, .int .i64 left] w (SzFieldPost l left w) := by
  replace hok := hd hok
  unfold maxLen at hl
  by_cases hc : (l.length : Int) ≤ left
  · rcases h1.open with ⟨a1, c1, rfl, hr⟩ | ⟨b1, o1, c1, rfl, hr, C1⟩
    · obtain rfl : l = [] := by simpa using hr
      go_enter Try.func44, Try.ntmps44
      go_wp2
      go_loopw [1, 5] (fun r i wr => r = .int .i64 left ∧ i = .int .i64 0 ∧ wr = w) (fun _ _ _ => 0)
      case atStart => exact ⟨rfl, rfl, rfl⟩
      case round =>
        obtain ⟨rfl, rfl, rfl⟩ := hrel
        go_wp2_with fail
        go_ret
        exact ⟨left, rfl, by omega, by omega, fun _ => ⟨by simpa using hl0, fun i h => absurd h (by simp)⟩, Below.refl _ _⟩
    · clear h1
      simp only [List.length_map]
      go_enter Try.func44, Try.ntmps44
      go_wp2
      go_loopw [1, 5] (fun r i wr => ∃ (k : Nat) (q : Int), k ≤ l.length ∧ i = .int .i64 k ∧ r = .int .i64 q ∧ 0 ≤ q ∧ q ≤ left - l.length ∧ Hd (SmallField left k l) ∧ Hd (Below w.heap.size w wr)) (fun _ i _ => l.length - (intOf i).toNat)
      case atStart => exact ⟨0, left - l.length, Nat.zero_le _, rfl, rfl, by omega, by omega, fun i h h0 => absurd h0 (by omega), Below.refl _ _⟩
      case round =>
        obtain ⟨k, q, hk, rfl, rfl, hq0, hq1, hsm, hbl⟩ := hrel
        by_cases hlt : k < l.length
        · obtain ⟨f0, f1, f2, f3⟩ := Cells.rowField l k hlt (C1.mono hbl.out)
          have hsz := hok.out l[k] (List.getElem_mem hlt)
          go_wp2_with fail
          refine (szField _ _ _ _ q _ hq0 (by omega) hsz).mono ?_
          rintro e w2 ⟨r, rfl, hr0, hr1, hr2, hb⟩
          have hb2 := hd (hbl.out.next hb)
          clear hb hsz
          by_cases hneg : r < 0
          · go_wp2_with fail
            go_ret
            exact ⟨_, rfl, by omega, by omega, fun h => absurd h (by omega), hb2.out⟩
          · have hr3 := hr2 (by omega)
            go_wp2_with fail
            go_roundw
            case rel =>
              refine ⟨k + 1, r, by omega, by go_num, rfl, by omega, by omega, ?_, hb2⟩
              intro i h hi
              by_cases hik : i = k
              · subst hik; omega
              · exact hsm.out i h (by omega)
            case measure => simp [intOf]; omega
        · have : k = l.length := by omega
          subst this
          go_wp2_with fail
          go_ret
          exact ⟨_, rfl, by omega, by omega, fun _ => ⟨by omega, hsm.out⟩, hbl.out⟩
  · obtain ⟨a1, c1, rfl, _⟩ := h1
    simp only [List.length_map]
    go_enter Try.func44, Try.ntmps44
    go_wp2_with fail
    go_ret
    exact ⟨_, rfl, by omega, by omega, fun h => absurd h (by omega), Below.refl _ _⟩
section
variable {H : Type} {enc : TypeId × Value → H} {w : World} {spare : Nat → Bool} {held : Bool}
theorem elField (n : Nat) (cs : List Value) (y : DataW H × List MemPlace) (h : DataW.trod enc Try.prog w 0 spare held n 149 cs = some y) : ∃ d : DField, cs = d.enc ∧ d.ok := by
  have kc : Try.prog.cellsOf 149 = 4 := by kernel_rfl
  have ki : Try.prog.cellsOf 3 = 1 := by kernel_rfl
  have ks : Try.prog.cellsOf 9 = 1 := by kernel_rfl

  obtain ⟨xs, m, _, _, hl, hlen, hf⟩ := DataW.trod_struct Try.underlying149 h
  rw [kc] at hl
  obtain ⟨c0, c1, c2, c3, rfl⟩ := list_len4 hl
  have g0 := field_one (c := c0) ki rfl rfl (hf 0 _ rfl)
  rw [List.getElem?_eq_getElem (by rw [hlen]; decide)] at g0
  obtain ⟨x0, rfl⟩ := int_cell Try.underlying3 g0
  have g1 := field_one (c := c1) ki rfl rfl (hf 1 _ rfl)
  rw [List.getElem?_eq_getElem (by rw [hlen]; decide)] at g1
  obtain ⟨x1, rfl⟩ := int_cell Try.underlying3 g1
  have g2 := field_one (c := c2) ki rfl rfl (hf 2 _ rfl)
  rw [List.getElem?_eq_getElem (by rw [hlen]; decide)] at g2
  obtain ⟨x2, rfl⟩ := int_cell Try.underlying3 g2
  have g3 := field_one (c := c3) ks rfl rfl (hf 3 _ rfl)
  rw [List.getElem?_eq_getElem (by rw [hlen]; decide)] at g3
  obtain ⟨x3, rfl, s3⟩ := string_cell Try.underlying9 g3
  exact ⟨⟨x0, x1, x2, x3⟩, rfl, s3⟩
theorem open_FieldS {fuel : Nat} {cs : List Value} {x : DataW H × List MemPlace} (h : DataW.trod enc Try.prog w 0 spare held fuel 79 cs = some x) :
    ∃ (l : List DField) (v : Value), cs = [v] ∧ l.length ≤ maxLen ∧ Sl w v 4 (l.map DField.enc) ∧ ∀ d ∈ l, d.ok :=
  open_rows DField.enc DField.ok 4 (by decide) Try.underlying79 (by kernel_rfl) elField h
theorem open_FieldSv {r : Reach} {b0 : Nat} {v : Value} {d : DataW H} {p : List MemPlace} (hv : Value.okWide Try.prog w r b0 79 v) (h : DataW.Trod enc Try.prog w 0 spare held 79 v d p) :
    ∃ (l : List DField), l.length ≤ maxLen ∧ Sl w v 4 (l.map DField.enc) ∧ ∀ d ∈ l, d.ok := by
  obtain ⟨a, len, cap, rfl⟩ := okWide_slice Try.underlying79 hv
  obtain ⟨fuel, hf⟩ := h
  obtain ⟨l, v, hv, h3, h4, h5⟩ := open_FieldS hf
  cases hv
  exact ⟨l, h3, h4, h5⟩
end
end Go.Proofs.Ytbjilpemckoioaa
/- What a field must be, and its bytes: of the program and of the reference. -/
namespace Go.Proofs.Ytbjilpemckoioaa
open Go.RowKit
set_option linter.unusedVariables false
set_option maxRecDepth 100000

def fieldB (x : DField) : Bool := decide (1 ≤ x.no ∧ x.no ≤ 30) && (if x.kind = 0 then numB x.num && emptyS x.data else if x.kind = 2 then decide (x.num = 0) else false)
set_option maxHeartbeats 1600000 in
theorem fieldOK_i (x : DField) (w : World) (b : Bool) (hb : fieldB x = b) : Calls Try.prog 150 #[.agg #[.int .i64 x.no, .int .i64 x.kind, .int .i64 x.num, .string x.data]] w (BoolPost b w) := by
  obtain ⟨no, kind, num, data⟩ := x
  subst hb
  have c1 := hd (fun w => numberOK_i num w)
  generalize hn : numB num = nb at *
  replace hn := hd hn
  go_enter Try.func150, Try.ntmps150
  go_wp2_with (first | (go_at_call 123; refine (within_i _ _ _ _ _ rfl).mono ?_; rintro e w' ⟨rfl, rfl⟩) | (go_at_call 185; refine (c1.out _).mono ?_; rintro e w' ⟨rfl, rfl⟩))
  all_goals go_ret
  all_goals refine ⟨ret_bool ?_, below_a1 _⟩
  all_goals go_light
  all_goals replace hn := hn.out
  all_goals (rw [Bool.eq_iff_iff]; simp_all [fieldB, emptyS]; try omega)
set_option maxHeartbeats 1600000 in
theorem field_s (x : DField) (w : World) (b : Bool) (hb : fieldB x = b) : Calls Try.prog 99 #[.agg #[.int .i64 x.no, .int .i64 x.kind, .int .i64 x.num, .string x.data]] w (BoolPost b w) := by
  obtain ⟨no, kind, num, data⟩ := x
  subst hb
  have c1 := hd (fun w => number_s num w)
  generalize hn : numB num = nb at *
  replace hn := hd hn
  go_enter Try.func99, Try.ntmps99
  go_wp2_with (first | (go_at_call 118; refine (within_s _ _ _ _ _ rfl).mono ?_; rintro e w' ⟨rfl, rfl⟩) | (go_at_call 147; refine (c1.out _).mono ?_; rintro e w' ⟨rfl, rfl⟩))
  all_goals go_ret
  all_goals refine ⟨ret_bool ?_, below_a1 _⟩
  all_goals go_light
  all_goals replace hn := hn.out
  all_goals (rw [Bool.eq_iff_iff]; simp_all [fieldB, emptyS]; try omega)
def fieldBad (x : DField) : Bool := !fieldB x
theorem fieldCl (x : DField) (w : World) : Calls Try.prog 149 #[.agg #[.int .i64 x.no, .int .i64 x.kind, .int .i64 x.num, .string x.data]] w (BoolPost (fieldBad x) w) := by
  have c1 := hd (fun w => fieldOK_i x w _ rfl)
  have hs := hd (show fieldBad x = !fieldB x from rfl)
  generalize fieldB x = q at *
  go_enter Try.func149, Try.ntmps149
  go_wp2_with fail
  refine (c1.out _).mono ?_
  rintro e w1 ⟨rfl, hb⟩
  have hB := hd ((below_a1 w).next hb)
  clear hb
  go_wp2_with fail
  go_ret
  exact ⟨by rw [hs.out]; rfl, hB.out⟩
set_option maxHeartbeats 800000 in
theorem ix_fldCl (p : DField → Bool) (l : List DField) (v : Value) (w : World) (hl : l.length ≤ 1000000000000) (h : Sl w v 4 (l.map DField.enc))
    (hp : ∀ x ∈ l, ∀ w', Below w.heap.size w w' → Calls Try.prog 149 #[.agg #[.int .i64 x.no, .int .i64 x.kind, .int .i64 x.num, .string x.data]] w' (BoolPost (p x) w')) :
    Calls Try.prog 184 #[v, .func (.func 149) #[] #[]] w (IntPost (fidx p l) w) := by
  replace hp := hd hp
  rcases h.open with ⟨a1, c1, rfl, hr⟩ | ⟨b1, o1, c1, rfl, hr, C1⟩
  · obtain rfl : l = [] := by simpa using hr
    go_enter Try.func184, Try.ntmps184
    go_wp2
    go_loopw [8] (fun i wr => i = .int .i64 0 ∧ wr = w) (fun _ _ => 0)
    case atStart => exact ⟨rfl, rfl⟩
    case round =>
      obtain ⟨rfl, rfl⟩ := hrel
      go_wp2_with fail
      go_ret
      exact ⟨rfl, Below.refl _ _⟩
  · clear h
    simp only [List.length_map]
    go_enter Try.func184, Try.ntmps184
    go_wp2
    go_loopw [8] (fun i wr => ∃ k : Nat, k ≤ l.length ∧ i = .int .i64 k ∧ Hd (fidx_from p l k) ∧ Hd (Below w.heap.size w wr)) (fun i _ => l.length - (intOf i).toNat)
    case atStart => exact ⟨0, Nat.zero_le _, rfl, fidx_zero p l, Below.refl _ _⟩
    case round =>
      obtain ⟨k, hk, rfl, hfx, hbl⟩ := hrel
      by_cases hlt : k < l.length
      · obtain ⟨f0, f1, f2, f3⟩ := Cells.rowField l k hlt (C1.mono hbl.out)
        cases hpx : p l[k] with
        | true =>
          replace hpx := hd hpx
          go_wp2_with fail
          refine (hp.out l[k] (List.getElem_mem hlt) _ hbl.out).mono ?_
          rw [hpx.out]
          rintro e w2 ⟨rfl, hb⟩
          have hb2 := hd (hbl.out.next hb)
          clear hb
          go_wp2_with fail
          go_ret
          exact ⟨ret_int (fidx_hit hlt hfx.out hpx.out).symm, hb2.out⟩
        | false =>
          replace hpx := hd hpx
          go_wp2_with fail
          refine (hp.out l[k] (List.getElem_mem hlt) _ hbl.out).mono ?_
          rw [hpx.out]
          rintro e w2 ⟨rfl, hb⟩
          have hb2 := hd (hbl.out.next hb)
          clear hb
          go_wp2_with fail
          go_roundw
          case rel => exact ⟨k + 1, by omega, by go_num, fidx_step hlt hfx.out hpx.out, hb2⟩
          case measure => simp [intOf]; omega
      · go_wp2_with fail
        go_ret
        exact ⟨ret_int (fidx_none (by omega) hfx.out).symm, hbl.out⟩
set_option maxHeartbeats 400000 in
theorem cf_fldCl (p : DField → Bool) (l : List DField) (v : Value) (w : World) (hl : l.length ≤ 1000000000000) (h : Sl w v 4 (l.map DField.enc))
    (hp : ∀ x ∈ l, ∀ w', Below w.heap.size w w' → Calls Try.prog 149 #[.agg #[.int .i64 x.no, .int .i64 x.kind, .int .i64 x.num, .string x.data]] w' (BoolPost (p x) w')) (b : Bool) (hb : l.any p = b) :
    Calls Try.prog 148 #[v, .func (.func 149) #[] #[]] w (BoolPost b w) := by
  have hc := hd (fun w' (hb : Below w.heap.size w w') => ix_fldCl p l v w' hl (h.mono hb) (fun x hx w2 h2 => hp x hx w2 (hb.next h2)))
  have hany := hd hb
  have hany2 := fidx_any p l
  rw [hb] at hany2
  generalize fidx p l = r at hc hany2
  clear h hp hb
  cases b with
  | true =>
    have h0 : 0 ≤ r := hany2.2 rfl
    clear hany2
    go_enter Try.func148, Try.ntmps148
    go_wp2_with fail
    refine (hc.out _ (Below.refl _ _)).mono ?_
    rintro e w2 ⟨rfl, hb⟩
    replace hb := hd hb
    go_wp2_with fail
    go_ret
    exact ⟨rfl, hb.out⟩
  | false =>
    have h0 : decide (0 ≤ r) = false := by have := mt hany2.1 (by simp); simp; omega
    clear hany2
    go_enter Try.func148, Try.ntmps148
    go_wp2_with fail
    refine (hc.out _ (Below.refl _ _)).mono ?_
    rintro e w2 ⟨rfl, hb⟩
    replace hb := hd hb
    go_wp2_with fail
    go_ret
    exact ⟨rfl, hb.out⟩
def fieldsB (l : List DField) : Bool := decide (l.length ≤ 40) && !l.any fieldBad
theorem fieldsOK_i (l : List DField) (v : Value) (w : World) (hl : l.length ≤ 1000000000000) (h : Sl w v 4 (l.map DField.enc)) (b : Bool) (hb : fieldsB l = b) : Calls Try.prog 101 #[v] w (BoolPost b w) := by
  have hS := hd h
  obtain ⟨a1, c1, rfl, _⟩ := h
  simp only [List.length_map] at hS ⊢
  by_cases hn : l.length ≤ 40
  · obtain ⟨p, hp⟩ : ∃ p, l.any fieldBad = p := ⟨_, rfl⟩
    have hres := hd (show b = !p by rw [← hb, fieldsB, hp]; simp [hn])
    have hnI : (l.length : Int) ≤ 40 := by omega
    clear hb
    replace hp := hd hp
    go_enter Try.func101, Try.ntmps101
    go_wp2_with fail
    refine (cf_fldCl fieldBad l _ _ hl hS.out (fun x _ w' _ => fieldCl x w') p hp.out).mono ?_
    rintro e w1 ⟨rfl, hb1⟩
    replace hb1 := hd hb1
    go_wp2_with fail
    go_ret
    exact ⟨by rw [hres.out]; rfl, hb1.out⟩
  · have hres := hd (show b = false by rw [← hb, fieldsB]; simp; omega)
    have hnI : ¬ (l.length : Int) ≤ 40 := by omega
    clear hb
    go_enter Try.func101, Try.ntmps101
    go_wp2_with fail
    go_ret
    exact ⟨by rw [hres.out]; rfl, Below.refl _ _⟩
end Go.Proofs.Ytbjilpemckoioaa
/- Reading fields off bytes: plain. -/
namespace Go.Proofs.Ytbjilpemckoioaa
set_option linter.unusedVariables false

structure DPlaced where
  f : DField
  at_ : Int
deriving Inhabited
def DPlaced.enc (x : DPlaced) : List Value := [.int .i64 x.f.no, .int .i64 x.f.kind, .int .i64 x.f.num, .string x.f.data, .int .i64 x.at_]
theorem DPlaced.enc_len (l : List DPlaced) : ∀ r ∈ l.map DPlaced.enc, r.length = 5 := by
  intro r hr; obtain ⟨x, _, rfl⟩ := List.mem_map.1 hr; rfl
theorem DPlaced.enc_one (l : List DPlaced) : ∀ u ∈ (l.map DPlaced.enc).flatten, u.oneCell' = true := by
  intro u hu
  obtain ⟨r, hr, hu⟩ := List.mem_flatten.1 hu
  obtain ⟨x, _, rfl⟩ := List.mem_map.1 hr
  simp only [DPlaced.enc, List.mem_cons, List.not_mem_nil, or_false] at hu
  rcases hu with rfl | rfl | rfl | rfl | rfl <;> rfl
/-- A length and so many bytes. -/
def tb (l : List UInt8) (a : Nat) : List UInt8 × Nat × Bool :=
  if (tkI l a).2.2 = true ∧ (tkI l a).1 + (tkI l a).2.1 ≤ l.length then ((l.drop (tkI l a).2.1).take (tkI l a).1, (tkI l a).2.1 + (tkI l a).1, true) else ([], 0, false)
def fieldAt (l : List UInt8) (a : Nat) : DField :=
  if (tkI l a).1 % 8 = 2 then ⟨((tkI l a).1 / 8 : Nat), 2, 0, mkS (tb l (tkI l a).2.1).1⟩
  else ⟨((tkI l a).1 / 8 : Nat), ((tkI l a).1 % 8 : Nat), unf (tkI l (tkI l a).2.1).1, ⟨#[]⟩⟩
def fieldOkAt (l : List UInt8) (a : Nat) : Bool :=
  (tkI l a).2.2 && (if (tkI l a).1 % 8 = 2 then (tb l (tkI l a).2.1).2.2 else (tkI l (tkI l a).2.1).2.2) && fieldB (fieldAt l a)
def fieldEnd (l : List UInt8) (a : Nat) : Nat := if (tkI l a).1 % 8 = 2 then (tb l (tkI l a).2.1).2.1 else (tkI l (tkI l a).2.1).2.1
theorem tb_ok {l : List UInt8} {a : Nat} (h : (tb l a).2.2 = true) : (tkI l a).2.2 = true ∧ (tkI l a).1 + (tkI l a).2.1 ≤ l.length ∧ tb l a = ((l.drop (tkI l a).2.1).take (tkI l a).1, (tkI l a).2.1 + (tkI l a).1, true) := by
  by_cases hc : (tkI l a).2.2 = true ∧ (tkI l a).1 + (tkI l a).2.1 ≤ l.length
  · exact ⟨hc.1, hc.2, by rw [tb, if_pos hc]⟩
  · rw [tb, if_neg hc] at h; cases h
theorem tb_bad {l : List UInt8} {a : Nat} (h : ¬ ((tkI l a).2.2 = true ∧ (tkI l a).1 + (tkI l a).2.1 ≤ l.length)) : tb l a = ([], 0, false) := by rw [tb, if_neg h]
theorem fieldEnd_bd {l : List UInt8} {a : Nat} (h : fieldOkAt l a = true) : a < fieldEnd l a ∧ fieldEnd l a ≤ l.length := by
  simp only [fieldOkAt, Bool.and_eq_true] at h
  have h1 := (tkI_bd l a).2 h.1.1
  by_cases h2 : (tkI l a).1 % 8 = 2
  · have h3 := h.1.2
    rw [if_pos h2] at h3
    obtain ⟨h4, h5, h6⟩ := tb_ok h3
    have h7 := (tkI_bd l (tkI l a).2.1).2 h4
    rw [fieldEnd, if_pos h2, h6]
    dsimp only; omega
  · have h3 := h.1.2
    rw [if_neg h2] at h3
    have h7 := (tkI_bd l (tkI l a).2.1).2 h3
    rw [fieldEnd, if_neg h2]; omega
/-- The fields from a place on, onto those that were read. -/
def readF (l : List UInt8) : Nat → Nat → List DPlaced → Option (List DPlaced)
  | 0, _, _ => none
  | n + 1, a, acc => if a < l.length then (if fieldOkAt l a = true ∧ acc.length ≠ 40 then readF l n (fieldEnd l a) (acc ++ [⟨fieldAt l a, (a : Nat)⟩]) else none) else some acc
def readP (l : List UInt8) : Option (List DPlaced) := if l.length ≤ 400 then readF l (l.length + 1) 0 [] else none
def readB (l : List UInt8) : Bool := (readP l).isSome
def readL (l : List UInt8) : List DPlaced := (readP l).getD []
theorem readF_len {l : List UInt8} : ∀ n a acc r, acc.length ≤ 40 → readF l n a acc = some r → r.length ≤ 40 := by
  intro n
  induction n with
  | zero => intro a acc r _ h; cases h
  | succ n ih =>
    intro a acc r hl h
    rw [readF] at h
    split at h
    · split at h
      · rename_i h2
        exact ih _ _ _ (by simp; omega) h
      · cases h
    · cases h; exact hl
theorem readL_len (l : List UInt8) : (readL l).length ≤ 40 := by
  rw [readL, readP]
  split
  · cases h : readF l (l.length + 1) 0 [] with
    | none => simp
    | some r => exact readF_len _ _ _ _ (by simp) h
  · simp
theorem unf_fin {n : Nat} (h : n ≤ 2000000001) : -1000000001 ≤ unf n ∧ unf n ≤ 1000000001 := by unfold unf; split <;> omega
end Go.Proofs.Ytbjilpemckoioaa

/- Boxes: GoodBox, covers, has, of the program and of the reference. -/
import Derived.Test.YtaadjpdghikkmaaSide
import Derived.Test.YtaadjpdghikkmaaWire
import Derived.BigQuiet
import Derived.Deep.QuietTactic
import Derived.Deep.Cut
namespace Go.Proofs.Ytaadjpdghikkmaa
open Go.RowKit
set_option linter.unusedVariables false
set_option maxRecDepth 100000

def sideBad (s : DSide) : Bool := decide (s.lo < -1000) || decide (s.hi < s.lo) || decide (1000 < s.hi)
def goodBox (l : List DSide) : Bool := (l.length == 3) && !l.any sideBad
theorem goodBox_cl (x : DSide) (w : World) : Calls Try.prog 63 #[.agg #[.int .i64 x.lo, .int .i64 x.hi]] w (BoolPost (sideBad x) w) := by
  by_cases h1 : x.lo < -1000
  · have hs := hd (show sideBad x = true by simp [sideBad, h1])
    go_enter Try.func63, Try.ntmps63
    go_wp2
    go_ret
    exact ⟨by rw [hs.out]; rfl, below_a1 _⟩
  · by_cases h2 : x.hi < x.lo
    · have hs := hd (show sideBad x = true by simp [sideBad, h2])
      go_enter Try.func63, Try.ntmps63
      go_wp2
      go_ret
      exact ⟨by rw [hs.out]; rfl, below_a1 _⟩
    · by_cases h3 : 1000 < x.hi
      · have hs := hd (show sideBad x = true by simp [sideBad, h3])
        go_enter Try.func63, Try.ntmps63
        go_wp2
        go_ret
        exact ⟨by rw [hs.out]; rfl, below_a1 _⟩
      · have hs := hd (show sideBad x = false by simp [sideBad]; omega)
        go_enter Try.func63, Try.ntmps63
        go_wp2
        go_ret
        exact ⟨by rw [hs.out]; rfl, below_a1 _⟩
set_option maxHeartbeats 800000 in
theorem ix_boxCl (p : DSide → Bool) (l : List DSide) (v : Value) (w : World) (hl : l.length ≤ 1000000000000) (h : Sl w v 2 (l.map DSide.enc))
    (hp : ∀ x ∈ l, ∀ w', Below w.heap.size w w' → Calls Try.prog 63 #[.agg #[.int .i64 x.lo, .int .i64 x.hi]] w' (BoolPost (p x) w')) :
    Calls Try.prog 108 #[v, .func (.func 63) #[] #[]] w (IntPost (fidx p l) w) := by
  replace hp := hd hp
  rcases h.open with ⟨a1, c1, rfl, hr⟩ | ⟨b1, o1, c1, rfl, hr, C1⟩
  · obtain rfl : l = [] := by simpa using hr
    go_enter Try.func108, Try.ntmps108
    go_wp2
    go_loopw [8] (fun i wr => i = .int .i64 0 ∧ wr = w) (fun _ _ => 0)
    case atStart => exact ⟨rfl, rfl⟩
    case round =>
      obtain ⟨rfl, rfl⟩ := hrel
      go_wp2_with fail
      go_ret
      exact ⟨rfl, Below.refl _ _⟩
  · clear h
    simp only [List.length_map]
    go_enter Try.func108, Try.ntmps108
    go_wp2
    go_loopw [8] (fun i wr => ∃ k : Nat, k ≤ l.length ∧ i = .int .i64 k ∧ Hd (fidx_from p l k) ∧ Hd (Below w.heap.size w wr)) (fun i _ => l.length - (intOf i).toNat)
    case atStart => exact ⟨0, Nat.zero_le _, rfl, fidx_zero p l, Below.refl _ _⟩
    case round =>
      obtain ⟨k, hk, rfl, hfx, hbl⟩ := hrel
      by_cases hlt : k < l.length
      · obtain ⟨f0, f1⟩ := Cells.rowSide l k hlt (C1.mono hbl.out)
        cases hpx : p l[k] with
        | true =>
          replace hpx := hd hpx
          go_wp2_with fail
          refine (hp.out l[k] (List.getElem_mem hlt) _ hbl.out).mono ?_
          rw [hpx.out]
          rintro e w2 ⟨rfl, hb⟩
          have hb2 := hd (hbl.out.next hb)
          clear hb
          go_wp2_with fail
          go_ret
          exact ⟨ret_int (fidx_hit hlt hfx.out hpx.out).symm, hb2.out⟩
        | false =>
          replace hpx := hd hpx
          go_wp2_with fail
          refine (hp.out l[k] (List.getElem_mem hlt) _ hbl.out).mono ?_
          rw [hpx.out]
          rintro e w2 ⟨rfl, hb⟩
          have hb2 := hd (hbl.out.next hb)
          clear hb
          go_wp2_with fail
          go_roundw
          case rel => exact ⟨k + 1, by omega, by go_num, fidx_step hlt hfx.out hpx.out, hb2⟩
          case measure => simp [intOf]; omega
      · go_wp2_with fail
        go_ret
        exact ⟨ret_int (fidx_none (by omega) hfx.out).symm, hbl.out⟩
set_option maxHeartbeats 400000 in
theorem cf_boxCl (p : DSide → Bool) (l : List DSide) (v : Value) (w : World) (hl : l.length ≤ 1000000000000) (h : Sl w v 2 (l.map DSide.enc))
    (hp : ∀ x ∈ l, ∀ w', Below w.heap.size w w' → Calls Try.prog 63 #[.agg #[.int .i64 x.lo, .int .i64 x.hi]] w' (BoolPost (p x) w')) (b : Bool) (hb : l.any p = b) :
    Calls Try.prog 62 #[v, .func (.func 63) #[] #[]] w (BoolPost b w) := by
  have hc := hd (fun w' (hb : Below w.heap.size w w') => ix_boxCl p l v w' hl (h.mono hb) (fun x hx w2 h2 => hp x hx w2 (hb.next h2)))
  have hany := hd hb
  have hany2 := fidx_any p l
  rw [hb] at hany2
  generalize fidx p l = r at hc hany2
  clear h hp hb
  cases b with
  | true =>
    have h0 : 0 ≤ r := hany2.2 rfl
    clear hany2
    go_enter Try.func62, Try.ntmps62
    go_wp2_with fail
    refine (hc.out _ (Below.refl _ _)).mono ?_
    rintro e w2 ⟨rfl, hb⟩
    replace hb := hd hb
    go_wp2_with fail
    go_ret
    exact ⟨rfl, hb.out⟩
  | false =>
    have h0 : decide (0 ≤ r) = false := by have := mt hany2.1 (by simp); simp; omega
    clear hany2
    go_enter Try.func62, Try.ntmps62
    go_wp2_with fail
    refine (hc.out _ (Below.refl _ _)).mono ?_
    rintro e w2 ⟨rfl, hb⟩
    replace hb := hd hb
    go_wp2_with fail
    go_ret
    exact ⟨rfl, hb.out⟩

theorem len_lt_of_sl {w : World} {v : Value} {sz : Nat} {rows : List (List Value)} (h : Sl w v sz rows) : ∃ a c, v = .slice a rows.length c := by
  obtain ⟨a, c, h, _⟩ := h; exact ⟨a, c, h⟩

set_option maxHeartbeats 400000 in
theorem GoodBox_i (l : List DSide) (v : Value) (w : World) (hl : l.length ≤ 1000000000000) (h : Sl w v 2 (l.map DSide.enc)) (b : Bool) (hb : goodBox l = b) :
    Calls Try.prog 18 #[.agg #[v]] w (BoolPost b w) := by
  have hk := hd h
  obtain ⟨a, c, rfl, _⟩ := h
  simp only [List.length_map] at hk ⊢
  by_cases h3 : l.length = 3
  · have hany := hd (show l.any sideBad = !b by rw [← hb, goodBox, h3]; simp)
    rw [h3] at hk ⊢
    clear h3 hb
    go_enter Try.func18, Try.ntmps18
    go_wp2_with fail
    refine (cf_boxCl sideBad l _ _ hl (hk.out.mono (below_a1 _)) (fun x _ w' _ => goodBox_cl x w') _ hany.out).mono ?_
    rintro e w2 ⟨rfl, hb2⟩
    have hb2 := hd hb2.allocL
    go_wp2_with fail
    go_ret
    exact ⟨by simp, hb2.out⟩
  · have h3i : ((l.length : Int) == 3) = false := by simp; omega
    have hbf := hd (show b = false by rw [← hb, goodBox]; simp [h3])
    clear h3
    go_enter Try.func18, Try.ntmps18
    go_wp2_with fail
    go_ret
    exact ⟨by rw [hbf.out]; rfl, below_a1 _⟩

set_option maxHeartbeats 800000 in
theorem GoodBox_s (l : List DSide) (v : Value) (w : World) (hl : l.length ≤ 1000000000000) (h : Sl w v 2 (l.map DSide.enc)) (b : Bool) (hb : goodBox l = b) :
    Calls Try.prog 16 #[.agg #[v]] w (BoolPost b w) := by
  have hbb := hd hb
  clear hb
  rcases h.open with ⟨a1, c1, rfl, hr⟩ | ⟨b1, o1, c1, rfl, hr, C1⟩
  · obtain rfl : l = [] := by simpa using hr
    have hbf := hd (show b = false by rw [← hbb.out]; rfl)
    go_enter Try.func16, Try.ntmps16
    go_wp2
    go_loopw [8] (fun i wr => i = .int .i64 0 ∧ wr = w.alloc (.cells #[.slice a1 0 c1] 29)) (fun _ _ => 0)
    case atStart => exact ⟨rfl, rfl⟩
    case round =>
      obtain ⟨rfl, rfl⟩ := hrel
      go_wp2_with fail
      go_ret
      exact ⟨by rw [hbf.out]; rfl, below_a1 _⟩
  · clear h
    simp only [List.length_map]
    go_enter Try.func16, Try.ntmps16
    go_wp2
    go_loopw [8] (fun i wr => ∃ k : Nat, k ≤ l.length ∧ i = .int .i64 k ∧ Hd (fidx_from sideBad l k) ∧ Hd (Below (w.heap.size + 1) (w.alloc (.cells #[.slice (some ⟨b1, o1, none⟩) l.length c1] 29)) wr)) (fun i _ => l.length - (intOf i).toNat)
    case atStart => exact ⟨0, Nat.zero_le _, rfl, fidx_zero _ _, Below.refl _ _⟩
    case round =>
      obtain ⟨k, hk, rfl, hfx, hbl⟩ := hrel
      have hbw := hd (show Below w.heap.size w wr from (Below.allocL (o := .cells #[.slice (some ⟨b1, o1, none⟩) l.length c1] 29) (by simpa using hbl.out)))
      have hq : wr.cell? ⟨w.heap.size, 0, none⟩ = some (.slice (some ⟨b1, o1, none⟩) l.length c1) := by rw [hbl.out.cell (by simp)]; go_simp
      by_cases hlt : k < l.length
      · obtain ⟨f0, f1⟩ := Cells.rowSide l k hlt (C1.mono hbw.out)
        cases hpx : sideBad l[k] with
        | true =>
          have hgf := hd (show b = false by rw [← hbb.out, goodBox, show l.any sideBad = true from List.any_eq_true.2 ⟨_, List.getElem_mem hlt, hpx⟩]; simp)
          by_cases h1 : -1000 ≤ l[k].lo ∧ l[k].lo ≤ 1000
          · have h2 : ¬ (l[k].lo ≤ l[k].hi ∧ l[k].hi ≤ 1000) := by simp [sideBad] at hpx; omega
            have c1 := hd (fun w => within_s l[k].lo (-1000) 1000 w true (by simpa using h1))
            have c2 := hd (fun w => within_s l[k].hi l[k].lo 1000 w false (by simpa using h2))
            clear hpx h1 h2
            go_wp2_with (first | (go_at_call 60; (with_reducible refine (c1.out _).mono ?_); rintro e w' ⟨rfl, rfl⟩) | (go_at_call 60; (with_reducible refine (c2.out _).mono ?_); rintro e w' ⟨rfl, rfl⟩))
            go_ret
            exact ⟨by rw [hgf.out]; rfl, hbw.out.next (below_a1 _)⟩
          · have c1 := hd (fun w => within_s l[k].lo (-1000) 1000 w false (by simpa using h1))
            clear hpx h1
            go_wp2_with (first | (go_at_call 60; (with_reducible refine (c1.out _).mono ?_); rintro e w' ⟨rfl, rfl⟩))
            go_ret
            exact ⟨by rw [hgf.out]; rfl, hbw.out.next (below_a1 _)⟩
        | false =>
          have h12 : (-1000 ≤ l[k].lo ∧ l[k].lo ≤ 1000) ∧ (l[k].lo ≤ l[k].hi ∧ l[k].hi ≤ 1000) := by simp [sideBad] at hpx; omega
          have c1 := hd (fun w => within_s l[k].lo (-1000) 1000 w true (by simpa using h12.1))
          have c2 := hd (fun w => within_s l[k].hi l[k].lo 1000 w true (by simpa using h12.2))
          have hst := hd (fidx_step hlt hfx.out hpx)
          have hb3 := hd (hbl.out.alloc (show w.heap.size + 1 ≤ wr.heap.size by have := hbl.out.size; simpa using this) (.cells #[.int .i64 l[k].lo, .int .i64 l[k].hi] 88))
          clear hpx h12
          go_wp2_with (first | (go_at_call 60; (with_reducible refine (c1.out _).mono ?_); rintro e w' ⟨rfl, rfl⟩) | (go_at_call 60; (with_reducible refine (c2.out _).mono ?_); rintro e w' ⟨rfl, rfl⟩))
          go_roundw
          case rel => exact ⟨k + 1, by omega, by go_num, hst.out, hb3.out⟩
          case measure => simp [intOf]; omega
      · have hkl : k = l.length := by omega
        have hany := hd (show l.any sideBad = false by
          rw [List.any_eq_false]; intro x hx
          obtain ⟨i, hi, rfl⟩ := List.getElem_of_mem hx
          rw [hfx.out i hi (by omega)]; simp)
        have hres := hd (show ((l.length : Int) == 3) = b by rw [← hbb.out, goodBox, hany.out]; rw [Bool.eq_iff_iff]; simp; omega)
        clear hkl
        go_wp2_with fail
        go_ret
        exact ⟨by rw [← hres.out]; rfl, hbw.out⟩
end Go.Proofs.Ytaadjpdghikkmaa

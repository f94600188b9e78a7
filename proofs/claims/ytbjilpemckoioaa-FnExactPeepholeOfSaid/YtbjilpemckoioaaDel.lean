/- The library's Delete at instructions, of a slice of the call's own; without of the program. -/
import Derived.Test.YtbjilpemckoioaaPeepI
import Derived.Test.YtbjilpemckoioaaPeepS
import Derived.Test.YtbjilpemckoioaaSortS
import Derived.Deep.RegionLaw
import Derived.Lib.SliceRun
namespace Go.Proofs.Ytbjilpemckoioaa
open Go.RowKit
set_option linter.unusedVariables false
set_option maxRecDepth 100000
theorem setCells_same (g : Nat) : ∀ (us : List Value) (w : World) (p : Nat), w.setCells g p us = setCells w g p us := by
  intro us
  induction us with
  | nil => intro w p; rfl
  | cons u us ih => intro w p; rw [World.setCells, setCells, ih]
theorem run_clear_k {P : Program} (w : World) (t e ty : TypeId) (z : Value) (zs : List Value) (ht : P.underlying t = some (.slice e)) (hv : ∀ w, (zeroValue e).run P w = .ok z w) (b o n c : Nat) (hn : 0 < n) (hzs : (Builtin.zeroCells z.cells n).toList = zs) (h1 : ∀ v ∈ zs, v.oneCell' = true)
    (hc : ∀ j, j < zs.length → (w.cell? ⟨b, o + j, none⟩).isSome = true) (hf : ∀ j, j < zs.length → w.frozen? ⟨b, o + j, none⟩ = false) :
    (Builtin.clear_ #[t] ty #[.slice (some ⟨b, o, none⟩) n c]).run P w = .ok (.tuple #[]) (w.setCells b o zs) := by
  have hst := run_storeCells_cells (P := P) b o zs 0 w (by simpa using hc) (by simpa using hf) h1
  simp only [Nat.add_zero] at hst
  obtain ⟨m, rfl⟩ : ∃ m, n = m + 1 := ⟨n - 1, by omega⟩
  simp [Builtin.clear_, run_underlying ht, hv, hzs, hst]
theorem check_runI (g n c a b : Nat) (h1 : a ≤ b) (h2 : b ≤ n) (h3 : n ≤ c) : ∃ A : Option Addr, ∀ w : World, (Instr.sliceAt 50 (.slice (some ⟨g, 0, none⟩) n c) (some (.int .i64 a)) (some (.int .i64 b)) (some (.int .i64 n))).run Try.prog w = .ok (.slice A (b - a) (n - a)) w := by
  refine ⟨if n = a then some ⟨g, 0, none⟩ else some ⟨g, a * 6, none⟩, fun w => ?_⟩
  by_cases h : n = a
  · subst h
    obtain rfl : b = n := by omega
    go_simp
  · rw [if_neg h]
    go_simp <;> (intro h3; omega)
theorem head_runI (g n c t : Nat) (h1 : t ≤ n) (h2 : n ≤ c) (w : World) : (Instr.sliceAt 50 (.slice (some ⟨g, 0, none⟩) n c) none (some (.int .i64 t)) none).run Try.prog w = .ok (.slice (some ⟨g, 0, none⟩) t c) w := by
  have h3 : t ≤ c := by omega
  go_simp
theorem tail_runI (g n c t : Nat) (h1 : t < n) (h2 : n ≤ c) (w : World) : (Instr.sliceAt 50 (.slice (some ⟨g, 0, none⟩) n c) (some (.int .i64 t)) none none).run Try.prog w = .ok (.slice (some ⟨g, t * 6, none⟩) (n - t) (c - t)) w := by
  have h : ¬ c = t := by omega
  have h4 : t ≤ n := by omega
  go_simp <;> (intro h3; omega)
theorem mid_runI (g n c t k : Nat) (h1 : t < k) (h2 : k ≤ c) (h3 : t ≤ c) (w : World) : (Instr.sliceAt 50 (.slice (some ⟨g, 0, none⟩) t c) (some (.int .i64 t)) (some (.int .i64 k)) none).run Try.prog w = .ok (.slice (some ⟨g, t * 6, none⟩) (k - t) (c - t)) w := by
  have h : ¬ c = t := by omega
  have h4 : t ≤ k := by omega
  go_simp <;> (intro h3; omega)
theorem setL_ge (us : List Value) : ∀ xs p i, p + us.length ≤ i → (setL xs p us)[i]? = xs[i]? := by
  induction us with
  | nil => intro xs p i h; rfl
  | cons u us ih => intro xs p i h; rw [List.length_cons] at h; rw [setL, ih _ _ _ (by omega), List.getElem?_set_ne (by omega)]
/-- The cells behind a cut: what stood behind it moved ahead, then others. -/
theorem cut_cells {rows : List (List Value)} {a m sz : Nat} {zs : List Value} (hl : ∀ r ∈ rows, r.length = sz) (ham : a + m ≤ rows.length) :
    (setL (setL rows.flatten (a * sz) (rows.drop (a + m)).flatten) ((rows.length - m) * sz) zs).take ((rows.length - m) * sz) = (rows.take a ++ rows.drop (a + m)).flatten := by
  have hl1 : ∀ r ∈ rows.take a, r.length = sz := fun r hr => hl r (List.mem_of_mem_take hr)
  have hl2 : ∀ r ∈ rows.drop (a + m), r.length = sz := fun r hr => hl r (List.mem_of_mem_drop hr)
  have z1 : (rows.take a).flatten.length = a * sz := by rw [flatten_len hl1, List.length_take]; congr 1; omega
  have z2 : (rows.drop (a + m)).flatten.length = (rows.length - (a + m)) * sz := by rw [flatten_len hl2, List.length_drop]
  have z0 : rows.flatten.length = rows.length * sz := flatten_len hl
  have e1 : (rows.length - m) * sz = a * sz + (rows.length - (a + m)) * sz := by rw [← Nat.add_mul]; congr 1; omega
  have e2 : (rows.length - m) * sz ≤ rows.length * sz := Nat.mul_le_mul_right sz (by omega)
  have e3 : rows.flatten = (rows.take a).flatten ++ (rows.drop a).flatten := by rw [← List.flatten_append, List.take_append_drop]
  apply List.ext_getElem?
  intro t
  rw [List.flatten_append]
  by_cases ht : t < (rows.length - m) * sz
  · rw [List.getElem?_take_of_lt ht, setL_lt _ _ _ _ ht]
    by_cases h1 : t < a * sz
    · rw [setL_lt _ _ _ _ h1, List.getElem?_append_left (by omega), e3, List.getElem?_append_left (by omega)]
    · obtain ⟨j, rfl⟩ : ∃ j, t = a * sz + j := ⟨t - a * sz, by omega⟩
      rw [setL_at _ _ _ _ (by omega) (by omega), List.getElem?_append_right (by omega), z1]
      congr 1; omega
  · rw [List.getElem?_take_eq_none (by omega), List.getElem?_eq_none (by rw [List.length_append]; omega)]
/-- A slice of the call's own, cut short. -/
theorem own_short {w : World} {B E sz g n k cap : Nat} {xs : List Value} {rows : List (List Value)} (h : w.ownsRow B E sz (.slice (some ⟨g, 0, none⟩) n cap) n xs) (hk : k ≤ n) (hl : ∀ r ∈ rows, r.length = sz) (hr : rows.length = k) (hx : xs.take (k * sz) = rows.flatten) : Own w B E sz (.slice (some ⟨g, 0, none⟩) k cap) rows := by
  refine own_mk hl ?_
  rw [hr]
  rcases h.2 with ⟨e0, _⟩ | ⟨g', cap', cur, e0, h1, h2, h3, h4, h5, h6⟩
  · cases e0
  · cases e0
    have hz : k * sz ≤ n * sz := Nat.mul_le_mul_right sz hk
    refine ⟨by rw [← hx, List.length_take, h.1]; omega, .inr ⟨g, cap, cur, rfl, h1, h2, by omega, h4, h5, ?_⟩⟩
    rw [← hx, ← h6, List.take_take]
    congr 1; omega
def DelPost (E : TypeId) (rows : List (List Value)) (g B : Nat) (w : World) (e : Ending) (w' : World) : Prop := ∃ v, e = .returned v ∧ Own w' B E 6 v rows ∧ w.grownBy w' (some g)
set_option maxHeartbeats 4000000 in
theorem delete_i (l : List DInstr) (a m g c : Nat) (w : World) (B : Nat) (h : Own w B 119 6 (.slice (some ⟨g, 0, none⟩) l.length c) (l.map DInstr.enc)) (ham : a + m < l.length) (hm : 1 ≤ m) (hl : l.length ≤ 1000) (R : List DInstr) (hR : l.take a ++ l.drop (a + m) = R) :
    Calls Try.prog 158 #[.slice (some ⟨g, 0, none⟩) l.length c, .int .i64 a, .int .i64 ((a : Int) + (m : Int))] w (DelPost 119 (R.map DInstr.enc) g B w) := by
  obtain ⟨j, hj1, hj2⟩ : ∃ j, j ≤ a + m ∧ a + m ≤ j := ⟨a + m, Nat.le_refl _, Nat.le_refl _⟩
  rw [show ((a : Int) + (m : Int)) = (j : Int) by omega]
  have hcap : l.length ≤ c := own_capF h
  obtain ⟨A, hr1⟩ := check_runI g l.length c a j (by omega) (by omega) hcap
  have hr2 := head_runI g l.length c a (by omega) hcap
  have hr3 := tail_runI g l.length c j (by omega) hcap
  have hls := hd (DInstr.enc_len l)
  have ho := own_flat h
  rw [List.length_map] at ho
  have hO := hd (show w.drew.ownsRow B 119 6 (.slice (some ⟨g, 0, none⟩) l.length c) l.length (l.map DInstr.enc).flatten from ho)
  have hne : (((a : Int)) == (j : Int)) = false := by simp; omega
  have hC := h.cells0 (h.lt g rfl).2
  have hnews := (hC.suf j).flat (DInstr.enc_len _)
  have hnl : ((l.drop j).map DInstr.enc).flatten.length = (l.length - j) * 6 := by rw [flatten_len (DInstr.enc_len _), List.length_map, List.length_drop]
  have hn1 := DInstr.enc_one (l.drop j)
  have hxl := hd hO.out.1
  have hcl0 : ∀ t, t < l.length * 6 → (w.drew.cell? ⟨g, t, none⟩).isSome = true := fun t ht => by
    rw [hO.out.cellAt t (by omega), List.getElem?_eq_getElem (by rw [hxl.out]; exact ht)]; rfl
  have hfr0 : ∀ t, w.drew.frozen? ⟨g, t, none⟩ = false := fun t => hO.out.frozenAt t
  obtain ⟨i0, hi, hz0, hz1, hz2⟩ := info_parts infoInstr
  have Hi := hd hi; have Hz1 := hd hz1
  obtain ⟨n', hn1a, hn1b⟩ : ∃ n', n' + m ≤ l.length ∧ l.length ≤ n' + m := ⟨l.length - m, by omega, by omega⟩
  have hr4 := mid_runI g l.length c n' l.length (by omega) hcap (by omega)
  obtain ⟨Z, hZ⟩ : ∃ Z, Z = (Builtin.zeroCells (Value.agg #[.int .i64 0, .int .i64 0, .int .i64 0, .int .i64 0, .string ⟨#[]⟩, .int .i64 0]).cells m).toList := ⟨_, rfl⟩
  have hZl : Z.length = m * 6 := by rw [hZ, Array.length_toList, Go.size_zeroCells]; rfl
  have hZ1 : ∀ v ∈ Z, v.oneCell' = true := by
    intro v hv
    rw [hZ] at hv
    rw [Builtin.zeroCells, Array.toList_map] at hv
    obtain ⟨q, _, rfl⟩ := List.mem_map.1 hv
    have e6 : (Value.agg #[.int .i64 0, .int .i64 0, .int .i64 0, .int .i64 0, .string ⟨#[]⟩, .int .i64 0]).cells.size = 6 := rfl
    rw [e6]
    have h6 : q % 6 < 6 := Nat.mod_lt _ (by decide)
    have : q % 6 = 0 ∨ q % 6 = 1 ∨ q % 6 = 2 ∨ q % 6 = 3 ∨ q % 6 = 4 ∨ q % 6 = 5 := by omega
    rcases this with e | e | e | e | e | e <;> rw [e] <;> rfl
  have hrows : ((setL (setL (l.map DInstr.enc).flatten (a * 6) ((l.drop j).map DInstr.enc).flatten) (n' * 6) Z).take (n' * 6)) = (R.map DInstr.enc).flatten := by
    have h1 := cut_cells (rows := l.map DInstr.enc) (a := a) (m := m) (sz := 6) (zs := Z) hls.out (by rw [List.length_map]; omega)
    rw [List.length_map, show l.length - m = n' by omega, ← List.map_drop, ← List.map_take, ← List.map_append, hR] at h1
    rw [show j = a + m by omega]
    exact h1
  have hRl := hd (show (R.map DInstr.enc).length = n' by rw [← hR, List.length_map, List.length_append, List.length_take, List.length_drop]; omega)
  generalize ((l.drop j).map DInstr.enc).flatten = Nw at *
  have hnews := hd hnews
  have hnl := hd hnl
  have hn1 := hd hn1
  have hrows := hd hrows
  have hspare := hd (show ∀ q, q < Nw.length → (w.drew.cell? ⟨g, 0 + a * 6 + q, none⟩).isSome = true ∧ w.drew.frozen? ⟨g, 0 + a * 6 + q, none⟩ = false from fun q hq => by
    rw [hnl.out] at hq
    rw [Nat.zero_add]
    exact ⟨hcl0 _ (by omega), hfr0 _⟩)
  have hW1 := hd (ownsRow_setCells Nw w.drew _ (a * 6) hO.out)
  have hgd := hd (show w.grownBy w.drew (some g) from ⟨rfl, rfl, rfl, Nat.le_refl _, fun _ _ _ => rfl⟩)
  have hfin := hd (ownsRow_setCells Z _ _ (n' * 6) hW1.out.1)
  have hend := hd (own_short (rows := R.map DInstr.enc) (k := n') hfin.out.1 (by omega) (DInstr.enc_len _) hRl.out hrows.out)
  have hgr := hd (grownBy_trans (grownBy_trans hgd.out hW1.out.2 (.inl rfl)) hfin.out.2 (.inl rfl))
  have hcl : ∀ ty, (Builtin.clear_ #[50] ty #[.slice (some ⟨g, n' * 6, none⟩) (l.length - n') (c - n')]).run Try.prog (setCells w.drew g (a * 6) Nw) = .ok (.tuple #[]) (setCells (setCells w.drew g (a * 6) Nw) g (n' * 6) Z) := fun ty => by
    have e1 : l.length - n' = m := by omega
    rw [e1, ← setCells_same g Z]
    have hxl2 : (setL (l.map DInstr.enc).flatten (a * 6) Nw).length = l.length * 6 := by rw [setL_len]; exact hxl.out
    exact run_clear_k _ 50 119 ty _ Z Try.underlying50 Try.zeroValue119 g (n' * 6) m (c - n') (by omega) hZ.symm hZ1 (fun q hq => by
      rw [hZl] at hq
      rw [hW1.out.1.cellAt _ (by omega), List.getElem?_eq_getElem (by omega)]; rfl) (fun q hq => hW1.out.1.frozenAt _)
  clear hi hz0 hz1 hz2 hcl0 hfr0 hZ hZ1 hZl hR hfin hW1 hgd hxl hrows hRl h ho hC
  go_enter Try.func158, Try.ntmps158
  go_upto_region 5 with (fail)
  go_region_law (refine step_append_room (by rfl) _ _ _ (by rfl) 119 i0 6 Try.underlying50 Hi.out Hz1.out g 0 a c (by rfl) ⟨g, j * 6, none⟩ (l.length - j) (c - j) Nw (by rfl) hnl.out (by have := hnews.out; rw [Nat.zero_add] at this; exact this) hn1.out (by omega) hspare.out ?_)
  rw [show a + (l.length - j) = n' by omega]
  try rw [Nat.zero_add]
  rw [setCells_same]
  clear hnl hnews hn1 hspare
  go_upto_region 6 with (fail)
  clear hr1 hr2 hr3
  go_wp2_with (simp only [hcl])
  go_ret
  exact ⟨_, rfl, hend.out, hgr.out⟩
end Go.Proofs.Ytbjilpemckoioaa

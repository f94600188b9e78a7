/- BoxCovers, of the program and of the reference. -/
import Derived.Test.YtaadjpdghikkmaaBox2
namespace Go.Proofs.Ytaadjpdghikkmaa
open Go.RowKit
set_option linter.unusedVariables false
set_option maxRecDepth 100000
def bcR (la lb : List DSide) : Bool × Bool := if goodBox la = true ∧ goodBox lb = true then (covB la lb, true) else (false, false)
def BBPost (r : Bool × Bool) (w : World) (e : Ending) (w' : World) : Prop := e = .returned (.tuple #[.bool r.1, .bool r.2]) ∧ Below w.heap.size w w'
theorem goodBox_len {l : List DSide} (h : goodBox l = true) : l.length = 3 := by simp [goodBox] at h; exact h.1
set_option maxHeartbeats 800000 in
theorem BoxCovers_i (la lb : List DSide) (va vb : Value) (w : World) (hla : la.length ≤ 1000000000000) (hlb : lb.length ≤ 1000000000000) (ha : Sl w va 2 (la.map DSide.enc)) (hb : Sl w vb 2 (lb.map DSide.enc)) (r : Bool × Bool) (hr : bcR la lb = r) :
    Calls Try.prog 21 #[.agg #[va], .agg #[vb]] w (BBPost r w) := by
  have hka := hd ha
  have hkb := hd hb
  obtain ⟨a1, c1, rfl, _⟩ := ha
  obtain ⟨a2, c2, rfl, _⟩ := hb
  simp only [List.length_map] at hka hkb ⊢
  cases hga : goodBox la with
  | false =>
    have hres := hd (show r = (false, false) by rw [← hr, bcR, if_neg (by simp [hga])])
    replace hga := hd hga
    clear hr
    go_enter Try.func21, Try.ntmps21
    go_wp2_with fail
    refine (GoodBox_i la _ _ hla (hka.out.mono (below_a2 _)) false hga.out).mono ?_
    rintro e w1 ⟨rfl, hb1⟩
    have hB := hd ((below_a2 w).next hb1)
    clear hb1
    go_wp2_with fail
    go_ret2
    exact ⟨by rw [hres.out]; rfl, hB.out⟩
  | true =>
    replace hga := hd hga
    cases hgb : goodBox lb with
    | false =>
      have hres := hd (show r = (false, false) by rw [← hr, bcR, if_neg (by simp [hgb])])
      replace hgb := hd hgb
      clear hr
      go_enter Try.func21, Try.ntmps21
      go_wp2_with fail
      refine (GoodBox_i la _ _ hla (hka.out.mono (below_a2 _)) true hga.out).mono ?_
      rintro e w1 ⟨rfl, hb1⟩
      have q1 := keepCell hb1 (show _ = some (.slice a2 lb.length c2) from (by go_simp : World.cell? _ ⟨w.heap.size + 1, 0, none⟩ = _))
      have hB := hd ((below_a2 w).next hb1)
      clear hb1
      go_wp2_with fail
      refine (GoodBox_i lb _ _ hlb (hkb.out.mono hB.out) false hgb.out).mono ?_
      rintro e w2 ⟨rfl, hb2⟩
      have hB2 := hd (hB.out.next hb2)
      clear hb2 q1
      go_wp2_with fail
      go_ret2
      exact ⟨by rw [hres.out]; rfl, hB2.out⟩
    | true =>
      have hres := hd (show r = (covB la lb, true) by rw [← hr, bcR, if_pos ⟨hga.out, hgb⟩])
      replace hgb := hd hgb
      have h3a := goodBox_len hga.out
      have h3b := goodBox_len hgb.out
      have hn := hd (show la.length = lb.length ∧ 0 < la.length by omega)
      clear hr h3a h3b
      go_enter Try.func21, Try.ntmps21
      go_wp2_with fail
      refine (GoodBox_i la _ _ hla (hka.out.mono (below_a2 _)) true hga.out).mono ?_
      rintro e w1 ⟨rfl, hb1⟩
      have q1 := keepCell hb1 (show _ = some (.slice a2 lb.length c2) from (by go_simp : World.cell? _ ⟨w.heap.size + 1, 0, none⟩ = _))
      have q0 := keepCell hb1 (show _ = some (.slice a1 la.length c1) from (by go_simp : World.cell? _ ⟨w.heap.size, 0, none⟩ = _))
      have hB := hd ((below_a2 w).next hb1)
      clear hb1
      go_wp2_with fail
      refine (GoodBox_i lb _ _ hlb (hkb.out.mono hB.out) true hgb.out).mono ?_
      rintro e w2 ⟨rfl, hb2⟩
      have q3 := keepCell hb2 q1
      have q2 := keepCell hb2 q0
      have hB2 := hd (hB.out.next hb2)
      clear hb2 q1 q0 hB
      go_wp2_with fail
      refine (covers_i la lb _ _ _ hn.out.1 hn.out.2 hla (hka.out.mono hB2.out) (hkb.out.mono hB2.out)).mono ?_
      rintro e w3 ⟨rfl, hb3⟩
      have hB3 := hd (hB2.out.next hb3)
      clear hb3 q3 q2 hB2
      go_wp2_with fail
      go_ret2
      exact ⟨by rw [hres.out]; rfl, hB3.out⟩
set_option maxHeartbeats 800000 in
theorem BoxCovers_s (la lb : List DSide) (va vb : Value) (w : World) (hla : la.length ≤ 1000000000000) (hlb : lb.length ≤ 1000000000000) (ha : Sl w va 2 (la.map DSide.enc)) (hb : Sl w vb 2 (lb.map DSide.enc)) (r : Bool × Bool) (hr : bcR la lb = r) :
    Calls Try.prog 20 #[.agg #[va], .agg #[vb]] w (BBPost r w) := by
  have hka := hd ha
  have hkb := hd hb
  obtain ⟨a1, c1, rfl, _⟩ := ha
  obtain ⟨a2, c2, rfl, _⟩ := hb
  simp only [List.length_map] at hka hkb ⊢
  cases hga : goodBox la with
  | false =>
    have hres := hd (show r = (false, false) by rw [← hr, bcR, if_neg (by simp [hga])])
    replace hga := hd hga
    clear hr
    go_enter Try.func20, Try.ntmps20
    go_wp2_with fail
    refine (GoodBox_s la _ _ hla (hka.out.mono (below_a2 _)) false hga.out).mono ?_
    rintro e w1 ⟨rfl, hb1⟩
    have hB := hd ((below_a2 w).next hb1)
    clear hb1
    go_wp2_with fail
    go_ret2
    exact ⟨by rw [hres.out]; rfl, hB.out⟩
  | true =>
    replace hga := hd hga
    cases hgb : goodBox lb with
    | false =>
      have hres := hd (show r = (false, false) by rw [← hr, bcR, if_neg (by simp [hgb])])
      replace hgb := hd hgb
      clear hr
      go_enter Try.func20, Try.ntmps20
      go_wp2_with fail
      refine (GoodBox_s la _ _ hla (hka.out.mono (below_a2 _)) true hga.out).mono ?_
      rintro e w1 ⟨rfl, hb1⟩
      have q1 := keepCell hb1 (show _ = some (.slice a2 lb.length c2) from (by go_simp : World.cell? _ ⟨w.heap.size + 1, 0, none⟩ = _))
      have hB := hd ((below_a2 w).next hb1)
      clear hb1
      go_wp2_with fail
      refine (GoodBox_s lb _ _ hlb (hkb.out.mono hB.out) false hgb.out).mono ?_
      rintro e w2 ⟨rfl, hb2⟩
      have hB2 := hd (hB.out.next hb2)
      clear hb2 q1
      go_wp2_with fail
      go_ret2
      exact ⟨by rw [hres.out]; rfl, hB2.out⟩
    | true =>
      have hres := hd (show r = (covB la lb, true) by rw [← hr, bcR, if_pos ⟨hga.out, hgb⟩])
      replace hgb := hd hgb
      have h3a := goodBox_len hga.out
      have h3b := goodBox_len hgb.out
      have hn := hd (show la.length = lb.length ∧ 0 < la.length by omega)
      clear hr h3a h3b
      go_enter Try.func20, Try.ntmps20
      go_wp2_with fail
      refine (GoodBox_s la _ _ hla (hka.out.mono (below_a2 _)) true hga.out).mono ?_
      rintro e w1 ⟨rfl, hb1⟩
      have q1 := keepCell hb1 (show _ = some (.slice a2 lb.length c2) from (by go_simp : World.cell? _ ⟨w.heap.size + 1, 0, none⟩ = _))
      have q0 := keepCell hb1 (show _ = some (.slice a1 la.length c1) from (by go_simp : World.cell? _ ⟨w.heap.size, 0, none⟩ = _))
      have hB := hd ((below_a2 w).next hb1)
      clear hb1
      go_wp2_with fail
      refine (GoodBox_s lb _ _ hlb (hkb.out.mono hB.out) true hgb.out).mono ?_
      rintro e w2 ⟨rfl, hb2⟩
      have q3 := keepCell hb2 q1
      have q2 := keepCell hb2 q0
      have hB2 := hd (hB.out.next hb2)
      clear hb2 q1 q0 hB
      go_wp2_with fail
      refine (covers_s la lb _ _ _ hn.out.1 hn.out.2 hla (hka.out.mono hB2.out) (hkb.out.mono hB2.out)).mono ?_
      rintro e w3 ⟨rfl, hb3⟩
      have hB3 := hd (hB2.out.next hb3)
      clear hb3 q3 q2 hB2
      go_wp2_with fail
      go_ret2
      exact ⟨by rw [hres.out]; rfl, hB3.out⟩
end Go.Proofs.Ytaadjpdghikkmaa

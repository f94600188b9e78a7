/- Matches, of the program and of the reference. -/
import Derived.Test.YtpkmghllidejhaaSoS
import Derived.Test.YtpkmghllidejhaaViewM
namespace Go.Proofs.Ytpkmghllidejhaa
open Go.RowKit
set_option linter.unusedVariables false
set_option maxRecDepth 100000
def matOk (l : List DWant) (s : List UInt8) : Bool := rfB s && goodFilter l
def matB (l : List DWant) (s : List UInt8) : Bool := matOk l s && soB l (rfF s) l.length (l.length - 1)
theorem rfF_small (l : List UInt8) : ∀ x ∈ rfF l, x.data.size ≤ 1048576 := small_of (rfF_ok l) (rfF_flat l)
theorem rfL_small (l : List UInt8) : ∀ p ∈ rfL l, p.f.data.size ≤ 1000000000000 := fun p hp => Nat.le_trans (rfF_small l p.f (by rw [rfF_map]; exact List.mem_map_of_mem hp)) (by omega)
theorem rfF_strict {l : List UInt8} (h : rfB l = true) : Strict (rfF l) := by
  refine strict_of ?_
  rw [rfF, h]
  rw [rfB, Bool.and_eq_true] at h
  exact h.2
set_option maxHeartbeats 1600000 in
theorem Matches_i (l : List DWant) (s : ByteArray) (v : Value) (w : World) (hl : l.length ≤ 1000000000) (hs : s.size ≤ 1048576) (ht : ∀ x ∈ l, x.text.size ≤ 1048576) (h : Sl w v 6 (l.map DWant.enc)) (b : Bool) (hb : matB l s.data.toList = b) (o : Bool) (ho : matOk l s.data.toList = o) :
    Calls Try.prog 41 #[.agg #[v], .string s] w (fun e w' => e = .returned (.tuple #[.bool b, .bool o]) ∧ Below w.heap.size w w') := by
  have c1 := hd (fun w => rising_i s w hs)
  obtain ⟨g1, hg1⟩ : ∃ g, rfB s.data.toList = g := ⟨_, rfl⟩
  obtain ⟨g2, hg2⟩ : ∃ g, goodFilter l = g := ⟨_, rfl⟩
  have c2 := hd (fun v w h => GoodFilter_i l v w (by omega) h g2 hg2)
  have hS := hd h
  obtain ⟨a0, k0, rfl, _⟩ := h
  simp only [List.length_map] at hS ⊢
  rw [hg1] at c1
  have hos := hd (show o = (g1 && g2) by rw [← ho, matOk, hg1, hg2])
  have hbs := hd (show b = (g1 && g2 && soB l (rfF s.data.toList) l.length (l.length - 1)) by rw [← hb, matB, matOk, hg1, hg2])
  have hpl := rfL_len s.data.toList
  have hsm := hd (rfL_small s.data.toList)
  have ht := hd (fun x (hx : x ∈ l) => Nat.le_trans (ht x hx) (show 1048576 ≤ 1000000000000 by omega))
  have hmp := hd (rfF_map s.data.toList)
  clear hb ho hg1
  cases g1 with
  | false =>
    clear hg2
    go_enter Try.func41, Try.ntmps41
    go_wp2_with fail
    refine (c1.out _).mono ?_
    rintro e w2 ⟨v2, rfl, ho2, hb2⟩
    have hB := hd ((below_a1 w).next hb2)
    replace ho2 := hd ho2
    clear hb2
    go_wp2_with fail
    go_ret2
    exact ⟨by rw [hos.out, hbs.out]; rfl, hB.out⟩
  | true =>
    cases g2 with
    | false =>
      clear hg2
      go_enter Try.func41, Try.ntmps41
      go_wp2_with fail
      refine (c1.out _).mono ?_
      rintro e w2 ⟨v2, rfl, ho2, hb2⟩
      have q0 := keepCell hb2 (show World.cell? _ ⟨w.heap.size, 0, none⟩ = some (.slice a0 l.length k0) by go_simp)
      have hB := hd ((below_a1 w).next hb2)
      replace ho2 := hd ho2
      clear hb2
      go_wp2_with fail
      refine (c2.out _ _ (hS.out.mono hB.out)).mono ?_
      rintro e w3 ⟨rfl, hb3⟩
      have hB3 := hd (hB.out.next hb3)
      clear hb3
      go_wp2_with fail
      go_ret2
      exact ⟨by rw [hos.out, hbs.out]; rfl, hB3.out⟩
    | true =>
      obtain ⟨hn1, hn2⟩ := good_len hg2
      have hok := hd (good_all hg2)
      obtain ⟨m, hm⟩ : ∃ m, l.length = m + 1 := ⟨l.length - 1, by omega⟩
      have hm1 := hd (show l.length - 1 = m by omega)
      have hlm : ((l.length : Int) - 1) = (m : Int) := by omega
      have hmh := hd hm
      clear hg2 hm
      go_enter Try.func41, Try.ntmps41
      go_wp2_with fail
      refine (c1.out _).mono ?_
      rintro e w2 ⟨v2, rfl, ho2, hb2⟩
      have q0 := keepCell hb2 (show World.cell? _ ⟨w.heap.size, 0, none⟩ = some (.slice a0 l.length k0) by go_simp)
      have hB := hd ((below_a1 w).next hb2)
      replace ho2 := hd ho2
      clear hb2
      go_wp2_with fail
      refine (c2.out _ _ (hS.out.mono hB.out)).mono ?_
      rintro e w3 ⟨rfl, hb3⟩
      have hB3 := hd (hB.out.next hb3)
      have q3 := keepCell hb3 q0
      have ho3 := hd (ho2.out.below hb3)
      clear hb3 q0
      have hq3 := hd q3
      go_wp2_with fail
      refine (so_i l (rfL s.data.toList) w.heap.size a0 k0 v2 hok.out hn2 hpl hsm.out ht.out l.length m w3 (by have := hmh.out; omega) (by have := hmh.out; omega) hq3.out (hS.out.mono hB3.out) ho3.out.sl).mono ?_
      rintro e w4 ⟨rfl, hb4⟩
      have hB4 := hd (hB3.out.next hb4)
      clear hb4
      rw [← hmp.out, ← hm1.out]
      generalize soB l (rfF s.data.toList) l.length (l.length - 1) = z at *
      go_wp2_with fail
      go_ret2
      exact ⟨by rw [hos.out, hbs.out]; rfl, hB4.out⟩
set_option maxHeartbeats 1600000 in
theorem Matches_s (l : List DWant) (s : ByteArray) (v : Value) (w : World) (hl : l.length ≤ 1000000000) (hs : s.size ≤ 1048576) (ht : ∀ x ∈ l, x.text.size ≤ 1048576) (h : Sl w v 6 (l.map DWant.enc)) (b : Bool) (hb : matB l s.data.toList = b) (o : Bool) (ho : matOk l s.data.toList = o) :
    Calls Try.prog 40 #[.agg #[v], .string s] w (fun e w' => e = .returned (.tuple #[.bool b, .bool o]) ∧ Below w.heap.size w w') := by
  have c1 := hd (fun w => fields5_s s w hs)
  obtain ⟨g1, hg1⟩ : ∃ g, rfB s.data.toList = g := ⟨_, rfl⟩
  obtain ⟨g2, hg2⟩ : ∃ g, goodFilter l = g := ⟨_, rfl⟩
  have c2 := hd (fun v w h => GoodFilter_s l v w (by omega) h g2 hg2)
  have hS := hd h
  obtain ⟨a0, k0, rfl, _⟩ := h
  simp only [List.length_map] at hS ⊢
  rw [hg1] at c1
  have hos := hd (show o = (g1 && g2) by rw [← ho, matOk, hg1, hg2])
  have hbs := hd (show b = (g1 && g2 && soB l (rfF s.data.toList) l.length (l.length - 1)) by rw [← hb, matB, matOk, hg1, hg2])
  have hpl := rfF_len s.data.toList
  have hsm := hd (fun x hx => Nat.le_trans (rfF_small s.data.toList x hx) (show 1048576 ≤ 1000000000000 by omega))
  have ht := hd (fun x (hx : x ∈ l) => Nat.le_trans (ht x hx) (show 1048576 ≤ 1000000000000 by omega))
  clear hb ho
  cases g2 with
  | false =>
    clear hg1 hg2
    cases g1 with
    | true =>
      go_enter Try.func40, Try.ntmps40
      go_wp2_with fail
      refine (c1.out _).mono ?_
      rintro e w2 ⟨v2, rfl, ho2, hb2⟩
      have q0 := keepCell hb2 (show World.cell? _ ⟨w.heap.size, 0, none⟩ = some (.slice a0 l.length k0) by go_simp)
      have hB := hd ((below_a1 w).next hb2)
      replace ho2 := hd ho2
      clear hb2
      go_wp2_with fail
      refine (c2.out _ _ (hS.out.mono hB.out)).mono ?_
      rintro e w3 ⟨rfl, hb3⟩
      have hB3 := hd (hB.out.next hb3)
      clear hb3
      go_wp2_with fail
      go_ret2
      exact ⟨by rw [hos.out, hbs.out]; rfl, hB3.out⟩
    | false =>
      go_enter Try.func40, Try.ntmps40
      go_wp2_with fail
      refine (c1.out _).mono ?_
      rintro e w2 ⟨v2, rfl, ho2, hb2⟩
      have q0 := keepCell hb2 (show World.cell? _ ⟨w.heap.size, 0, none⟩ = some (.slice a0 l.length k0) by go_simp)
      have hB := hd ((below_a1 w).next hb2)
      replace ho2 := hd ho2
      clear hb2
      go_wp2_with fail
      refine (c2.out _ _ (hS.out.mono hB.out)).mono ?_
      rintro e w3 ⟨rfl, hb3⟩
      have hB3 := hd (hB.out.next hb3)
      clear hb3
      go_wp2_with fail
      go_ret2
      exact ⟨by rw [hos.out, hbs.out]; rfl, hB3.out⟩
  | true =>
    cases g1 with
    | false =>
      clear hg1 hg2
      go_enter Try.func40, Try.ntmps40
      go_wp2_with fail
      refine (c1.out _).mono ?_
      rintro e w2 ⟨v2, rfl, ho2, hb2⟩
      have q0 := keepCell hb2 (show World.cell? _ ⟨w.heap.size, 0, none⟩ = some (.slice a0 l.length k0) by go_simp)
      have hB := hd ((below_a1 w).next hb2)
      replace ho2 := hd ho2
      clear hb2
      go_wp2_with fail
      refine (c2.out _ _ (hS.out.mono hB.out)).mono ?_
      rintro e w3 ⟨rfl, hb3⟩
      have hB3 := hd (hB.out.next hb3)
      clear hb3
      go_wp2_with fail
      go_ret2
      exact ⟨by rw [hos.out, hbs.out]; rfl, hB3.out⟩
    | true =>
      obtain ⟨hn1, hn2⟩ := good_len hg2
      have hok := hd (good_all hg2)
      have hst := hd (rfF_strict hg1)
      obtain ⟨m, hm⟩ : ∃ m, l.length = m + 1 := ⟨l.length - 1, by omega⟩
      have hm1 := hd (show l.length - 1 = m by omega)
      have hlm : ((l.length : Int) - 1) = (m : Int) := by omega
      have hmh := hd hm
      have cm := hd (fun (u : Value) (w : World) (hW : Sl w (.slice a0 l.length k0) 6 (l.map DWant.enc)) (hP : Sl w u 4 ((rfF s.data.toList).map DField.enc)) => is_s l (rfF s.data.toList) a0 k0 u hst.out hok.out hn2 hpl hsm.out ht.out l.length m w (by omega) (by omega) hW hP)
      clear hg2 hm hg1
      rw [hm1.out] at hbs
      generalize soB l (rfF s.data.toList) l.length m = z at *
      have cl : Hd (∀ (u : Value) (w : World), Sl w (.slice a0 l.length k0) 6 (l.map DWant.enc) → Sl w u 4 ((rfF s.data.toList).map DField.enc) → Calls Try.prog 102 #[.agg #[.slice a0 l.length k0], u] w (BoolPost z w)) := by
        intro u w hW hP
        replace hW := hd hW
        replace hP := hd hP
        go_enter Try.func102, Try.ntmps102
        go_wp2_with fail
        refine (cm.out _ _ (hW.out.mono (below_a1 _)) (hP.out.mono (below_a1 _))).mono ?_
        rintro e w2 ⟨rfl, hb2⟩
        have hB := hd ((below_a1 w).next hb2)
        clear hb2
        go_wp2_with fail
        go_ret
        exact ⟨rfl, hB.out⟩
      go_enter Try.func40, Try.ntmps40
      go_wp2_with fail
      refine (c1.out _).mono ?_
      rintro e w2 ⟨v2, rfl, ho2, hb2⟩
      have q0 := keepCell hb2 (show World.cell? _ ⟨w.heap.size, 0, none⟩ = some (.slice a0 l.length k0) by go_simp)
      have hB := hd ((below_a1 w).next hb2)
      replace ho2 := hd ho2
      clear hb2
      go_wp2_with fail
      refine (c2.out _ _ (hS.out.mono hB.out)).mono ?_
      rintro e w3 ⟨rfl, hb3⟩
      have hB3 := hd (hB.out.next hb3)
      have q3 := keepCell hb3 q0
      have ho3 := hd (ho2.out.below hb3)
      clear hb3 q0
      go_wp2_with fail
      refine (cl.out _ _ (hS.out.mono hB3.out) ho3.out.sl).mono ?_
      rintro e w4 ⟨rfl, hb4⟩
      have hB4 := hd (hB3.out.next hb4)
      clear hb4
      go_wp2_with fail
      go_ret2
      exact ⟨by rw [hos.out, hbs.out]; rfl, hB4.out⟩
theorem small_wants {l : List DWant} (h : SmallWant 1048576 l.length l) : ∀ x ∈ l, x.text.size ≤ 1048576 := by
  intro x hx
  obtain ⟨i, hi, rfl⟩ := List.mem_iff_getElem.1 hx
  have := h i hi hi
  omega
end Go.Proofs.Ytpkmghllidejhaa

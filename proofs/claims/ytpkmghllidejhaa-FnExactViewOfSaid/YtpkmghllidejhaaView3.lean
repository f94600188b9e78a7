/- ViewOf, of the program and of the reference. -/
import Derived.Test.YtpkmghllidejhaaView2
import Derived.Test.YtpkmghllidejhaaViewM
import Derived.Test.YtpkmghllidejhaaFields4
namespace Go.Proofs.Ytpkmghllidejhaa
open Go.RowKit
set_option linter.unusedVariables false
set_option maxRecDepth 100000
def viewB (l : List UInt8) (nos : List Int) : Bool := rfB l && risB nos
def viewR (l : List UInt8) (nos : List Int) : List UInt8 := if viewB l nos then flat (pick nos true (rfF l)) else []
theorem pick_ok {nos : List Int} {q : Bool} {l : List DField} (h : ∀ x ∈ l, fieldB x = true) : ∀ x ∈ pick nos q l, fieldB x = true := fun x hx => h x (List.mem_filter.1 hx).1
theorem pick_good {l : List UInt8} (nos : List Int) (q : Bool) : fieldsB (pick nos q (rfF l)) = true := by
  have h1 := pick_len nos q (rfF l)
  have h2 := rfF_len l
  simp only [fieldsB, Bool.and_eq_true, decide_eq_true_eq, Bool.not_eq_true', List.any_eq_false]
  exact ⟨by omega, fun x hx => by simp [fieldBad, pick_ok (rfF_ok l) x hx]⟩
theorem pick_flat (l : List UInt8) (nos : List Int) (q : Bool) : (flat (pick nos q (rfF l))).length ≤ 400 := Nat.le_trans (flat_filter_le _ _) (rfF_flat l)
set_option maxHeartbeats 1600000 in
theorem ViewOf_i (s : ByteArray) (nos : List Int) (u : Value) (w : World) (hs : s.size ≤ 1048576) (hn : nos.length ≤ 1000000000) (hu : Sl w u 1 (nos.map encI)) (b : Bool) (hb : viewB s.data.toList nos = b) (r : List UInt8) (hr : viewR s.data.toList nos = r) :
    Calls Try.prog 23 #[.string s, u] w (SbPost r b w) := by
  have c1 := hd (fun w => rising_i s w hs)
  have hT := hd hu
  obtain ⟨g1, hg1⟩ : ∃ g, rfB s.data.toList = g := ⟨_, rfl⟩
  obtain ⟨g2, hg2⟩ : ∃ g, risB nos = g := ⟨_, rfl⟩
  have c2 := hd (fun w h => risingNos_i nos u w (by omega) h g2 hg2)
  obtain ⟨a1, k1, rfl, _⟩ := hu
  simp only [List.length_map] at *
  rw [hg1] at c1
  have hbg := hd (show b = (g1 && g2) by rw [← hb, viewB, hg1, hg2])
  have hrg := hd (show r = if (g1 && g2) then flat (pick nos true (rfF s.data.toList)) else [] by rw [← hr, viewR, viewB, hg1, hg2])
  have hll := rfL_len s.data.toList
  clear hb hr hg1 hg2
  cases g1 with
  | false =>
    go_enter Try.func23, Try.ntmps23
    go_wp2_with fail
    refine (c1.out _).mono ?_
    rintro e w2 ⟨v2, rfl, ho2, hb2⟩
    replace hb2 := hd hb2
    replace ho2 := hd ho2
    go_wp2_with fail
    go_ret2
    exact ⟨by rw [hbg.out, hrg.out]; rfl, hb2.out⟩
  | true =>
    cases g2 with
    | false =>
      go_enter Try.func23, Try.ntmps23
      go_wp2_with fail
      refine (c1.out _).mono ?_
      rintro e w2 ⟨v2, rfl, ho2, hb2⟩
      replace hb2 := hd hb2
      replace ho2 := hd ho2
      go_wp2_with fail
      refine (c2.out _ (hT.out.mono hb2.out)).mono ?_
      rintro e w3 ⟨rfl, rfl⟩
      go_wp2_with fail
      go_ret2
      exact ⟨by rw [hbg.out, hrg.out]; rfl, hb2.out⟩
    | true =>
      have hmap := hd (show (pickP nos false (rfL s.data.toList)).map (·.f) = pick nos true (rfF s.data.toList) by rw [pickP_map, rfF_map]; rfl)
      have hpl := pickP_len nos false (rfL s.data.toList)
      have c5 := hd (fun v w h => fieldsBytes_i (pick nos true (rfF s.data.toList)) v w (pick_good nos true) (small_of (pick_ok (rfF_ok _)) (pick_flat _ nos true)) h true (by simpa using pick_flat s.data.toList nos true) (flat (pick nos true (rfF s.data.toList))) rfl)
      go_enter Try.func23, Try.ntmps23
      go_wp2_with fail
      refine (c1.out _).mono ?_
      rintro e w2 ⟨v2, rfl, ho2, hb2⟩
      replace hb2 := hd hb2
      replace ho2 := hd ho2
      go_wp2_with fail
      refine (c2.out _ (hT.out.mono hb2.out)).mono ?_
      rintro e w3 ⟨rfl, rfl⟩
      go_wp2_with fail
      refine (having_i (rfL s.data.toList) nos false _ _ _ (by omega) hn ho2.out.sl (hT.out.mono hb2.out)).mono ?_
      rintro e w4 ⟨v4, rfl, ho4, hb4⟩
      have hB4 := hd (hb2.out.next hb4)
      replace ho4 := hd ho4
      clear hb4
      go_wp2_with fail
      refine (fieldsOf_i _ _ _ (by omega) ho4.out.sl _ hmap.out).mono ?_
      rintro e w5 ⟨v5, rfl, ho5, hb5⟩
      have hB5 := hd (hB4.out.next hb5)
      replace ho5 := hd ho5
      clear hb5
      go_wp2_with fail
      refine (c5.out _ _ ho5.out.sl).mono ?_
      rintro e w6 ⟨rfl, hb6⟩
      have hB6 := hd (hB5.out.next hb6)
      clear hb6
      go_wp2_with fail
      go_ret2
      exact ⟨by rw [hbg.out, hrg.out]; rfl, hB6.out⟩
set_option maxHeartbeats 1600000 in
theorem ViewOf_s (s : ByteArray) (nos : List Int) (u : Value) (w : World) (hs : s.size ≤ 1048576) (hn : nos.length ≤ 1000000000) (hu : Sl w u 1 (nos.map encI)) (b : Bool) (hb : viewB s.data.toList nos = b) (r : List UInt8) (hr : viewR s.data.toList nos = r) :
    Calls Try.prog 21 #[.string s, u] w (SbPost r b w) := by
  have c1 := hd (fun w => fields5_s s w hs)
  have hT := hd hu
  obtain ⟨g1, hg1⟩ : ∃ g, rfB s.data.toList = g := ⟨_, rfl⟩
  obtain ⟨g2, hg2⟩ : ∃ g, risB nos = g := ⟨_, rfl⟩
  have c2 := hd (fun w h => nos_s nos u w (by omega) h g2 hg2)
  obtain ⟨a1, k1, rfl, _⟩ := hu
  simp only [List.length_map] at *
  rw [hg1] at c1
  have hbg := hd (show b = (g1 && g2) by rw [← hb, viewB, hg1, hg2])
  have hrg := hd (show r = if (g1 && g2) then flat (pick nos true (rfF s.data.toList)) else [] by rw [← hr, viewR, viewB, hg1, hg2])
  have hll := rfF_len s.data.toList
  clear hb hr hg1 hg2
  cases g1 with
  | false =>
    go_enter Try.func21, Try.ntmps21
    go_wp2_with fail
    refine (c1.out _).mono ?_
    rintro e w2 ⟨v2, rfl, ho2, hb2⟩
    replace hb2 := hd hb2
    replace ho2 := hd ho2
    go_wp2_with fail
    go_ret2
    exact ⟨by rw [hbg.out, hrg.out]; rfl, hb2.out⟩
  | true =>
    cases g2 with
    | false =>
      go_enter Try.func21, Try.ntmps21
      go_wp2_with fail
      refine (c1.out _).mono ?_
      rintro e w2 ⟨v2, rfl, ho2, hb2⟩
      replace hb2 := hd hb2
      replace ho2 := hd ho2
      go_wp2_with fail
      refine (c2.out _ (hT.out.mono hb2.out)).mono ?_
      rintro e w3 ⟨rfl, rfl⟩
      go_wp2_with fail
      go_ret2
      exact ⟨by rw [hbg.out, hrg.out]; rfl, hb2.out⟩
    | true =>
      have hpl := pick_len nos true (rfF s.data.toList)
      have c5 := hd (fun v w h => fields_s (pick nos true (rfF s.data.toList)) v w (by omega) (pick_ok (rfF_ok _)) (small_of (pick_ok (rfF_ok _)) (pick_flat _ nos true)) h)
      go_enter Try.func21, Try.ntmps21
      go_wp2_with fail
      refine (c1.out _).mono ?_
      rintro e w2 ⟨v2, rfl, ho2, hb2⟩
      replace hb2 := hd hb2
      replace ho2 := hd ho2
      go_wp2_with fail
      refine (c2.out _ (hT.out.mono hb2.out)).mono ?_
      rintro e w3 ⟨rfl, rfl⟩
      go_wp2_with fail
      refine (pick_s (rfF s.data.toList) nos true _ _ _ (by omega) hn ho2.out.sl (hT.out.mono hb2.out)).mono ?_
      rintro e w4 ⟨v4, rfl, ho4, hb4⟩
      have hB4 := hd (hb2.out.next hb4)
      replace ho4 := hd ho4
      clear hb4
      go_wp2_with fail
      refine (c5.out _ _ ho4.out.sl).mono ?_
      rintro e w6 ⟨rfl, hb6⟩
      have hB6 := hd (hB4.out.next hb6)
      clear hb6
      go_wp2_with fail
      go_ret2
      exact ⟨by rw [hbg.out, hrg.out]; rfl, hB6.out⟩
end Go.Proofs.Ytpkmghllidejhaa

/- Whether two terms are the same: l6Same of the reference. -/
import Derived.Test.YtbjilpemckoioaaGoodT
import Derived.Test.YtbjilpemckoioaaQuietB
namespace Go.Proofs.Ytbjilpemckoioaa
open Go.RowKit
set_option linter.unusedVariables false
set_option maxRecDepth 100000
/-- A tree whose data are a number and a name alone. -/
inductive TmP : K → Prop
  | mk (v : Int) (nm : ByteArray) (ks : List K) (hk : ∀ k ∈ ks, TmP k) : TmP (tmK v nm ks)
theorem TmOk.p {t : K} (h : TmOk t) : TmP t := by
  induction h with
  | var v h => exact .mk v _ _ (by simp)
  | app nm ks h h4 h5 hk ih => exact .mk 0 nm ks ih
theorem TmP.part {t p : K} (h : TmP t) (hp : p ∈ t.parts) : TmP p := by
  cases h with
  | mk v nm ks hk => exact hk p hp
theorem TmP.ext {a b : K} (ha : TmP a) (hb : TmP b) (h1 : a.of = b.of) (h2 : a.name = b.name) (h3 : a.parts = b.parts) : a = b := by
  cases ha with
  | mk v nm ks _ =>
    cases hb with
    | mk v' nm' ks' _ =>
      have e1 : v = v' := h1
      have e2 : nm = nm' := h2
      have e3 : ks = ks' := h3
      rw [e1, e2, e3]
theorem parts_eq {ps qs : List K} (hl : ps.length = qs.length) (h : ∀ i (h : i < ps.length) (h' : i < qs.length), i < ps.length → ps[i] = qs[i]) : ps = qs :=
  List.ext_getElem hl (fun i h1 h2 => h i h1 h2 h1)
theorem same_false {g : Bool} {a b : K} (hg : g = true ↔ a = b) (h : a ≠ b) : g = false := by
  cases g with
  | false => rfl
  | true => exact absurd (hg.1 rfl) h
set_option maxHeartbeats 6400000 in
theorem same_s (a : K) : ∀ (b : K) (ra rb : List Value) (w : World) (S S' : Nat → Prop), (∀ k, S k → k < w.heap.size) → (∀ k, S' k → k < w.heap.size) → countK a ≤ 1000000 → countK b ≤ 1000000 → TmP a → TmP b → RepZ HT 3 w S a ra → RepZ HT 3 w S' b rb → ∀ g : Bool, (g = true ↔ a = b) →
    Calls Try.prog 112 #[.agg ra.toArray, .agg rb.toArray] w (BoolPost g w) := by
  refine K.ind2 (P := fun a => ∀ (b : K) (ra rb : List Value) (w : World) (S S' : Nat → Prop), (∀ k, S k → k < w.heap.size) → (∀ k, S' k → k < w.heap.size) → countK a ≤ 1000000 → countK b ≤ 1000000 → TmP a → TmP b → RepZ HT 3 w S a ra → RepZ HT 3 w S' b rb → ∀ g : Bool, (g = true ↔ a = b) →
    Calls Try.prog 112 #[.agg ra.toArray, .agg rb.toArray] w (BoolPost g w)) ?_ a
  intro a ih b ra rb w S S' hS hS' hca hcb hpa hpb hA hB g hg
  replace ih := hd ih
  obtain ⟨aA, cA, rwA, rfl, hSA, hlA, hgA⟩ := hA.openT
  obtain ⟨aB, cB, rwB, rfl, hSB, hlB, hgB⟩ := hB.openT
  have hla : a.parts.length ≤ 1000000 := by have h1 := len_count a.parts; have h2 := countK_eq a; omega
  have hlb : b.parts.length ≤ 1000000 := by have h1 := len_count b.parts; have h2 := countK_eq b; omega
  have hqa := hd (fun p (hp : p ∈ a.parts) => (show countK p ≤ 1000000 ∧ TmP p from ⟨by have h1 := count_part hp; have h2 := countK_eq a; omega, hpa.part hp⟩))
  have hqb := hd (fun p (hp : p ∈ b.parts) => (show countK p ≤ 1000000 ∧ TmP p from ⟨by have h1 := count_part hp; have h2 := countK_eq b; omega, hpb.part hp⟩))
  have hno := hd (fun (h : a ≠ b) => same_false hg h)
  have hyes := hd (fun h1 h2 h3 => (hg.2 (TmP.ext hpa hpb h1 h2 h3)))
  have hne1 := hd (fun (h : a.of ≠ b.of) => same_false hg (fun e => h (by rw [e])))
  have hne2 := hd (fun (h : a.name ≠ b.name) => same_false hg (fun e => h (by rw [e])))
  have hne3 := hd (fun (h : a.parts.length ≠ b.parts.length) => same_false hg (fun e => h (by rw [e])))
  have hne4 := hd (fun (h : a.parts ≠ b.parts) => same_false hg (fun e => h (by rw [e])))
  clear hA hB hpa hpb hca hcb hg hno
  replace hgA := hd hgA
  replace hgB := hd hgB
  generalize a.of = vA at *
  generalize a.name = nA at *
  generalize b.of = vB at *
  generalize b.name = nB at *
  have hXa := hd (show BoxN ((w.alloc (.cells #[.int .i64 vA, .string nA, .slice aA a.parts.length cA] 91)).alloc (.cells #[.int .i64 vB, .string nB, .slice aB b.parts.length cB] 91)) w.heap.size [.int .i64 vA, .string nA, .slice aA a.parts.length cA] from (BoxN.new w _ _).below (below_a1 _))
  have hXb := hd (show BoxN ((w.alloc (.cells #[.int .i64 vA, .string nA, .slice aA a.parts.length cA] 91)).alloc (.cells #[.int .i64 vB, .string nB, .slice aB b.parts.length cB] 91)) (w.heap.size + 1) [.int .i64 vB, .string nB, .slice aB b.parts.length cB] from by
    have := BoxN.new (w.alloc (.cells #[.int .i64 vA, .string nA, .slice aA a.parts.length cA] 91)) [.int .i64 vB, .string nB, .slice aB b.parts.length cB] 91
    rwa [World.size_alloc] at this)
  have hbW := hd (below_a2 w (a := .cells #[.int .i64 vA, .string nA, .slice aA a.parts.length cA] 91) (b := .cells #[.int .i64 vB, .string nB, .slice aB b.parts.length cB] 91))
  go_enter Try.func112, Try.ntmps112
  go_upto_region 1 with (fail)
  generalize (w.alloc (.cells #[.int .i64 vA, .string nA, .slice aA a.parts.length cA] 91)).alloc (.cells #[.int .i64 vB, .string nB, .slice aB b.parts.length cB] 91) = W at *
  have x0 := hXa.out.1 0 _ rfl; have x1 := hXa.out.1 1 _ rfl; have x2 := hXa.out.1 2 _ rfl
  have y0 := hXb.out.1 0 _ rfl; have y1 := hXb.out.1 1 _ rfl; have y2 := hXb.out.1 2 _ rfl
  by_cases h1 : vA = vB
  · subst h1
    by_cases h2 : nA = nB
    · subst h2
      by_cases h3 : a.parts.length = b.parts.length
      · have h3I : (a.parts.length : Int) = (b.parts.length : Int) := by omega
        have h3b : ((a.parts.length : Int) != (b.parts.length : Int)) = false := by rw [bne_eq_false_iff_eq]; exact h3I
        replace hyes := hd (fun h => hyes.out rfl rfl h)
        clear hne1 hne2 hne3
        go_wp2_with fail
        go_loopw [30] (fun n wr => ∃ k : Nat, n = .int .i64 k ∧ k ≤ a.parts.length ∧ Hd (∀ i (h : i < a.parts.length) (h' : i < b.parts.length), i < k → a.parts[i] = b.parts[i]) ∧ Hd (Below W.heap.size W wr)) (fun n _ => a.parts.length - (intOf n).toNat)
        case atStart => exact ⟨0, rfl, Nat.zero_le _, fun i _ _ h => by omega, Below.refl _ _⟩
        case round =>
          obtain ⟨k, rfl, hk, hok, hbl⟩ := hrel
          obtain ⟨wo, rfl⟩ : ∃ wo : World, wo = wr := ⟨_, rfl⟩
          have hbw := hd (hbW.out.next hbl.out)
          by_cases hlt : k < a.parts.length
          · have hltI : (k : Int) < (a.parts.length : Int) := by omega
            have hltb : k < b.parts.length := by omega
            have hltJ : (k : Int) < (b.parts.length : Int) := by omega
            have hkA : k < rwA.length := by omega
            have hkB : k < rwB.length := by omega
            obtain ⟨b1, rfl, hb1, hc1⟩ := hSA.at (j := k) hkA
            obtain ⟨b2, rfl, hb2, hc2⟩ := hSB.at (j := k) hkB
            have rx := hgA.out k hlt hkA
            have ry := hgB.out k hltb hkB
            obtain ⟨aX, cX, rX, hrX, hj1⟩ := rx.openT
            obtain ⟨aY, cY, rY, hrY, hj2⟩ := ry.openT
            clear hj1 hj2
            have q1 := hc1 k hkA
            have q2 := hc2 k hkB
            rw [hrX] at q1 rx
            rw [hrY] at q2 ry
            obtain ⟨gk, hgk⟩ := boolOf (a.parts[k] = b.parts[k])
            have hxm := hqa.out _ (List.getElem_mem hlt)
            have hym := hqb.out _ (List.getElem_mem hltb)
            have ck := hd (fun (w' : World) (hw : Below w.heap.size w w') => ih.out a.parts[k] (List.getElem_mem hlt) b.parts[k] _ _ w' S S' (fun q h => Nat.lt_of_lt_of_le (hS q h) hw.size) (fun q h => Nat.lt_of_lt_of_le (hS' q h) hw.size) hxm.1 hym.1 hxm.2 hym.2 (RepZ.same (SameS.below hw hS) (fun _ h => h) _ _ rx) (RepZ.same (SameS.below hw hS') (fun _ h => h) _ _ ry) gk hgk)
            have hstep := hd (fun (e : gk = true) => (show ∀ i (h : i < a.parts.length) (h' : i < b.parts.length), i < k + 1 → a.parts[i] = b.parts[i] from fun i h1 h2 h3 => by
              by_cases e2 : i = k
              · subst e2; exact hgk.1 e
              · exact hok.out i h1 h2 (by omega)))
            have hstop := hd (fun (e : gk = false) => hne4.out (fun q => by
              have : a.parts[k] = b.parts[k] := by simp only [q]
              rw [hgk.2 this] at e; cases e))
            have d0 := keepCell hbw.out (show w.cell? ⟨b1, k * 3, none⟩ = _ from q1 0 _ rfl)
            have d1 := keepCell hbw.out (q1 1 _ rfl)
            have d2 := keepCell hbw.out (q1 2 _ rfl)
            have e0 := keepCell hbw.out (show w.cell? ⟨b2, k * 3, none⟩ = _ from q2 0 _ rfl)
            have e1 := keepCell hbw.out (q2 1 _ rfl)
            have e2 := keepCell hbw.out (q2 2 _ rfl)
            have xx := keepCell hbl.out x2
            have yy := keepCell hbl.out y2
            clear hc1 hc2 q1 q2 hrX hrY rx ry hgk hxm hym x0 x1 x2 y0 y1 y2
            generalize a.parts[k] = X at *
            generalize b.parts[k] = Y at *
            go_upto_region 6 with (fail)
            replace d0 := cellB d0
            replace d1 := cellB d1
            replace d2 := cellB d2
            replace e0 := cellB e0
            replace e1 := cellB e1
            replace e2 := cellB e2
            replace xx := cellB xx
            replace yy := cellB yy
            have hmx : Try.prog.follows .mixedOrders = true := by kernel_rfl
            refine wp_region_below hmx (by kernel_rfl) ?_
            repeat (go_big_quiet_step ((go_at_call 112; refine callsB (ck.out _ (hbw.out.next (BB.h _))))))
            refine wpQuiet_nil ?_
            intro _ hw'
            obtain ⟨⟨wq, hbq⟩, hw''⟩ := hw'
            subst hw''
            have hbl6 := hd (hbl.out.next hbq)
            have hbw6 := hd (hbw.out.next hbq)
            cases gk with
            | true =>
              have hnx := hd (hstep.out rfl)
              go_wp2_with fail
              go_roundw
              case rel => exact ⟨k + 1, by go_num, by omega, hnx, hbl6⟩
              case measure => simp [intOf]; omega
            | false =>
              have hgf := hd (hstop.out rfl)
              go_wp2_with fail
              go_ret
              exact ⟨(by rw [hgf.out] <;> rfl), hbw6.out⟩
          · obtain rfl : k = a.parts.length := by omega
            have hltI : ¬ (a.parts.length : Int) < (a.parts.length : Int) := by omega
            have hz4 := hd (hyes.out (parts_eq h3 hok.out))
            go_wp2_with fail
            go_ret
            exact ⟨(by rw [hz4.out] <;> rfl), hbw.out⟩
      · have h3b : ((a.parts.length : Int) != (b.parts.length : Int)) = true := by rw [bne_iff_ne]; omega
        have hgf := hd (hne3.out h3)
        go_wp2_with fail
        go_ret
        exact ⟨(by rw [hgf.out] <;> rfl), hbW.out⟩
    · have h2b : ¬ nA.toList = nB.toList := fun e => h2 (ByteArray.ext (Array.toList_inj.1 (by rw [← ByteArray.toList_eq, ← ByteArray.toList_eq]; exact e)))
      have hgf := hd (hne2.out h2)
      go_wp2_with fail
      go_ret
      exact ⟨(by rw [hgf.out] <;> rfl), hbW.out⟩
  · have h1b : (vA != vB) = true := by simpa using h1
    have hgf := hd (hne1.out h1)
    go_wp2_with fail
    go_ret
    exact ⟨(by rw [hgf.out] <;> rfl), hbW.out⟩
end Go.Proofs.Ytbjilpemckoioaa

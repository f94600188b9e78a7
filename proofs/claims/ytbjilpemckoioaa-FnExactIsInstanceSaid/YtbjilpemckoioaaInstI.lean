/- Whether a term is an instance of a pattern: (*tree).instance of the program. -/
import Derived.Test.YtbjilpemckoioaaInstE
namespace Go.Proofs.Ytbjilpemckoioaa
open Go.RowKit Go.Maps Go.ChangeMaps
set_option linter.unusedVariables false
set_option maxRecDepth 100000
def EnvOk (env : Int → Option K) : Prop := ∀ o t, env o = some t → countK t ≤ 1000000 ∧ TmP t
theorem EnvOk.upd {env : Int → Option K} (h : EnvOk env) {a : K} (h1 : countK a ≤ 1000000) (h2 : TmP a) (o : Int) : EnvOk (updE env o a) := by
  intro i t ht
  rw [updE] at ht
  split at ht
  · cases ht; exact ⟨h1, h2⟩
  · exact h i t ht
theorem insL_ok : ∀ (ps : List K), (∀ p ∈ ps, ∀ a env, EnvOk env → countK a ≤ 1000000 → TmP a → EnvOk (insK p a env).2) → ∀ (xs : List K) (env : Int → Option K), EnvOk env → (∀ x ∈ xs, countK x ≤ 1000000 ∧ TmP x) → EnvOk (insL ps xs env).2 := by
  intro ps
  induction ps with
  | nil => intro _ xs env h _; rw [insL_nil]; exact h
  | cons p ps ih =>
    intro hp xs env h hx
    cases xs with
    | nil => rw [insL]; exact h
    | cons x xs =>
      rw [insL_cons]
      have h1 := hp p (by simp) x env h (hx x (by simp)).1 (hx x (by simp)).2
      split
      · exact ih (fun q hq => hp q (by simp [hq])) xs _ h1 (fun y hy => hx y (by simp [hy]))
      · exact h1
theorem insK_ok (b : K) : ∀ (a : K) (env : Int → Option K), EnvOk env → countK a ≤ 1000000 → TmP a → EnvOk (insK b a env).2 := by
  refine K.ind2 (P := fun b => ∀ (a : K) (env : Int → Option K), EnvOk env → countK a ≤ 1000000 → TmP a → EnvOk (insK b a env).2) ?_ b
  intro b ih a env h hc hp
  rw [insK_eq]
  split
  · split
    · exact h
    · exact h.upd hc hp _
  · split
    · refine insL_ok b.parts ih a.parts env h (fun x hx => ⟨?_, hp.part hx⟩)
      have h1 := count_part hx
      have h2 := countK_eq a
      omega
    · exact h
theorem insL_okT {a : K} (b : K) (k : Nat) {env : Int → Option K} (h : EnvOk env) (hc : countK a ≤ 1000000) (hp : TmP a) : EnvOk (insL (b.parts.take k) (a.parts.take k) env).2 :=
  insL_ok _ (fun p _ => insK_ok p) _ _ h (fun x hx => by
    have hx := List.mem_of_mem_take hx
    have h1 := count_part hx
    have h2 := countK_eq a
    exact ⟨by omega, hp.part hx⟩)
theorem TmOk.part {t p : K} (h : TmOk t) (hp : p ∈ t.parts) : TmOk p := by
  cases h with
  | var v h => simp [tmK, K.parts] at hp
  | app nm ks h h4 h5 hk => exact hk p hp
def InPost (k : TypeId) (r : Bool × (Int → Option K)) (m n c : Nat) (S : Nat → Prop) (w : World) (e : Ending) (w' : World) : Prop :=
  e = .returned (.bool r.1) ∧ (r.1 = true → ∃ n', n' ≤ n + c ∧ EnvM k w' m n' S r.2) ∧ w.grownBy w' (some m)
theorem wpList_putEnv (w : World) {ops : Array Oper} {rest : List Oper} {o : Oper} {a : Act} {Q : Exit → Act → World → Prop} (hg : o.guard = none) (mo x v : Operand) (t : TypeId) (hop : o.op = Op.mapUpdate t mo x v)
    {k e : TypeId} {m n : Nat} {S : Nat → Prop} {env : Int → Option K} (h : EnvM k w m n S env) (hk : Try.prog.underlying k = some (.int .i64)) (ht : Try.prog.underlying t = some (.map k e)) (hn : n < maxLen) {i : Int} (h1 : 1 ≤ i) (h6 : i ≤ 6) {aa : K} {b : Nat} (hS : ∀ q, S q → q < w.heap.size ∧ q ≠ m) (hR : RepY HT w S aa (.pointer (some ⟨b, 0, none⟩)))
    (hm : a.eval mo = .map (some m)) (hx : a.eval x = .int .i64 i) (hv : a.eval v = .pointer (some ⟨b, 0, none⟩)) (hK : ∀ w', EnvM k w' m (n + 1) S (updE env i aa) → w.grownBy w' (some m) → wpList Try.prog ops Q rest (a.put o.dst undef) w') :
    wpList Try.prog ops Q (o :: rest) a w := by
  refine wpList_plain hg fun K' hK' => ?_
  obtain ⟨w', hrun, r1, r2⟩ := h.put hk ht hn h1 h6 hS hR
  unfold Oper.wp
  simp [execOp, hop, hm, hx, hv, hrun, Result.andThen]
  exact hK' _ _ (hK w' r1 r2)
theorem zeroTP (w : World) : (zeroValue 95).run Try.prog w = .ok (.pointer none) w := by kernel_rfl
theorem grown_below {w w1 w2 : World} {m : Nat} (h : w.grownBy w1 (some m)) (hb : Below w1.heap.size w1 w2) : w.grownBy w2 (some m) := grownBy_trans h (below_grownBy hb _) (.inl rfl)
set_option maxHeartbeats 6400000 in
theorem instance_i (b : K) : ∀ (a : K) (env : Int → Option K) (va vb : Value) (w : World) (m n : Nat) (S : Nat → Prop), (∀ q, S q → q < w.heap.size ∧ q ≠ m) → m < w.heap.size → countK a ≤ 1000000 → countK b ≤ 1000000 → n + countK b ≤ 2000000 → TmOk a → TmOk b → EnvOk env → RepY HT w S a va → RepY HT w S b vb → EnvM 3 w m n S env →
    Calls Try.prog 57 #[va, vb, .map (some m)] w (InPost 3 (insK b a env) m n (countK b) S w) := by
  refine K.ind2 (P := fun b => ∀ (a : K) (env : Int → Option K) (va vb : Value) (w : World) (m n : Nat) (S : Nat → Prop), (∀ q, S q → q < w.heap.size ∧ q ≠ m) → m < w.heap.size → countK a ≤ 1000000 → countK b ≤ 1000000 → n + countK b ≤ 2000000 → TmOk a → TmOk b → EnvOk env → RepY HT w S a va → RepY HT w S b vb → EnvM 3 w m n S env →
    Calls Try.prog 57 #[va, vb, .map (some m)] w (InPost 3 (insK b a env) m n (countK b) S w)) ?_ b
  intro b ih a env va vb w m n S hS hm hca hcb hn hoa hob hev hA hB hE
  obtain ⟨bA, aA, cA, vsA, rfl, hbA, hxA, hSA, hlA, hgA⟩ := hA.open
  obtain ⟨bB, aB, cB, vsB, rfl, hbB, hxB, hSB, hlB, hgB⟩ := hB.open
  have hla : a.parts.length ≤ 1000000 := by have h1 := len_count a.parts; have h2 := countK_eq a; omega
  have hlb : b.parts.length ≤ 1000000 := by have h1 := len_count b.parts; have h2 := countK_eq b; omega
  have x0 := hxA 0 _ rfl
  have x1 := hxA 1 _ rfl
  have x2 := hxA 2 _ rfl
  have y0 := hxB 0 _ rfl
  have y1 := hxB 1 _ rfl
  have y2 := hxB 2 _ rfl
  change w.cell? ⟨bA, 0, none⟩ = some (.int .i64 a.of) at x0
  change w.cell? ⟨bA, 1, none⟩ = some (.string a.name) at x1
  change w.cell? ⟨bB, 0, none⟩ = some (.int .i64 b.of) at y0
  change w.cell? ⟨bB, 1, none⟩ = some (.string b.name) at y1
  change w.cell? ⟨bA, 2, none⟩ = some (.slice aA a.parts.length cA) at x2
  change w.cell? ⟨bB, 2, none⟩ = some (.slice aB b.parts.length cB) at y2
  clear hxA hxB
  have hmx : Try.prog.follows .mixedOrders = true := by kernel_rfl
  obtain ⟨r, hr⟩ : ∃ r, insK b a env = r := ⟨_, rfl⟩
  rw [hr]
  have hap : 0 ≤ a.of := by cases hoa with | var v h => exact (show 0 ≤ v by omega) | app => exact Int.le_refl _
  have hbp : 0 ≤ b.of ∧ b.of ≤ 6 := by cases hob with | var v h => exact (show 0 ≤ v ∧ v ≤ 6 by omega) | app => exact ⟨Int.le_refl _, show (0 : Int) ≤ 6 by decide⟩
  have hrI := hr
  rw [insK_eq] at hrI
  by_cases hv : 0 < b.of
  · rw [if_pos hv] at hrI
    have hk3 : Try.prog.underlying 3 = some (.int .i64) := Try.underlying3
    have ht3 := Try.underlying101
    have hlk := hE.look hk3 ht3 (zeroTP w) (o := b.of) (by omega) hbp.2
    clear ih hgA hgB hSA hSB
    cases he : env b.of with
    | some t =>
      rw [he] at hrI
      obtain ⟨b', hlk1, hR⟩ := hlk.2 t he
      obtain ⟨g, hg⟩ := boolOf (t = a)
      have cs := hd (fun w' (hw : Below w.heap.size w w') => same_i t a _ _ w' S S (fun q h => Nat.lt_of_lt_of_le (hS q h).1 hw.size) (fun q h => Nat.lt_of_lt_of_le (hS q h).1 hw.size) (hev _ _ he).1 hca (hev _ _ he).2 hoa.p (RepY.same (SameS.below hw (fun q h => (hS q h).1)) (fun _ h => h) _ _ hR) (RepY.same (SameS.below hw (fun q h => (hS q h).1)) (fun _ h => h) _ _ hA) g hg)
      have hr1 : r.1 = g := by
        rw [← hrI, Bool.eq_iff_iff, hg]; simp
      have hr2 : r.2 = env := by rw [← hrI]
      have hfin := hd (fun w' (hw : Below w.heap.size w w') => (show InPost 3 r m n (countK b) S w (.returned (.bool g)) w' from ⟨by rw [hr1], fun _ => ⟨n, by omega, by rw [hr2]; exact hE.below hw (fun q h => (hS q h).1)⟩, below_grownBy hw _⟩))
      clear hr hrI hlk hA hB hE hev hS hg hr1 hr2 hoa hob
      generalize b.of = vB at *
      go_enter Try.func57, Try.ntmps57
      go_wp2_with fail
      refine (cs.out _ (Below.refl _ _)).mono ?_
      rintro e w6 ⟨rfl, hb6⟩
      go_wp2_with fail
      go_ret
      exact hfin.out _ hb6
    | none =>
      rw [he] at hrI
      obtain ⟨v0, hlk1⟩ := hlk.1 he
      have hr1 : r.1 = true := by rw [← hrI]
      have hr2 : r.2 = updE env b.of a := by rw [← hrI]
      have hEE := hd hE
      have hSS := hd hS
      have hAA := hd hA
      have hfin := hd (fun w' (hE' : EnvM 3 w' m (n + 1) S (updE env b.of a)) (hw : w.grownBy w' (some m)) => (show InPost 3 r m n (countK b) S w (.returned (.bool true)) w' from ⟨by rw [hr1], fun _ => ⟨n + 1, by have := countK_pos b; omega, by rw [hr2]; exact hE'⟩, hw⟩))
      clear hr hrI hlk hA hB hE hev hS hr1 hr2 hoa hob
      generalize b.of = vB at *
      have hv1 : 1 ≤ vB := by omega
      go_enter Try.func57, Try.ntmps57
      go_wp2_with (at_mapUpdate; refine wpList_putEnv _ rfl (.tmp 29) (.tmp 33) (.tmp 34) 101 rfl hEE.out hk3 ht3 (by unfold maxLen; omega) hv1 hbp.2 hSS.out hAA.out rfl rfl rfl ?_; intro w6 hE6 hg6; replace hE6 := hd hE6; replace hg6 := hd hg6)
      go_ret
      exact hfin.out _ hE6.out hg6.out
  · rw [if_neg hv] at hrI
    have hvb0 : b.of = 0 := by omega
    have hqa := hd (fun p (hp : p ∈ a.parts) => (show countK p ≤ 1000000 ∧ TmOk p from ⟨by have h1 := count_part hp; have h2 := countK_eq a; omega, hoa.part hp⟩))
    have hqb := hd (fun p (hp : p ∈ b.parts) => (show countK p ≤ 1000000 ∧ TmOk p from ⟨by have h1 := count_part hp; have h2 := countK_eq b; omega, hob.part hp⟩))
    have hevk := hd (fun k => insL_okT b k hev hca hoa.p)
    have hcnt := hd (fun k (h : k < b.parts.length) => (show n + countL (b.parts.take k) + countK b.parts[k] ≤ 2000000 ∧ n + countL (b.parts.take (k + 1)) = n + countL (b.parts.take k) + countK b.parts[k] ∧ n + countL (b.parts.take (k + 1)) ≤ n + countK b from by
      have h1 := countL_take h
      have h2 := countL_le b.parts (k + 1)
      have h3 := countK_eq b
      omega))
    have hno := hd (fun (h : ¬(a.of = 0 ∧ a.name = b.name ∧ a.parts.length = b.parts.length)) w' (hw : Below w.heap.size w w') => (show InPost 3 r m n (countK b) S w (.returned (.bool false)) w' from by
      rw [if_neg h] at hrI; subst hrI
      exact ⟨rfl, (fun e => by cases e), below_grownBy hw _⟩))
    have hyes := hd (fun (h : a.of = 0 ∧ a.name = b.name ∧ a.parts.length = b.parts.length) => (show r = insL b.parts a.parts env from by rw [if_pos h] at hrI; exact hrI.symm))
    clear hr hrI hev hoa hob hA hB hv hbp
    rw [hvb0] at y0
    generalize b.of = vB at *
    clear hvb0
    have z0 := y0
    have q2A := hd x2
    have q2B := hd y2
    replace x0 := cellB x0
    replace x1 := cellB x1
    replace x2 := cellB x2
    replace y1 := cellB y1
    replace y2 := cellB y2
    generalize hva : a.of = vA at *
    generalize hna : a.name = nA at *
    generalize hnb : b.name = nB at *
    by_cases h1 : vA = 0
    · subst h1
      by_cases h2 : nA = nB
      · subst h2
        by_cases h3 : a.parts.length = b.parts.length
        · have h3b : ((a.parts.length : Int) != (b.parts.length : Int)) = false := by rw [bne_eq_false_iff_eq]; omega
          have hrr := hd (hyes.out ⟨rfl, rfl, h3⟩)
          replace h3 := hd h3
          replace hlA := hd hlA
          replace hlB := hd hlB
          replace hgA := hd hgA
          replace hgB := hd hgB
          replace hS := hd hS
          replace hE := hd hE
          replace ih := hd ih
          clear hno hyes
          go_enter Try.func57, Try.ntmps57
          go_wp2_with fail
          refine wp_region_below hmx (by kernel_rfl) ?_
          repeat (go_big_quiet_step ((fail)))
          refine wpQuiet_nil ?_
          intro _ hw'
          obtain ⟨⟨wq, hbq⟩, hw''⟩ := hw'
          subst hw''
          have hbl6 := hd hbq
          have x2w := keepCell hbl6.out q2A.out
          have y2w := keepCell hbl6.out q2B.out
          clear x0 x1 x2 z0 y0 y1 y2 hbq
          go_wp2_with fail
          go_loopw [69] (fun i wr => ∃ k n' : Nat, i = .int .i64 k ∧ k ≤ a.parts.length ∧ n' ≤ n + countL (b.parts.take k) ∧ Hd ((insL (b.parts.take k) (a.parts.take k) env).1 = true) ∧ Hd (EnvM 3 wr m n' S (insL (b.parts.take k) (a.parts.take k) env).2) ∧ Hd (w.grownBy wr (some m))) (fun i _ => a.parts.length - (intOf i).toNat)
          case atStart => exact ⟨0, n, rfl, Nat.zero_le _, by omega, by rw [List.take_zero, List.take_zero, insL_nil]; trivial, by rw [List.take_zero, List.take_zero, insL_nil]; exact hE.out.below hbl6.out (fun q h => (hS.out q h).1), below_grownBy hbl6.out _⟩
          case round =>
            obtain ⟨k, n', rfl, hk, hn', hok, hEk, hgr⟩ := hrel
            obtain ⟨wo, rfl⟩ : ∃ wo : World, wo = wr := ⟨_, rfl⟩
            by_cases hlt : k < a.parts.length
            · have hltI : (k : Int) < (a.parts.length : Int) := by omega
              have hltb : k < b.parts.length := by have := h3.out; omega
              have hltJ : (k : Int) < (b.parts.length : Int) := by omega
              have hkA : k < vsA.length := by have := hlA.out; omega
              have hkB : k < vsB.length := by have := hlB.out; omega
              obtain ⟨b1, rfl, hb1, hc1⟩ := hSA.at (j := k) hkA
              obtain ⟨b2, rfl, hb2, hc2⟩ := hSB.at (j := k) hkB
              have hsz := hgr.out.size
              have ws : SameS w wo S := SameS.grown hgr.out (fun q h => (hS.out q h).1) (fun q h e => (hS.out q h).2 (Option.some.inj e))
              have q1 : wo.cell? ⟨b1, k, none⟩ = some vsA[k] := by rw [ws b1 hb1]; exact hc1 k hkA
              have q2 : wo.cell? ⟨b2, k, none⟩ = some vsB[k] := by rw [ws b2 hb2]; exact hc2 k hkB
              have RA := RepY.same ws (fun _ h => h) _ _ (hgA.out k hlt hkA)
              have RB := RepY.same ws (fun _ h => h) _ _ (hgB.out k hltb hkB)
              obtain ⟨pa, _, _, _, e1, _⟩ := RA.open
              obtain ⟨pb, _, _, _, e2, _⟩ := RB.open
              rw [e1] at q1 RA
              rw [e2] at q2 RB
              have x2k : wo.cell? ⟨bA, 2, none⟩ = some (.slice (some ⟨b1, 0, none⟩) a.parts.length cA) := by rw [ws bA hbA]; exact q2A.out
              have y2k : wo.cell? ⟨bB, 2, none⟩ = some (.slice (some ⟨b2, 0, none⟩) b.parts.length cB) := by rw [ws bB hbB]; exact q2B.out
              have hxm := hqa.out _ (List.getElem_mem hlt)
              have hym := hqb.out _ (List.getElem_mem hltb)
              have hcn := hcnt.out k hltb
              have ck := hd (ih.out b.parts[k] (List.getElem_mem hltb) a.parts[k] _ _ _ wo m n' S (fun q h => ⟨Nat.lt_of_lt_of_le (hS.out q h).1 hsz, (hS.out q h).2⟩) (by omega) hxm.1 hym.1 (by omega) hxm.2 hym.2 (hevk.out k) RA RB hEk.out)
              have htk := insL_take (ps := b.parts) (xs := a.parts) hltb hlt env
              rw [if_pos hok.out] at htk
              have hstop := hd (fun (h : (insL (b.parts.take (k + 1)) (a.parts.take (k + 1)) env).1 = false) => (show r.1 = false from by
                have h4 := insL_stop h3.out.symm h (b.parts.length - (k + 1)) (by omega)
                rw [show k + 1 + (b.parts.length - (k + 1)) = b.parts.length by omega, List.take_of_length_le (Nat.le_refl _), List.take_of_length_le (by rw [h3.out]; exact Nat.le_refl _)] at h4
                rw [hrr.out]; exact h4))
              clear hc1 hc2 e1 e2 hxm hym x2w y2w
              generalize insK b.parts[k] a.parts[k] (insL (b.parts.take k) (a.parts.take k) env).2 = rk at *
              obtain ⟨gk, ek⟩ := rk
              replace htk := hd htk
              go_wp2_with fail
              refine ck.out.mono ?_
              rintro e w6 ⟨rfl, hE6, hg6⟩
              have hgr6 := hd (grownBy_trans hgr.out hg6 (.inl rfl))
              clear hg6
              cases gk with
              | true =>
                obtain ⟨n6, hn6, hE7⟩ := hE6 rfl
                clear hE6
                replace hE7 := hd hE7
                go_wp2_with fail
                go_roundw
                case rel => exact ⟨k + 1, n6, by go_num, by omega, by omega, by rw [htk.out]; trivial, by rw [htk.out]; exact hE7.out, hgr6⟩
                case measure => simp [intOf]; omega
              | false =>
                have hr1 := hd (hstop.out (by rw [htk.out]))
                clear hE6
                go_wp2_with fail
                go_ret
                exact ⟨(by rw [hr1.out] <;> rfl), (fun e => by rw [hr1.out] at e; cases e), hgr6.out⟩
            · obtain rfl : k = a.parts.length := by omega
              have hltI : ¬ (a.parts.length : Int) < (a.parts.length : Int) := by omega
              have hfu : r = insL (b.parts.take a.parts.length) (a.parts.take a.parts.length) env := by
                rw [hrr.out, List.take_of_length_le (Nat.le_refl _), List.take_of_length_le (by rw [h3.out]; exact Nat.le_refl _)]
              have hrf := hd hfu
              have hlast := hd (show n' ≤ n + countK b by have h1 := countL_le b.parts a.parts.length; have h2 := countK_eq b; omega)
              clear hfu
              go_wp2_with fail
              go_ret
              exact ⟨(by rw [hrf.out, hok.out] <;> rfl), (fun _ => ⟨n', hlast.out, by rw [hrf.out]; exact hEk.out⟩), hgr.out⟩
        · have h3b : ((a.parts.length : Int) != (b.parts.length : Int)) = true := by rw [bne_iff_ne]; omega
          have hgf := hd (hno.out (fun h => h3 h.2.2))
          clear ih hSA hSB hgA hgB
          go_enter Try.func57, Try.ntmps57
          go_wp2_with fail
          refine wp_region_below hmx (by kernel_rfl) ?_
          repeat (go_big_quiet_step ((fail)))
          refine wpQuiet_nil ?_
          intro _ hw'
          obtain ⟨⟨wq, hbq⟩, hw''⟩ := hw'
          subst hw''
          have hbl6 := hd hbq
          go_wp2_with fail
          go_ret
          exact hgf.out _ hbl6.out
      · have h2b : (nA.toList != nB.toList) = true := by
          rw [bne_iff_ne]
          exact fun e => h2 (ByteArray.ext (Array.toList_inj.1 (by rw [← ByteArray.toList_eq, ← ByteArray.toList_eq]; exact e)))
        have h2c : (nA.toList == nB.toList) = false := by
          rw [beq_eq_false_iff_ne]
          exact fun e => h2 (ByteArray.ext (Array.toList_inj.1 (by rw [← ByteArray.toList_eq, ← ByteArray.toList_eq]; exact e)))
        have hgf := hd (hno.out (fun h => h2 h.2.1))
        clear ih hSA hSB hgA hgB
        go_enter Try.func57, Try.ntmps57
        go_wp2_with fail
        refine wp_region_below hmx (by kernel_rfl) ?_
        repeat (go_big_quiet_step ((fail)))
        refine wpQuiet_nil ?_
        intro _ hw'
        obtain ⟨⟨wq, hbq⟩, hw''⟩ := hw'
        subst hw''
        have hbl6 := hd hbq
        go_wp2_with fail
        go_ret
        exact hgf.out _ hbl6.out
    · have h1b : decide ((0 : Int) < vA) = true := by simp; omega
      have hgf := hd (hno.out (fun h => h1 h.1))
      clear ih hSA hSB hgA hgB
      go_enter Try.func57, Try.ntmps57
      go_wp2_with fail
      refine wp_region_below hmx (by kernel_rfl) ?_
      repeat (go_big_quiet_step ((fail)))
      refine wpQuiet_nil ?_
      intro _ hw'
      obtain ⟨⟨wq, hbq⟩, hw''⟩ := hw'
      subst hw''
      have hbl6 := hd hbq
      go_wp2_with fail
      go_ret
      exact hgf.out _ hbl6.out
end Go.Proofs.Ytbjilpemckoioaa

/- A part put behind others: l2PutKid of the reference, where the part's number is above theirs. -/
import Derived.Test.YtobahkjbadamhaaJoinI
import Derived.Test.YtobahkjbadamhaaSubS
import Derived.Test.YtobahkjbadamhaaSchemas
import Derived.Deep.RegionLaw
import Derived.Laws.OwnMore
namespace Go.Proofs.Ytobahkjbadamhaa
open Go.RowKit
set_option linter.unusedVariables false
set_option maxRecDepth 100000
theorem Own.cap {w : World} {B E sz : Nat} {a : Option Addr} {n c : Nat} {rows : List (List Value)} (h : Own w B E sz (.slice a n c) rows) : n ≤ c := by
  obtain ⟨_, xs, ho, _⟩ := h
  rcases ho.2 with ⟨e, hn⟩ | ⟨g, cap, cur, e, _, _, hnc, _⟩
  · cases e; exact Nat.le_refl _
  · cases e; exact hnc
/-- A slice of the reference's types with their parts, all of it in blocks from B on. -/
def KidsT (w : World) (B : Nat) (ps : List K) (s : Value) : Prop := ∃ rows, RSl w B w.heap.size s rows ∧ (rows.length = ps.length ∧ ∀ a n c, s = .slice a n c → n ≤ c) ∧ ∀ j (h : j < ps.length) (h' : j < rows.length), RepT w B w.heap.size ps[j] rows[j]
theorem KidsT.below {w w' : World} {B : Nat} {ps : List K} {s : Value} (h : KidsT w B ps s) (hb : Same w w' B w.heap.size) (hz : w.heap.size ≤ w'.heap.size) : KidsT w' B ps s := by
  obtain ⟨rows, h1, h2, h3⟩ := h
  exact ⟨rows, h1.same hb (Nat.le_refl _) hz, h2, fun j g g' => RepT.same hb (Nat.le_refl _) hz _ _ (h3 j g g')⟩
theorem KidsT.nil {w : World} {B : Nat} : KidsT w B [] (.slice none 0 0) := ⟨[], ⟨none, 0, rfl, .inl rfl⟩, ⟨rfl, fun a n c e => by cases e; exact Nat.le_refl _⟩, fun j h => by simp at h⟩
theorem KidsT.rep {w : World} {B : Nat} {ps : List K} {s : Value} (h : KidsT w B ps s) (o : Int) (nm : ByteArray) (no : Int) (mu : Bool) (mo : Int) : RepT w B w.heap.size (.mk o nm no mu mo ps) [.int .i64 o, .string nm, .int .i64 no, .bool mu, .int .i64 mo, s] := by
  obtain ⟨rows, h1, h2, h3⟩ := h
  rw [RepT]
  exact ⟨s, rows, rfl, h1, RepTs.mk ps rows h2.1 h3⟩
theorem rowsT_shape {w : World} {lo hi : Nat} {ps : List K} {rows : List (List Value)} (hl : rows.length = ps.length) (hg : ∀ j (h : j < ps.length) (h' : j < rows.length), RepT w lo hi ps[j] rows[j]) : (∀ r ∈ rows, r.length = 6) ∧ ∀ u ∈ rows.flatten, u.oneCell' = true := by
  have hr : ∀ r ∈ rows, ∃ (o : Int) (nm : ByteArray) (no : Int) (mu : Bool) (mo : Int) (a : Option Addr) (n c : Nat), r = [.int .i64 o, .string nm, .int .i64 no, .bool mu, .int .i64 mo, .slice a n c] := by
    intro r hr
    obtain ⟨j, hj, rfl⟩ := List.getElem_of_mem hr
    obtain ⟨a, c, _, e, _⟩ := (hg j (by omega) hj).open
    exact ⟨_, _, _, _, _, _, _, _, e⟩
  refine ⟨fun r h => ?_, fun u h => ?_⟩
  · obtain ⟨o, nm, no, mu, mo, a, n, c, rfl⟩ := hr r h; rfl
  · obtain ⟨r, h1, h2⟩ := List.mem_flatten.1 h
    obtain ⟨o, nm, no, mu, mo, a, n, c, rfl⟩ := hr r h1
    simp at h2
    rcases h2 with rfl | rfl | rfl | rfl | rfl | rfl <;> rfl
theorem wpList_appNone {P : Program} {w : World} {ops : Array Oper} {rest : List Oper} {o : Oper} {a : Act} {Q : Exit → Act → World → Prop} (hgd : o.guard = none) (s x : Operand) (t : TypeId)
    (ho : o.op = .call { callee := .builtin .append, args := #[s, x], argTypes := #[t, t] })
    (base : Nat) (e : TypeId) (i : TypeInfo) (size : Nat) (ht : P.underlying t = some (.slice e)) (hi : P.info? e = some i)
    (v : Value) (rows : List (List Value)) (hs : a.eval s = v) (hown : Own w base e size v rows) (hx : a.eval x = .slice none 0 0)
    (h : wpList P ops Q rest (a.put o.dst v) w) : wpList P ops Q (o :: rest) a w :=
  wpList_plain hgd fun _ hK => by
    have hr := run_append_owned_none (P := P) (w := w) base t o.type e i size ht hi v rows.length rows.flatten (own_flat hown)
    unfold Oper.wp execOp
    simp only [ho, resolve, invoke, builtin, Sem.run_bind, Sem.run_pure, Result.andThen_ok, List.map_toArray, List.map_cons, List.map_nil, hs, hx, hr]
    exact hK _ _ h
def PutPost (B : Nat) (ps : List K) (o : Int) (nm : ByteArray) (no : Int) (mu : Bool) (mo : Int) (w : World) (e : Ending) (w' : World) : Prop :=
  ∃ s, e = .returned (.agg #[.int .i64 o, .string nm, .int .i64 no, .bool mu, .int .i64 mo, s]) ∧ KidsT w' B ps s ∧ (∃ a n c, s = .slice (some a) n c) ∧ Below w.heap.size w w'
set_option maxHeartbeats 6400000 in
theorem putkid_s (ps : List K) (x : K) (o : Int) (nm : ByteArray) (no : Int) (mu : Bool) (mo : Int) (s : Value) (rX : List Value) (w : World) (B : Nat) (hB : B ≤ w.heap.size) (hlen : ps.length ≤ 1000000) (hlt : ∀ p ∈ ps, p.no < x.no) (hK : KidsT w B ps s) (hnil : ps = [] → s = .slice none 0 0) (hX : RepT w B w.heap.size x rX) :
    Calls Try.prog 104 #[.agg #[.int .i64 o, .string nm, .int .i64 no, .bool mu, .int .i64 mo, s], .agg rX.toArray] w (PutPost B (ps ++ [x]) o nm no mu mo w) := by
  obtain ⟨rows, hS, ⟨hl, hcap⟩, hg⟩ := hK
  obtain ⟨aX, cX, rwX, rfl, hjk⟩ := hX.open
  clear hjk
  obtain ⟨aS, cS, rfl, hrr⟩ := hS
  have hcS : rows.length ≤ cS := hcap _ _ _ rfl
  have hcSI : (rows.length : Int) ≤ (cS : Int) := by omega
  clear hcap
  have hS := hd (show RSl w B w.heap.size (.slice aS rows.length cS) rows from ⟨aS, cS, rfl, hrr⟩)
  have hrl : rows.length ≤ 1000000 := by omega
  have hrl2 : rows.length ≤ ps.length := by omega
  replace hl := hd hl
  replace hlt := hd hlt
  replace hX := hd hX
  replace hg := hd hg
  obtain ⟨i0, hi0, hz0, hz1, hz2⟩ := info_parts infoT
  have Hi := hd hi0; have Hz0 := hd hz0; have Hz1 := hd hz1; have Hz2 := hd hz2
  clear hi0 hz0 hz1 hz2
  have hend := hd (fun (w' : World) (v : Value) (hb : Below w.heap.size w w') (ho : Own w' B 74 6 v (rows ++ [[.int .i64 x.of, .string x.name, .int .i64 x.no, .bool x.must, .int .i64 x.most, .slice aX x.parts.length cX]])) => (show KidsT w' B (ps ++ [x]) v from
    ⟨_, RSl.own ho (fun g hg => (ho.lt g hg).2), ⟨by have := hl.out; simp; omega, fun a n c e => by subst e; exact ho.cap⟩, fun j h h' => by
      by_cases hj : j < ps.length
      · have hj' : j < rows.length := by have := hl.out; omega
        rw [List.getElem_append_left hj, List.getElem_append_left hj']
        exact RepT.same (Same.below hb (Nat.le_refl _)) (Nat.le_refl _) hb.size _ _ (hg.out j hj hj')
      · have e : j = ps.length := by simp at h; omega
        subst e
        rw [List.getElem_append_right (Nat.le_refl _), List.getElem_append_right (by have := hl.out; omega)]
        simp only [hl.out, Nat.sub_self, List.getElem_cons_zero]
        exact RepT.same (Same.below hb (Nat.le_refl _)) (Nat.le_refl _) hb.size _ _ hX.out⟩))
  have hW1 := hd (below_a3 w (a := .cells #[.int .i64 o, .string nm, .int .i64 no, .bool mu, .int .i64 mo, .slice aS rows.length cS] 74) (b := .cells #[.int .i64 x.of, .string x.name, .int .i64 x.no, .bool x.must, .int .i64 x.most, .slice aX x.parts.length cX] 74) (c := .cells #[.int .i64 0, .string ⟨#[]⟩, .int .i64 0, .bool false, .int .i64 0, .slice none 0 0] 74))
  generalize x.parts.length = nx at *
  generalize hxo : x.of = xo at *
  generalize hxm : x.name = xm at *
  generalize hxn : x.no = xn at *
  generalize hxu : x.must = xu at *
  generalize hxt : x.most = xt at *
  clear hxo hxm hxu hxt
  replace hxn := hd hxn
  have hXt := hd (show BoxN (((w.alloc (.cells #[.int .i64 o, .string nm, .int .i64 no, .bool mu, .int .i64 mo, .slice aS rows.length cS] 74)).alloc (.cells #[.int .i64 xo, .string xm, .int .i64 xn, .bool xu, .int .i64 xt, .slice aX nx cX] 74)).alloc (.cells #[.int .i64 0, .string ⟨#[]⟩, .int .i64 0, .bool false, .int .i64 0, .slice none 0 0] 74)) w.heap.size [.int .i64 o, .string nm, .int .i64 no, .bool mu, .int .i64 mo, .slice aS rows.length cS] from (BoxN.new w _ _).below (below_a2 _))
  have hXx := hd (show BoxN (((w.alloc (.cells #[.int .i64 o, .string nm, .int .i64 no, .bool mu, .int .i64 mo, .slice aS rows.length cS] 74)).alloc (.cells #[.int .i64 xo, .string xm, .int .i64 xn, .bool xu, .int .i64 xt, .slice aX nx cX] 74)).alloc (.cells #[.int .i64 0, .string ⟨#[]⟩, .int .i64 0, .bool false, .int .i64 0, .slice none 0 0] 74)) (w.heap.size + 1) [.int .i64 xo, .string xm, .int .i64 xn, .bool xu, .int .i64 xt, .slice aX nx cX] from by
    have := BoxN.new (w.alloc (.cells #[.int .i64 o, .string nm, .int .i64 no, .bool mu, .int .i64 mo, .slice aS rows.length cS] 74)) [.int .i64 xo, .string xm, .int .i64 xn, .bool xu, .int .i64 xt, .slice aX nx cX] 74
    rw [World.size_alloc] at this
    exact this.below (below_a1 _))
  have hXr := hd (show BoxN (((w.alloc (.cells #[.int .i64 o, .string nm, .int .i64 no, .bool mu, .int .i64 mo, .slice aS rows.length cS] 74)).alloc (.cells #[.int .i64 xo, .string xm, .int .i64 xn, .bool xu, .int .i64 xt, .slice aX nx cX] 74)).alloc (.cells #[.int .i64 0, .string ⟨#[]⟩, .int .i64 0, .bool false, .int .i64 0, .slice none 0 0] 74)) (w.heap.size + 1 + 1) [.int .i64 0, .string ⟨#[]⟩, .int .i64 0, .bool false, .int .i64 0, .slice none 0 0] from by
    have := BoxN.new ((w.alloc (.cells #[.int .i64 o, .string nm, .int .i64 no, .bool mu, .int .i64 mo, .slice aS rows.length cS] 74)).alloc (.cells #[.int .i64 xo, .string xm, .int .i64 xn, .bool xu, .int .i64 xt, .slice aX nx cX] 74)) [.int .i64 0, .string ⟨#[]⟩, .int .i64 0, .bool false, .int .i64 0, .slice none 0 0] 74
    rw [World.size_alloc, World.size_alloc] at this
    exact this)
  have hszE := hd (show (((w.alloc (.cells #[.int .i64 o, .string nm, .int .i64 no, .bool mu, .int .i64 mo, .slice aS rows.length cS] 74)).alloc (.cells #[.int .i64 xo, .string xm, .int .i64 xn, .bool xu, .int .i64 xt, .slice aX nx cX] 74)).alloc (.cells #[.int .i64 0, .string ⟨#[]⟩, .int .i64 0, .bool false, .int .i64 0, .slice none 0 0] 74)).heap.size = w.heap.size + 3 by simp)
  obtain ⟨W, hW⟩ : ∃ W, W = ((w.alloc (.cells #[.int .i64 o, .string nm, .int .i64 no, .bool mu, .int .i64 mo, .slice aS rows.length cS] 74)).alloc (.cells #[.int .i64 xo, .string xm, .int .i64 xn, .bool xu, .int .i64 xt, .slice aX nx cX] 74)).alloc (.cells #[.int .i64 0, .string ⟨#[]⟩, .int .i64 0, .bool false, .int .i64 0, .slice none 0 0] 74) := ⟨_, rfl⟩
  rw [← hW] at hXt hXx hXr hszE hW1
  replace hW := hd hW
  go_enter Try.func104, Try.ntmps104
  go_wp2_with fail
  rw [← hW.out]
  clear hW
  go_loopw [5] (fun n wr => ∃ k : Nat, k ≤ rows.length ∧ n = .int .i64 k ∧ Hd (Below W.heap.size W wr)) (fun n _ => rows.length - (intOf n).toNat)
  case atStart => exact ⟨0, Nat.zero_le _, rfl, Below.refl _ _⟩
  case round =>
    obtain ⟨k, hk, rfl, hbl⟩ := hrel
    obtain ⟨wo, rfl⟩ : ∃ wo : World, wo = wr := ⟨_, rfl⟩
    have hbw := hd (hW1.out.next hbl.out)
    have hXt2 := hd (hXt.out.below hbl.out)
    have hXx2 := hd (hXx.out.below hbl.out)
    have y2 := hXx2.out.1 2 _ rfl
    have x5 := hXt2.out.1 5 _ rfl
    by_cases hlk : k < rows.length
    · have hlkI : (k : Int) < (rows.length : Int) := by omega
      have hkp : k < ps.length := by omega
      obtain ⟨b1, rfl, hb1, hc1⟩ := hS.out.at (j := k) hlk
      have rp := hg.out k hkp hlk
      obtain ⟨ak, ck, rowsk, hrk, _⟩ := rp.open
      have hck := hc1 k hlk
      rw [hrk] at hck
      have d2 := keepCell hbw.out (hck 2 _ rfl)
      have hno := hlt.out _ (List.getElem_mem hkp)
      have hdec : decide ((ps[k]).no < xn) = true := by simpa using hno
      clear hck hrk rp hc1
      generalize (ps[k]).no = pn at *
      go_wp2_with fail
      go_quiet (fail)
      have hblq := hd (show Below W.heap.size W (wo.drewN nq) from below_drewN hbl.out nq)
      go_wp2_with fail
      go_roundw
      case rel => exact ⟨k + 1, by omega, by go_num, hblq⟩
      case measure => simp [intOf]; omega
    · obtain rfl : k = rows.length := by omega
      have hlkI : ¬ (rows.length : Int) < (rows.length : Int) := by omega
      go_wp2_with fail
      go_quiet (fail)
      have hblq := hd (show Below W.heap.size W (wo.drewN nq) from below_drewN hbl.out nq)
      have hXt3 := hd (hXt2.out.below (below_drewN (Below.refl _ wo) nq))
      have hXx3 := hd (hXx2.out.below (below_drewN (Below.refl _ wo) nq))
      generalize wo.drewN nq = w1 at *
      clear x5 y2
      have x5 := hXt3.out.1 5 _ rfl
      have v0 := hXx3.out.1 0 _ rfl; have v1 := hXx3.out.1 1 _ rfl; have v2 := hXx3.out.1 2 _ rfl; have v3 := hXx3.out.1 3 _ rfl; have v4 := hXx3.out.1 4 _ rfl; have v5 := hXx3.out.1 5 _ rfl
      have hbw1 := hd (hW1.out.next hblq.out)
      have hsz1 := hbw1.out.size
      have hsW := hblq.out.size
      have hsWE := hszE.out
      obtain ⟨hrs6, hrs1⟩ := rowsT_shape hl.out hg.out
      have hrs6 := hd hrs6
      have hrs1 := hd hrs1
      rcases hrr with hrn | ⟨b1, rfl, hb1, hc1⟩
      · subst hrn
        have hpn : ps = [] := List.eq_nil_of_length_eq_zero (by have := hl.out; simpa using this.symm)
        have := hnil hpn
        cases this
        go_wp2_with (at_builtin; refine wpList_appOwn rfl (.tmp 31) (.tmp 33) 72 rfl w1.heap.size 74 i0 _ 6 72 Try.underlying72 Hi.out Hz0.out Hz1.out Hz2.out rfl (by decide) _ [] [[.int .i64 xo, .string xm, .int .i64 xn, .bool xu, .int .i64 xt, .slice aX nx cX]] rfl (by exact Own.nil) _ 1 1 rfl rfl (one_row rfl) (cells_new _ _ _) rowT_one (by simp) (by decide) (by first | omega | exact Nat.le_refl _ | (simp; done) | (simp; omega)) ?_; intro s6 w6 ho6 hga hva; have hb6 := hd (show Below w1.heap.size w1 w6 from (below_a1 w1).next (grownBy_below hga)); have hXt6 := hd (hXt3.out.below hb6.out); have hXr6 := hd ((hXr.out.below hblq.out).below hb6.out); have hbw6 := hd (hbw1.out.next hb6.out); have x56 := hXt6.out.1 5 _ rfl; have r56 := hXt6.out.2.1 5; obtain ⟨g6, c6, hs6, hg61, hg62⟩ := ho6.addr (by simp); simp only [List.length_append, List.length_singleton, List.length_nil, Nat.zero_add] at hs6; subst hs6; have hc6 := ho6.cap; replace ho6 := hd ho6; clear hga hva x5; have hXt7 := hd (hXt6.out.set (i := 5) (by simp) (.slice (some ⟨g6, 0, none⟩) 1 c6)); have y0 := hXt7.out.1 0 _ rfl; have y1 := hXt7.out.1 1 _ rfl; have y2 := hXt7.out.1 2 _ rfl; have y3 := hXt7.out.1 3 _ rfl; have y4 := hXt7.out.1 4 _ rfl; have y5 := hXt7.out.1 5 _ rfl; have hg7 := hd (grownBy_setCell w6 ⟨w.heap.size, 5, none⟩ (.slice (some ⟨g6, 0, none⟩) 1 c6)); have hXr7 := hd (hXr6.out.grown hg7.out (fun e => by have : w.heap.size + 1 + 1 = w.heap.size := Option.some.inj e; omega)); have z0 := hXr7.out.1 0 _ rfl; have rz0 := hXr7.out.2.1 0; have z1 := hXr7.out.1 1 _ rfl; have rz1 := hXr7.out.2.1 1; have z2 := hXr7.out.1 2 _ rfl; have rz2 := hXr7.out.2.1 2; have z3 := hXr7.out.1 3 _ rfl; have rz3 := hXr7.out.2.1 3; have z4 := hXr7.out.1 4 _ rfl; have rz4 := hXr7.out.2.1 4; have z5 := hXr7.out.1 5 _ rfl; have rz5 := hXr7.out.2.1 5)
        have hg7 := hd (grownBy_setCell w6 ⟨w.heap.size, 5, none⟩ (.slice (some ⟨g6, 0, none⟩) 1 c6))
        have hsz6 := hbw6.out.size
        have hg8 := grownBy_setCells (w.heap.size + 1 + 1) [.int .i64 o, .string nm, .int .i64 no, .bool mu, .int .i64 mo, .slice (some ⟨g6, 0, none⟩) 1 c6] (w6.setCell ⟨w.heap.size, 5, none⟩ (.slice (some ⟨g6, 0, none⟩) 1 c6)) 0
        have hO7 := hd (ho6.out.kept hg7.out (.inr (fun e => by have : g6 = w.heap.size := Option.some.inj e; omega)))
        have hO8 := hd (hO7.out.kept hg8 (.inr (fun e => by have : g6 = w.heap.size + 1 + 1 := Option.some.inj e; omega)))
        have hb8 := hd (show Below w.heap.size w _ from (hbw6.out.grown hg7.out hbw6.out.size (fun g e => by cases e; exact Nat.le_refl _)).grown hg8 (Nat.le_trans hbw6.out.size hg7.out.size) (fun g e => by cases e; omega))
        have hfin := hd (hend.out _ _ hb8.out (hO8.out.weaken (by omega)))
        refine bodyPost_ret (v := .agg #[.int .i64 o, .string nm, .int .i64 no, .bool mu, .int .i64 mo, .slice (some ⟨g6, 0, none⟩) 1 c6]) (by simp [results, Try.results104, go_sem, z0, z1, z2, z3, z4, z5]) rfl ⟨_, rfl, (by have h := hfin.out; rw [hpn] at h; exact h), ⟨_, _, _, rfl⟩, hb8.out⟩
      · have hC1 := hd (show Cells w b1 0 6 rows from ⟨by omega, fun i r hr j u hu => by rw [Nat.zero_add]; exact hc1 i r hr j u hu⟩)
        go_wp2_with (first
          | (at_builtin; refine wpList_appOwn rfl (.tmp 25) (.tmp 29) 72 rfl w1.heap.size 74 i0 _ 6 72 Try.underlying72 Hi.out Hz0.out Hz1.out Hz2.out rfl (by decide) _ [] rows rfl (by exact Own.nil) ⟨b1, 0, none⟩ rows.length cS rfl rfl hrs6.out ((hC1.out.mono hbw1.out).flat hrs6.out) hrs1.out (by simp; omega) (by decide) (Nat.le_refl _) ?_; intro s5 w5 ho5 hga5 hva5; have hb5 := hd (show Below w1.heap.size w1 w5 from grownBy_below hga5); have hXt5 := hd (hXt3.out.below hb5.out); have hXx5 := hd (hXx3.out.below hb5.out); have x55 := hXt5.out.1 5 _ rfl; have v50 := hXx5.out.1 0 _ rfl; have v51 := hXx5.out.1 1 _ rfl; have v52 := hXx5.out.1 2 _ rfl; have v53 := hXx5.out.1 3 _ rfl; have v54 := hXx5.out.1 4 _ rfl; have v55 := hXx5.out.1 5 _ rfl; have hz5 := hb5.out.size; replace ho5 := hd ho5; clear hga5 hva5 x5)
          | (at_builtin; refine wpList_appOwn rfl (.tmp 31) (.tmp 33) 72 rfl w1.heap.size 74 i0 _ 6 72 Try.underlying72 Hi.out Hz0.out Hz1.out Hz2.out rfl (by decide) _ _ [[.int .i64 xo, .string xm, .int .i64 xn, .bool xu, .int .i64 xt, .slice aX nx cX]] rfl (ho5.out.below (below_a1 _)) _ 1 1 rfl rfl (one_row rfl) (cells_new _ _ _) rowT_one (by simp; omega) (by decide) (by first | omega | exact Nat.le_refl _ | (simp; done) | (simp; omega)) ?_; intro s6 w6 ho6 hga hva; have hb6 := hd (show Below w1.heap.size w1 w6 from (hb5.out.next (below_a1 w5)).grown hga (by first | omega | exact Nat.le_refl _ | (simp; done) | (simp; omega)) (fun g hg => (ho5.out.lt g hg).1)); have hXt6 := hd (hXt3.out.below hb6.out); have hXr6 := hd ((hXr.out.below hblq.out).below hb6.out); have hbw6 := hd (hbw1.out.next hb6.out); have x56 := hXt6.out.1 5 _ rfl; have r56 := hXt6.out.2.1 5; have hz6 := hb6.out.size; obtain ⟨g6, c6, hs6, hg61, hg62⟩ := ho6.addr (by simp); simp only [List.length_append, List.length_singleton, List.nil_append] at hs6; subst hs6; have hc6 := ho6.cap; replace ho6 := hd ho6; clear hga hva x55; have hXt7 := hd (hXt6.out.set (i := 5) (by simp) (.slice (some ⟨g6, 0, none⟩) (rows.length + 1) c6)); have y0 := hXt7.out.1 0 _ rfl; have y1 := hXt7.out.1 1 _ rfl; have y2 := hXt7.out.1 2 _ rfl; have y3 := hXt7.out.1 3 _ rfl; have y4 := hXt7.out.1 4 _ rfl; have y5 := hXt7.out.1 5 _ rfl; have hg7 := hd (grownBy_setCell w6 ⟨w.heap.size, 5, none⟩ (.slice (some ⟨g6, 0, none⟩) (rows.length + 1) c6)); have hXr7 := hd (hXr6.out.grown hg7.out (fun e => by have : w.heap.size + 1 + 1 = w.heap.size := Option.some.inj e; omega)); have z0 := hXr7.out.1 0 _ rfl; have rz0 := hXr7.out.2.1 0; have z1 := hXr7.out.1 1 _ rfl; have rz1 := hXr7.out.2.1 1; have z2 := hXr7.out.1 2 _ rfl; have rz2 := hXr7.out.2.1 2; have z3 := hXr7.out.1 3 _ rfl; have rz3 := hXr7.out.2.1 3; have z4 := hXr7.out.1 4 _ rfl; have rz4 := hXr7.out.2.1 4; have z5 := hXr7.out.1 5 _ rfl; have rz5 := hXr7.out.2.1 5))
        all_goals
          have hg7 := hd (grownBy_setCell w6 ⟨w.heap.size, 5, none⟩ (.slice (some ⟨g6, 0, none⟩) (rows.length + 1) c6))
          have hsz6 := hbw6.out.size
          have hg8 := grownBy_setCells (w.heap.size + 1 + 1) [.int .i64 o, .string nm, .int .i64 no, .bool mu, .int .i64 mo, .slice (some ⟨g6, 0, none⟩) (rows.length + 1) c6] (w6.setCell ⟨w.heap.size, 5, none⟩ (.slice (some ⟨g6, 0, none⟩) (rows.length + 1) c6)) 0
          have hO7 := hd (ho6.out.kept hg7.out (.inr (fun e => by have : g6 = w.heap.size := Option.some.inj e; omega)))
          have hO8 := hd (hO7.out.kept hg8 (.inr (fun e => by have : g6 = w.heap.size + 1 + 1 := Option.some.inj e; omega)))
          have hb8 := hd (show Below w.heap.size w _ from (hbw6.out.grown hg7.out hbw6.out.size (fun g e => by cases e; exact Nat.le_refl _)).grown hg8 (Nat.le_trans hbw6.out.size hg7.out.size) (fun g e => by cases e; omega))
          have hfin := hd (hend.out _ _ hb8.out (hO8.out.weaken (by omega)))
          refine bodyPost_ret (v := .agg #[.int .i64 o, .string nm, .int .i64 no, .bool mu, .int .i64 mo, .slice (some ⟨g6, 0, none⟩) (rows.length + 1) c6]) (by simp [results, Try.results104, go_sem, z0, z1, z2, z3, z4, z5]) rfl ⟨_, rfl, hfin.out, ⟨_, _, _, rfl⟩, hb8.out⟩
end Go.Proofs.Ytobahkjbadamhaa

/- DepthOf, of the program and of the reference. -/
import Derived.Test.YtaadjpdghikkmaaFilterS
import Derived.StillTailTactics
namespace Go.Proofs.Ytaadjpdghikkmaa
open Go.RowKit
set_option linter.unusedVariables false
set_option maxRecDepth 100000

/-- How deep the want at a place is. -/
def dep (l : List DWant) : Nat → Nat → Int
  | 0, _ => 0
  | f + 1, i => match l[i]? with
    | none => 0
    | some x => 1 + (partsL x).foldl (fun m p => max m (dep l f p.toNat)) 0
def okAll (l : List DWant) : Prop := ∀ i (h : i < l.length), wantP l[i].kind l[i].no l[i].num l[i].text l[i].a l[i].b (i : Int)
theorem good_all {l : List DWant} (h : goodFilter l = true) : okAll l := by
  intro i hi
  simp only [goodFilter, Bool.and_eq_true, Bool.not_eq_true'] at h
  have := h.1.2
  rw [List.any_eq_false] at this
  have h2 := this (l[i], i) (by rw [← zi_get hi (by simpa using hi)]; exact List.getElem_mem _)
  simpa [wantBad] using h2
theorem good_len {l : List DWant} (h : goodFilter l = true) : 1 ≤ l.length ∧ l.length ≤ 20 := by
  simp only [goodFilter, Bool.and_eq_true, decide_eq_true_eq] at h
  exact h.1.1
theorem dep_at {l : List DWant} {f i : Nat} (h : i < l.length) : dep l (f + 1) i = 1 + (partsL l[i]).foldl (fun m p => max m (dep l f p.toNat)) 0 := by
  rw [dep, List.getElem?_eq_getElem h]
theorem foldl_congr_mem {α β : Type} {f g : β → α → β} : ∀ (xs : List α) (b : β), (∀ b, ∀ x ∈ xs, f b x = g b x) → xs.foldl f b = xs.foldl g b := by
  intro xs
  induction xs with
  | nil => intro b h; rfl
  | cons x xs ih => intro b h; rw [List.foldl_cons, List.foldl_cons, h b x (by simp), ih _ fun b y hy => h b y (by simp [hy])]
theorem dep_fuel {l : List DWant} (hok : okAll l) : ∀ i f, i < f → i < l.length → dep l f i = dep l (i + 1) i := by
  intro i
  induction i using Nat.strongRecOn with
  | _ i ih =>
    intro f hf hi
    obtain ⟨g, rfl⟩ : ∃ g, f = g + 1 := ⟨f - 1, by omega⟩
    rw [dep_at hi, dep_at hi]
    congr 1
    refine foldl_congr_mem _ _ fun b p hp => ?_
    obtain ⟨h0, h1⟩ := want_parts (hok i hi) p hp
    rw [ih p.toNat (by omega) g (by omega) (by omega), ih p.toNat (by omega) i (by omega) (by omega)]
theorem foldl_max_ge {α : Type} (g : α → Int) : ∀ (xs : List α) (b : Int), b ≤ xs.foldl (fun m p => max m (g p)) b := by
  intro xs
  induction xs with
  | nil => intro b; exact Int.le_refl _
  | cons x xs ih => intro b; rw [List.foldl_cons]; have := ih (max b (g x)); omega
theorem dep_pos {l : List DWant} {i : Nat} (h : i < l.length) : 1 ≤ dep l (i + 1) i := by
  rw [dep_at h]; have := foldl_max_ge (fun p : Int => dep l i p.toNat) (partsL l[i]) 0; omega
theorem foldl_max_le {α : Type} (g : α → Int) (c : Int) : ∀ (xs : List α) (b : Int), b ≤ c → (∀ x ∈ xs, g x ≤ c) → xs.foldl (fun m p => max m (g p)) b ≤ c := by
  intro xs
  induction xs with
  | nil => intro b h _; exact h
  | cons x xs ih => intro b h h2; rw [List.foldl_cons]; exact ih _ (by have := h2 x (by simp); omega) fun y hy => h2 y (by simp [hy])
theorem dep_le {l : List DWant} (hok : okAll l) : ∀ i, i < l.length → dep l (i + 1) i ≤ (i : Int) + 1 := by
  intro i
  induction i using Nat.strongRecOn with
  | _ i ih =>
    intro hi
    rw [dep_at hi]
    have := foldl_max_le (fun p : Int => dep l i p.toNat) (i : Int) (partsL l[i]) 0 (by omega) (by
      intro p hp
      obtain ⟨h0, h1⟩ := want_parts (hok i hi) p hp
      have h2 := ih p.toNat (by omega) (by omega)
      rw [dep_fuel hok p.toNat i (by omega) (by omega)]
      omega)
    omega
/-- The depth of a want, by its parts' depths. -/
theorem dep_rec {l : List DWant} (hok : okAll l) {i : Nat} (h : i < l.length) : dep l (i + 1) i = 1 + (partsL l[i]).foldl (fun m p => max m (dep l (p.toNat + 1) p.toNat)) 0 := by
  rw [dep_at h]
  congr 1
  refine foldl_congr_mem _ _ fun b p hp => ?_
  obtain ⟨h0, h1⟩ := want_parts (hok i h) p hp
  rw [dep_fuel hok p.toNat i (by omega) (by omega)]
def depthR (l : List DWant) : Int := if goodFilter l then dep l l.length (l.length - 1) else 0

set_option maxHeartbeats 1600000 in
theorem depth_s (l : List DWant) (hok : okAll l) (hn : l.length ≤ 20) (k : Nat) : ∀ (v : Value) (w : World), k < l.length → Sl w v 6 (l.map DWant.enc) →
    Calls Try.prog 92 #[.agg #[v], .int .i64 (k : Int)] w (IntPost (dep l (k + 1) k) w) := by
  induction k using Nat.strongRecOn with
  | _ k ih =>
    intro v w hk h
    have Ih := hd ih
    have hS := hd h
    clear ih
    have hrec := dep_rec hok hk
    have hpar := want_parts (hok k hk)
    have hwp := hok k hk
    rcases h.open with ⟨a1, c1, rfl, hr⟩ | ⟨b1, o1, c1, rfl, hr, C1⟩
    · exfalso; have : l = [] := by simpa using hr
      subst this; simp at hk
    clear h hr
    simp only [List.length_map] at hS ⊢
    obtain ⟨W, hW⟩ : ∃ W, W = (w.alloc (.cells #[.slice (some ⟨b1, o1, none⟩) l.length c1] 64)) := ⟨_, rfl⟩
    have hW0 := hd (show Below w.heap.size w W by rw [hW]; exact below_a1 _)
    have hq1 := hd (show W.cell? ⟨w.heap.size, 0, none⟩ = some (.slice (some ⟨b1, o1, none⟩) l.length c1) by rw [hW]; go_simp)
    replace hW := hd hW
    obtain ⟨f0, f1, f2, f3, f4, f5⟩ := Cells.rowWant l k hk (C1.mono hW0.out)
    have hle := dep_le hok
    have hps := fun (i : Nat) (h : i < l.length) => dep_pos (l := l) h
    generalize hx : l[k] = x at *
    replace hx := hd hx
    have hkI : (k : Int) < (l.length : Int) := by omega
    replace hle := hd hle
    replace hps := hd hps
    by_cases h6 : x.kind < 6
    · have hres := hd (show dep l (k + 1) k = 1 by rw [hrec, partsL, if_neg (by omega), if_neg (by omega)]; rfl)
      clear hrec hpar hwp
      go_enter Try.func92, Try.ntmps92
      go_upto_region 1 with (fail)
      rw [← hW.out]
      have q1 := hq1.out
      go_upto_region 2 with (fail)
      have q2 := keepCell (below_a1 W (a := (.cells #[.int .i64 x.kind, .int .i64 x.no, .int .i64 x.num, .string x.text, .int .i64 x.a, .int .i64 x.b] 107))) q1
      have hbx := hd (hW0.out.next (below_a1 W (a := (.cells #[.int .i64 x.kind, .int .i64 x.no, .int .i64 x.num, .string x.text, .int .i64 x.a, .int .i64 x.b] 107))))
      have g0 : (World.alloc W (.cells #[.int .i64 x.kind, .int .i64 x.no, .int .i64 x.num, .string x.text, .int .i64 x.a, .int .i64 x.b] 107)).cell? ⟨W.heap.size, 0, none⟩ = some (.int .i64 x.kind) := by go_simp
      have g1 : (World.alloc W (.cells #[.int .i64 x.kind, .int .i64 x.no, .int .i64 x.num, .string x.text, .int .i64 x.a, .int .i64 x.b] 107)).cell? ⟨W.heap.size, 1, none⟩ = some (.int .i64 x.no) := by go_simp
      have g2 : (World.alloc W (.cells #[.int .i64 x.kind, .int .i64 x.no, .int .i64 x.num, .string x.text, .int .i64 x.a, .int .i64 x.b] 107)).cell? ⟨W.heap.size, 2, none⟩ = some (.int .i64 x.num) := by go_simp
      have g3 : (World.alloc W (.cells #[.int .i64 x.kind, .int .i64 x.no, .int .i64 x.num, .string x.text, .int .i64 x.a, .int .i64 x.b] 107)).cell? ⟨W.heap.size, 3, none⟩ = some (.string x.text) := by go_simp
      have g4 : (World.alloc W (.cells #[.int .i64 x.kind, .int .i64 x.no, .int .i64 x.num, .string x.text, .int .i64 x.a, .int .i64 x.b] 107)).cell? ⟨W.heap.size, 4, none⟩ = some (.int .i64 x.a) := by go_simp
      have g5 : (World.alloc W (.cells #[.int .i64 x.kind, .int .i64 x.no, .int .i64 x.num, .string x.text, .int .i64 x.a, .int .i64 x.b] 107)).cell? ⟨W.heap.size, 5, none⟩ = some (.int .i64 x.b) := by go_simp
      generalize World.alloc W (.cells #[.int .i64 x.kind, .int .i64 x.no, .int .i64 x.num, .string x.text, .int .i64 x.a, .int .i64 x.b] 107) = W2 at q2 hbx g0 g1 g2 g3 g4 g5 ⊢
      clear f0 f1 f2 f3 f4 f5 q1
      go_wp2_with fail
      go_ret
      exact ⟨by rw [hres.out]; rfl, hbx.out⟩
    · by_cases h8 : x.kind = 8
      · have hpl : partsL x = [x.a] := by rw [partsL, if_neg (by omega), if_pos h8]
        rw [hpl] at hrec hpar
        obtain ⟨ha0, ha1⟩ := hpar x.a (by simp)
        obtain ⟨ma, hma⟩ := Int.eq_ofNat_of_zero_le ha0
        rw [hma] at ha1 hrec
        have hlt : ma < k := by omega
        have ci := hd (fun v w hS => Ih.out ma hlt v w (by omega) hS)
        have d1 := hps.out ma (by omega)
        have d2 := hle.out ma (by omega)
        have hres := hd (show dep l (k + 1) k = max 0 (dep l (ma + 1) ma) + 1 by rw [hrec]; simp only [List.foldl_cons, List.foldl_nil, Int.toNat_natCast]; omega)
        generalize dep l (ma + 1) ma = da at ci d1 d2 hres
        clear hrec hpar hwp hpl ha0 h6 Ih hps hle
        replace hma := hd hma
        replace h8 := hd h8
        go_enter Try.func92, Try.ntmps92
        go_upto_region 1 with (fail)
        rw [← hW.out]
        have q1 := hq1.out
        go_upto_region 2 with (fail)
        have q2 := keepCell (below_a1 W (a := (.cells #[.int .i64 x.kind, .int .i64 x.no, .int .i64 x.num, .string x.text, .int .i64 x.a, .int .i64 x.b] 107))) q1
        have hbx := hd (hW0.out.next (below_a1 W (a := (.cells #[.int .i64 x.kind, .int .i64 x.no, .int .i64 x.num, .string x.text, .int .i64 x.a, .int .i64 x.b] 107))))
        have g0 : (World.alloc W (.cells #[.int .i64 x.kind, .int .i64 x.no, .int .i64 x.num, .string x.text, .int .i64 x.a, .int .i64 x.b] 107)).cell? ⟨W.heap.size, 0, none⟩ = some (.int .i64 x.kind) := by go_simp
        have g1 : (World.alloc W (.cells #[.int .i64 x.kind, .int .i64 x.no, .int .i64 x.num, .string x.text, .int .i64 x.a, .int .i64 x.b] 107)).cell? ⟨W.heap.size, 1, none⟩ = some (.int .i64 x.no) := by go_simp
        have g2 : (World.alloc W (.cells #[.int .i64 x.kind, .int .i64 x.no, .int .i64 x.num, .string x.text, .int .i64 x.a, .int .i64 x.b] 107)).cell? ⟨W.heap.size, 2, none⟩ = some (.int .i64 x.num) := by go_simp
        have g3 : (World.alloc W (.cells #[.int .i64 x.kind, .int .i64 x.no, .int .i64 x.num, .string x.text, .int .i64 x.a, .int .i64 x.b] 107)).cell? ⟨W.heap.size, 3, none⟩ = some (.string x.text) := by go_simp
        have g4 : (World.alloc W (.cells #[.int .i64 x.kind, .int .i64 x.no, .int .i64 x.num, .string x.text, .int .i64 x.a, .int .i64 x.b] 107)).cell? ⟨W.heap.size, 4, none⟩ = some (.int .i64 x.a) := by go_simp
        have g5 : (World.alloc W (.cells #[.int .i64 x.kind, .int .i64 x.no, .int .i64 x.num, .string x.text, .int .i64 x.a, .int .i64 x.b] 107)).cell? ⟨W.heap.size, 5, none⟩ = some (.int .i64 x.b) := by go_simp
        generalize World.alloc W (.cells #[.int .i64 x.kind, .int .i64 x.no, .int .i64 x.num, .string x.text, .int .i64 x.a, .int .i64 x.b] 107) = W2 at q2 hbx g0 g1 g2 g3 g4 g5 ⊢
        clear f0 f1 f2 f3 f4 f5 q1
        rw [h8.out] at g0
        rw [hma.out] at g4
        go_wp2_with fail
        refine (ci.out _ _ (hS.out.mono hbx.out)).mono ?_
        rintro e w3 ⟨rfl, hb⟩
        have k0 := keepCell hb g0
        have hB := hd (hbx.out.next hb)
        clear hb g0 g1 g2 g3 g4 g5 q2
        go_wp2_with fail
        go_ret
        exact ⟨ret_int (by rw [hres.out]; omega), hB.out⟩
      · have h67 : x.kind = 6 ∨ x.kind = 7 := by
          rcases hwp with ⟨h, _⟩ | ⟨h, _⟩ | ⟨g1, g2, g3, _, h, _⟩
          · exact h
          · omega
          · rcases (testB_iff _ _ _).1 h with h | h | h <;> omega
        have hpl : partsL x = [x.a, x.b] := by rw [partsL, if_pos h67]
        rw [hpl] at hrec hpar
        obtain ⟨ha0, ha1⟩ := hpar x.a (by simp)
        obtain ⟨hb0, hb1⟩ := hpar x.b (by simp)
        obtain ⟨ma, hma⟩ := Int.eq_ofNat_of_zero_le ha0
        obtain ⟨mb, hmb⟩ := Int.eq_ofNat_of_zero_le hb0
        rw [hma] at ha1 hrec
        rw [hmb] at hb1 hrec
        have hlta : ma < k := by omega
        have hltb : mb < k := by omega
        have ci := hd (fun v w hS => Ih.out ma hlta v w (by omega) hS)
        have cj := hd (fun v w hS => Ih.out mb hltb v w (by omega) hS)
        have d1 := hps.out ma (by omega)
        have d2 := hle.out ma (by omega)
        have d3 := hps.out mb (by omega)
        have d4 := hle.out mb (by omega)
        have hres := hd (show dep l (k + 1) k = max (max 0 (dep l (ma + 1) ma)) (dep l (mb + 1) mb) + 1 by rw [hrec]; simp only [List.foldl_cons, List.foldl_nil, Int.toNat_natCast]; omega)
        generalize dep l (ma + 1) ma = da at ci d1 d2 hres
        generalize dep l (mb + 1) mb = db at cj d3 d4 hres
        have hne : (x.kind == 8) = false := by simpa using h8
        have hge : 6 ≤ x.kind := by omega
        clear hrec hpar hwp hpl ha0 hb0 h6 h8 h67 Ih hps hle
        replace hma := hd hma
        replace hmb := hd hmb
        go_enter Try.func92, Try.ntmps92
        go_upto_region 1 with (fail)
        rw [← hW.out]
        have q1 := hq1.out
        go_upto_region 2 with (fail)
        have q2 := keepCell (below_a1 W (a := (.cells #[.int .i64 x.kind, .int .i64 x.no, .int .i64 x.num, .string x.text, .int .i64 x.a, .int .i64 x.b] 107))) q1
        have hbx := hd (hW0.out.next (below_a1 W (a := (.cells #[.int .i64 x.kind, .int .i64 x.no, .int .i64 x.num, .string x.text, .int .i64 x.a, .int .i64 x.b] 107))))
        have g0 : (World.alloc W (.cells #[.int .i64 x.kind, .int .i64 x.no, .int .i64 x.num, .string x.text, .int .i64 x.a, .int .i64 x.b] 107)).cell? ⟨W.heap.size, 0, none⟩ = some (.int .i64 x.kind) := by go_simp
        have g1 : (World.alloc W (.cells #[.int .i64 x.kind, .int .i64 x.no, .int .i64 x.num, .string x.text, .int .i64 x.a, .int .i64 x.b] 107)).cell? ⟨W.heap.size, 1, none⟩ = some (.int .i64 x.no) := by go_simp
        have g2 : (World.alloc W (.cells #[.int .i64 x.kind, .int .i64 x.no, .int .i64 x.num, .string x.text, .int .i64 x.a, .int .i64 x.b] 107)).cell? ⟨W.heap.size, 2, none⟩ = some (.int .i64 x.num) := by go_simp
        have g3 : (World.alloc W (.cells #[.int .i64 x.kind, .int .i64 x.no, .int .i64 x.num, .string x.text, .int .i64 x.a, .int .i64 x.b] 107)).cell? ⟨W.heap.size, 3, none⟩ = some (.string x.text) := by go_simp
        have g4 : (World.alloc W (.cells #[.int .i64 x.kind, .int .i64 x.no, .int .i64 x.num, .string x.text, .int .i64 x.a, .int .i64 x.b] 107)).cell? ⟨W.heap.size, 4, none⟩ = some (.int .i64 x.a) := by go_simp
        have g5 : (World.alloc W (.cells #[.int .i64 x.kind, .int .i64 x.no, .int .i64 x.num, .string x.text, .int .i64 x.a, .int .i64 x.b] 107)).cell? ⟨W.heap.size, 5, none⟩ = some (.int .i64 x.b) := by go_simp
        generalize World.alloc W (.cells #[.int .i64 x.kind, .int .i64 x.no, .int .i64 x.num, .string x.text, .int .i64 x.a, .int .i64 x.b] 107) = W2 at q2 hbx g0 g1 g2 g3 g4 g5 ⊢
        clear f0 f1 f2 f3 f4 f5 q1
        rw [hma.out] at g4
        rw [hmb.out] at g5
        go_wp2_with fail
        refine (ci.out _ _ (hS.out.mono hbx.out)).mono ?_
        rintro e w3 ⟨rfl, hb⟩
        have k0 := keepCell hb g0
        have k5 := keepCell hb g5
        have kb := keepCell hb q2
        have hB := hd (hbx.out.next hb)
        clear hb g0 g1 g2 g3 g4 g5 q2
        go_wp2_with fail
        refine (cj.out _ _ (hS.out.mono hB.out)).mono ?_
        rintro e w4 ⟨rfl, hb⟩
        have hB2 := hd (hB.out.next hb)
        clear hb k0 k5 kb
        by_cases hgt : da < db
        · go_wp2_with fail
          go_ret
          exact ⟨ret_int (by rw [hres.out]; omega), hB2.out⟩
        · go_wp2_with fail
          go_ret
          exact ⟨ret_int (by rw [hres.out]; omega), hB2.out⟩
def DepthPost (r : Int) (b : Bool) (w : World) (e : Ending) (w' : World) : Prop := e = .returned (.tuple #[.int .i64 r, .bool b]) ∧ Below w.heap.size w w'
set_option maxHeartbeats 800000 in
theorem DepthOf_s (l : List DWant) (v : Value) (w : World) (hl : l.length ≤ 1000000000000) (h : Sl w v 6 (l.map DWant.enc)) (r : Int) (hr : depthR l = r) (b : Bool) (hb : goodFilter l = b) :
    Calls Try.prog 42 #[.agg #[v]] w (DepthPost r b w) := by
  have hka := hd h
  obtain ⟨a1, c1, rfl, _⟩ := h
  simp only [List.length_map] at hka ⊢
  have hbb := hd hb
  cases b with
  | false =>
    have hres := hd (show r = 0 by rw [← hr, depthR, hb]; rfl)
    clear hb hr
    go_enter Try.func42, Try.ntmps42
    go_wp2_with fail
    refine (GoodFilter_s l _ _ hl (hka.out.mono (below_a1 _)) false hbb.out).mono ?_
    rintro e w1 ⟨rfl, hb1⟩
    have hB := hd ((below_a1 w).next hb1)
    clear hb1
    go_wp2_with fail
    go_ret2
    exact ⟨by rw [hres.out]; rfl, hB.out⟩
  | true =>
    have hres := hd (show r = dep l l.length (l.length - 1) by rw [← hr, depthR, hb]; rfl)
    have hgl := good_len hb
    have ci := hd (fun w h => depth_s l (good_all hb) hgl.2 (l.length - 1) (.slice a1 l.length c1) w (by omega) h)
    obtain ⟨hg1, hg2⟩ := hgl
    have hsub : ((l.length - 1 : Nat) : Int) = (l.length : Int) - 1 := by omega
    rw [hsub, show l.length - 1 + 1 = l.length by omega] at ci
    clear hb hr hsub
    go_enter Try.func42, Try.ntmps42
    go_wp2_with fail
    refine (GoodFilter_s l _ _ hl (hka.out.mono (below_a1 _)) true hbb.out).mono ?_
    rintro e w1 ⟨rfl, hb1⟩
    have q0 := keepCell hb1 (show _ = some (.slice a1 l.length c1) from (by go_simp : World.cell? _ ⟨w.heap.size, 0, none⟩ = _))
    have hB := hd ((below_a1 w).next hb1)
    clear hb1
    go_wp2_with fail
    refine (ci.out _ (hka.out.mono hB.out)).mono ?_
    rintro e w2 ⟨rfl, hb2⟩
    have hB2 := hd (hB.out.next hb2)
    clear hb2 q0
    go_wp2_with fail
    go_ret2
    exact ⟨by rw [hres.out]; rfl, hB2.out⟩
def depUpto (l : List DWant) (k : Nat) : List Int := (List.range l.length).map fun q => if q < k then dep l (q + 1) q else 0
theorem depUpto_len (l : List DWant) (k : Nat) : (depUpto l k).length = l.length := by simp [depUpto]
theorem depUpto_lt {l : List DWant} {q k : Nat} (h : q < k) (hq : q < l.length) : (depUpto l k)[q]'(by rw [depUpto_len]; exact hq) = dep l (q + 1) q := by simp [depUpto, h]
def maxUp (l : List DWant) (ps : List Int) : Int := ps.foldl (fun m p => max m (dep l (p.toNat + 1) p.toNat)) 0
theorem depUpto_set {l : List DWant} (hok : okAll l) {k : Nat} (hk : k < l.length) : (depUpto l k).set k (maxUp l (partsL l[k]) + 1) = depUpto l (k + 1) := by
  apply List.ext_getElem (by simp [depUpto])
  intro i h1 h2
  rw [List.getElem_set]
  split
  · subst_vars
    rw [depUpto_lt (Nat.lt_succ_self _) (by simpa [depUpto_len] using h2), dep_rec hok (by simpa [depUpto_len] using h2), maxUp]; omega
  · simp only [depUpto, List.getElem_map, List.getElem_range]
    by_cases hik : i < k
    · rw [if_pos hik, if_pos (by omega)]
    · rw [if_neg hik, if_neg (by omega)]
theorem depUpto_set0 (l : List DWant) (k : Nat) : (depUpto l k).set k 0 = depUpto l k := by
  apply List.ext_getElem (by simp)
  intro i h1 h2
  rw [List.getElem_set]
  split
  · subst_vars; simp [depUpto]
  · rfl
theorem maxUp_ge (l : List DWant) (ps : List Int) : 0 ≤ maxUp l ps := foldl_max_ge (fun p : Int => dep l (p.toNat + 1) p.toNat) ps 0
theorem maxUp_le {l : List DWant} (hok : okAll l) {ps : List Int} {k : Nat} (hk : k ≤ l.length) (h : ∀ p ∈ ps, 0 ≤ p ∧ p < k) : maxUp l ps ≤ k := by
  refine foldl_max_le (fun p : Int => dep l (p.toNat + 1) p.toNat) k ps 0 (by omega) fun p hp => ?_
  obtain ⟨h0, h1⟩ := h p hp
  have := dep_le hok p.toNat (by omega)
  omega

set_option maxHeartbeats 3200000 in
theorem DepthOf_i (l : List DWant) (v : Value) (w : World) (hl : l.length ≤ 1000000000000) (h : Sl w v 6 (l.map DWant.enc)) (r : Int) (hr : depthR l = r) (b : Bool) (hb : goodFilter l = b) :
    Calls Try.prog 43 #[.agg #[v]] w (DepthPost r b w) := by
  have hka := hd h
  have hbb := hd hb
  cases b with
  | false =>
    obtain ⟨a1, c1, rfl, _⟩ := h
    simp only [List.length_map] at hka ⊢
    have hres := hd (show r = 0 by rw [← hr, depthR, hb]; rfl)
    clear hb hr
    go_enter Try.func43, Try.ntmps43
    go_wp2_with fail
    refine (GoodFilter_i l _ _ hl (hka.out.mono (below_a1 _)) false hbb.out).mono ?_
    rintro e w1 ⟨rfl, hb1⟩
    have hB := hd ((below_a1 w).next hb1)
    clear hb1
    go_wp2_with fail
    go_ret2
    exact ⟨by rw [hres.out]; rfl, hB.out⟩
  | true =>
    have hres := hd (show r = dep l l.length (l.length - 1) by rw [← hr, depthR, hb]; rfl)
    have hok := hd (good_all hb)
    obtain ⟨hn1, hn2⟩ := good_len hb
    rcases h.open with ⟨a1, c1, rfl, hr1⟩ | ⟨b1, o1, c1, rfl, hr1, C1⟩
    · exfalso; have : l = [] := by simpa using hr1
      subst this; simp at hn1
    clear h hr1 hb hr
    simp only [List.length_map] at hka ⊢
    obtain ⟨i0, hi, hz0, hz1, hz2⟩ := info_parts infoInt
    have Hi := hd hi; have Hz0 := hd hz0; have Hz1 := hd hz1
    have hby : i0.bytes * l.length ≤ 281474976710656 := by rw [hz2]; omega
    clear hi hz0 hz1 hz2
    go_enter Try.func43, Try.ntmps43
    go_wp2_with fail
    refine (GoodFilter_i l _ _ hl (hka.out.mono (below_a1 _)) true hbb.out).mono ?_
    rintro e W ⟨rfl, hb1⟩
    have q1 := keepCell hb1 (show _ = some (.slice (some ⟨b1, o1, none⟩) l.length c1) from (by go_simp : World.cell? _ ⟨w.heap.size, 0, none⟩ = _))
    have hW0 := hd ((below_a1 w).next hb1)
    clear hb1
    replace C1 := hd (C1.mono hW0.out)
    go_wp2_with (at_make; refine wpList_make_full _ rfl (.tmp 14) (.tmp 14) 36 rfl W.heap.size 3 i0 _ 1 Try.underlying36 Hi.out Hz0.out Hz1.out .i64 .i64 _ _ l.length rfl rfl rfl rfl hby (by unfold maxLen; omega) (Nat.le_refl _) ?_; intro w1 ho hg; replace ho := hd ho; replace hg := hd hg; have q2 := (grownBy_below hg.out).cell (World.block_lt_of_cell? W _ q1); rw [q1] at q2)
    have hq2 := hd q2
    have hlt2 := hd (World.block_lt_of_cell? W _ q1)
    clear q1 q2
    go_loopw [19] (fun i wr => ∃ k : Nat, k ≤ l.length ∧ i = .int .i64 k ∧ Hd (wr.ownsRow W.heap.size 3 1 (.slice (some ⟨W.heap.size, 0, none⟩) l.length l.length) l.length ((depUpto l k).map iV)) ∧ Hd (Below W.heap.size W wr)) (fun i _ => l.length - (intOf i).toNat)
    case atStart =>
      refine ⟨0, Nat.zero_le _, rfl, ?_, grownBy_below hg.out⟩
      have h0 := ho.out
      have e : (madeCells (Value.cells (.int .i64 0)) (l.length * 1)).toList = (depUpto l 0).map iV := by
        apply List.ext_getElem?
        intro i
        by_cases hi : i < l.length
        · simp [madeCells, depUpto, hi, iV, Value.cells, Nat.mod_one]
        · simp [madeCells, depUpto, hi]
      rw [e] at h0
      exact h0
    case round =>
      obtain ⟨k, hk, rfl, hown, hbl⟩ := hrel
      have hbw := hd (hW0.out.trans (hbl.out.mono hW0.out.size))
      obtain ⟨wo, rfl⟩ : ∃ wo : World, wo = wr := ⟨_, rfl⟩
      have hlen := depUpto_len l k
      by_cases hlt : k < l.length
      · have hltI : (k : Int) < (l.length : Int) := by omega
        obtain ⟨f0, f1, f2, f3, f4, f5⟩ := Cells.rowWant l k hlt (C1.out.mono hbl.out)
        have hpar := hd (want_parts (hok.out k hlt))
        have hset := hd (depUpto_set hok.out hlt)
        have hmle := hd (maxUp_le hok.out (by omega) (ps := partsL l[k]) hpar.out)
        have hpl := parts_len l[k]
        generalize hx : l[k] = x at *
        replace hx := hd hx
        have hsz := hd hbl.out.size
        go_upto_region 7 with (fail)
        have hbx := hd (hbw.out.next (below_a1 wo (a := (.cells #[.int .i64 x.kind, .int .i64 x.no, .int .i64 x.num, .string x.text, .int .i64 x.a, .int .i64 x.b] 107))))
        have hbl2 := hd (hbl.out.next (below_a1 wo (a := (.cells #[.int .i64 x.kind, .int .i64 x.no, .int .i64 x.num, .string x.text, .int .i64 x.a, .int .i64 x.b] 107))))
        have ho2 := hd (ownsRow_below hown.out (below_a1 wo (a := (.cells #[.int .i64 x.kind, .int .i64 x.no, .int .i64 x.num, .string x.text, .int .i64 x.a, .int .i64 x.b] 107))))
        have g0 : (World.alloc wo (.cells #[.int .i64 x.kind, .int .i64 x.no, .int .i64 x.num, .string x.text, .int .i64 x.a, .int .i64 x.b] 107)).cell? ⟨wo.heap.size, 0, none⟩ = some (.int .i64 x.kind) := by go_simp
        have g1 : (World.alloc wo (.cells #[.int .i64 x.kind, .int .i64 x.no, .int .i64 x.num, .string x.text, .int .i64 x.a, .int .i64 x.b] 107)).cell? ⟨wo.heap.size, 1, none⟩ = some (.int .i64 x.no) := by go_simp
        have g2 : (World.alloc wo (.cells #[.int .i64 x.kind, .int .i64 x.no, .int .i64 x.num, .string x.text, .int .i64 x.a, .int .i64 x.b] 107)).cell? ⟨wo.heap.size, 2, none⟩ = some (.int .i64 x.num) := by go_simp
        have g3 : (World.alloc wo (.cells #[.int .i64 x.kind, .int .i64 x.no, .int .i64 x.num, .string x.text, .int .i64 x.a, .int .i64 x.b] 107)).cell? ⟨wo.heap.size, 3, none⟩ = some (.string x.text) := by go_simp
        have g4 : (World.alloc wo (.cells #[.int .i64 x.kind, .int .i64 x.no, .int .i64 x.num, .string x.text, .int .i64 x.a, .int .i64 x.b] 107)).cell? ⟨wo.heap.size, 4, none⟩ = some (.int .i64 x.a) := by go_simp
        have g5 : (World.alloc wo (.cells #[.int .i64 x.kind, .int .i64 x.no, .int .i64 x.num, .string x.text, .int .i64 x.a, .int .i64 x.b] 107)).cell? ⟨wo.heap.size, 5, none⟩ = some (.int .i64 x.b) := by go_simp
        generalize World.alloc wo (.cells #[.int .i64 x.kind, .int .i64 x.no, .int .i64 x.num, .string x.text, .int .i64 x.a, .int .i64 x.b] 107) = W2 at hbx hbl2 ho2 g0 g1 g2 g3 g4 g5 ⊢
        clear f0 f1 f2 f3 f4 f5
        go_wp2_with fail
        refine (parts_i x _).mono ?_
        rintro e w4 ⟨v4, rfl, hs4, hb4, hf4⟩
        have hbl4 := hd (hbl2.out.next hb4)
        have ho4 := hd (ownsRow_below ho2.out hb4)
        have hU : W.heap.size < W2.heap.size := (ho2.out.lt W.heap.size rfl).2
        clear hb4 g0 g1 g2 g3 g4 g5
        generalize hps : partsL x = ps at *
        replace hps := hd hps
        obtain ⟨a4, c4, rfl, hr4⟩ := hs4
        replace hr4 := hd hr4
        replace hf4 := hd hf4
        simp only [List.length_map]
        go_wp2_with fail
        go_loopw [27] (fun i wr => ∃ j : Nat, j ≤ ps.length ∧ i = .int .i64 j ∧ Hd (wr.ownsRow W.heap.size 3 1 (.slice (some ⟨W.heap.size, 0, none⟩) l.length l.length) l.length (((depUpto l k).set k (maxUp l (ps.take j))).map iV)) ∧ Hd (w4.grownBy wr (some W.heap.size))) (fun i _ => ps.length - (intOf i).toNat)
        case atStart => exact ⟨0, Nat.zero_le _, rfl, by have := ho4.out; rw [← depUpto_set0 l k] at this; exact this, grownBy_refl _ _⟩
        case round =>
          obtain ⟨j, hj, rfl, ho5, hg5⟩ := hrel
          by_cases hjl : j < ps.length
          · obtain ⟨b4, o4, rfl, C4⟩ : ∃ b o, a4 = some ⟨b, o, none⟩ ∧ Cells w4 b o 1 (ps.map encI) := by
              rcases hr4.out with h | ⟨b, o, e, C⟩
              · exfalso; have : ps = [] := by simpa using h
                subst this; simp at hjl
              · exact ⟨b, o, e, C⟩
            have hne : some b4 ≠ some W.heap.size := fun e => by have := hf4.out b4 rfl; cases e; omega
            have f0 := Cells.rowI ps j hjl (C4.kept hg5.out hne)
            obtain ⟨hp0, hp1⟩ := hpar.out ps[j] (List.getElem_mem hjl)
            obtain ⟨m, hm⟩ := Int.eq_ofNat_of_zero_le hp0
            rw [hm] at f0 hp1
            have hml : m < l.length := by omega
            have hmk : m ≠ k := by omega
            have htk := hd (show maxUp l (ps.take (j + 1)) = (if maxUp l (ps.take j) < dep l (m + 1) m then dep l (m + 1) m else maxUp l (ps.take j)) by
              have : maxUp l (ps.take (j + 1)) = max (maxUp l (ps.take j)) (dep l (m + 1) m) := by rw [List.take_succ_eq_append_getElem hjl, maxUp, List.foldl_append, hm]; rfl
              rw [this]; split <;> omega)
            have hd1 := dep_le hok.out m hml
            have hd2 := dep_pos hml
            have hM0 := maxUp_ge l (ps.take j)
            have hM1 := maxUp_le hok.out (by omega) (ps := ps.take j) (k := k) (fun p hp => hpar.out p (List.mem_of_mem_take hp))
            generalize maxUp l (ps.take j) = M at *
            generalize hdm : dep l (m + 1) m = dm at *
            have hul : ((depUpto l k).set k M).length = l.length := by simp [hlen]
            have qk : wr.cell? ⟨W.heap.size, k, none⟩ = some (.int .i64 M) := by rw [ho5.out.cellAt k (by omega), iV_cell (by omega)]; simp
            have qm : wr.cell? ⟨W.heap.size, m, none⟩ = some (.int .i64 dm) := by
              rw [ho5.out.cellAt m (by omega), iV_cell (by omega)]
              rw [List.getElem_set_ne (by omega), depUpto_lt (by omega) hml, hdm]
            have r5 := ho5.out.frozenAt k
            clear C4
            have hmI : (m : Int) < (l.length : Int) := by omega
            go_upto_region 10 with (fail)
            go_still_tail 12, (by kernel_rfl)
            change wpList _ _ _ _ _ wr.drew
            have ho6 : wr.drew.ownsRow W.heap.size 3 1 (.slice (some ⟨W.heap.size, 0, none⟩) l.length l.length) l.length (((depUpto l k).set k M).map iV) := ho5.out
            have hg6 : w4.grownBy wr.drew (some W.heap.size) := ⟨hg5.out.os, hg5.out.tape, hg5.out.output, hg5.out.size, hg5.out.block⟩
            have qk2 : wr.drew.cell? ⟨W.heap.size, k, none⟩ = some (.int .i64 M) := qk
            have qm2 : wr.drew.cell? ⟨W.heap.size, m, none⟩ = some (.int .i64 dm) := qm
            have r6 : wr.drew.frozen? ⟨W.heap.size, k, none⟩ = false := r5
            have hst5 := hd (ho6.stored k (.int .i64 (if M < dm then dm else M)))
            have hset2 := hd (show ((((depUpto l k).set k M).map iV).set k (.int .i64 (if M < dm then dm else M))) = (((depUpto l k).set k (maxUp l (ps.take (j + 1)))).map iV) by rw [htk.out, List.map_set, List.map_set, List.set_set]; rfl)
            clear ho5 hg5 qk qm r5
            replace hg6 := hd hg6
            replace ho6 := hd ho6
            generalize wr.drew = w7 at *
            go_wp2_with fail
            go_roundw
            case rel => exact ⟨j + 1, by omega, by go_num, by rw [← hset2.out]; exact hst5.out.1, grownBy_trans hg6.out hst5.out.2 (.inl rfl)⟩
            case measure => simp [intOf]; omega
          · have hjj : j = ps.length := by omega
            subst hjj
            rw [List.take_length] at ho5
            have hul : ((depUpto l k).set k (maxUp l ps)).length = l.length := by simp [hlen]
            have hM0 := maxUp_ge l ps
            have hM1 := hmle.out
            generalize maxUp l ps = M at *
            have qk : wr.cell? ⟨W.heap.size, k, none⟩ = some (.int .i64 M) := by rw [ho5.out.cellAt k (by omega), iV_cell (by omega)]; simp
            have r5 := ho5.out.frozenAt k
            have hst5 := hd (ho5.out.stored k (.int .i64 (M + 1)))
            have hset2 := hd (show ((((depUpto l k).set k M).map iV).set k (.int .i64 (M + 1))) = ((depUpto l (k + 1)).map iV) by rw [← hset.out, List.map_set, List.map_set, List.set_set]; rfl)
            go_wp2_with fail
            go_roundw
            case rel => exact ⟨k + 1, by omega, by go_num, by rw [← hset2.out]; exact hst5.out.1, hbl4.out.grown (grownBy_trans hg5.out hst5.out.2 (.inl rfl)) hbl4.out.size (by intro g hgg; cases hgg; exact Nat.le_refl _)⟩
            case measure => simp [intOf]; omega
      · have hkl : k = l.length := by omega
        subst hkl
        have hin : l.length - 1 < (depUpto l l.length).length := by omega
        have qk : wo.cell? ⟨W.heap.size, l.length - 1, none⟩ = some (.int .i64 r) := by
          rw [hown.out.cellAt (l.length - 1) (by omega), iV_cell hin, depUpto_lt (by omega) (by omega), hres.out, show l.length - 1 + 1 = l.length by omega]
        have hsub : (l.length : Int) - 1 = ((l.length - 1 : Nat) : Int) := by omega
        have hs2 : ((l.length : Int) - 1).toNat = l.length - 1 := by omega
        go_wp2_with fail
        go_ret2
        exact ⟨by rfl, hbw.out⟩
end Go.Proofs.Ytaadjpdghikkmaa

/- Whether each value of a type is one of another's: l2By and l2Sub of the reference. -/
import Derived.Test.YtobahkjbadamhaaSubMI
import Derived.StillTailTactics
namespace Go.Proofs.Ytobahkjbadamhaa
open Go.RowKit
set_option linter.unusedVariables false
set_option maxRecDepth 100000
def rowK (p : K) (a : Option Addr) (c : Nat) : List Value := [.int .i64 p.of, .string p.name, .int .i64 p.no, .bool p.must, .int .i64 p.most, .slice a p.parts.length c]
/-- The first part with a number; an empty one without. -/
def ByPost (t : K) (rows : List (List Value)) (no : Int) (w : World) (e : Ending) (w' : World) : Prop :=
  (∀ j, firstP t.parts no j → ∃ h : j < rows.length, e = .returned (.tuple #[.agg rows[j].toArray, .bool true])) ∧ (noneP t.parts no → e = .returned (.tuple #[.agg #[.int .i64 0, .string ⟨#[]⟩, .int .i64 0, .bool false, .int .i64 0, .slice none 0 0], .bool false])) ∧ Below w.heap.size w w'
set_option maxHeartbeats 3200000 in
theorem by_s (t : K) (no : Int) (a : Option Addr) (c : Nat) (rows : List (List Value)) (w : World) (lo hi : Nat) (hh : hi ≤ w.heap.size) (hlen : t.parts.length ≤ 1000000)
    (hS : RSl w lo hi (.slice a t.parts.length c) rows) (hl : rows.length = t.parts.length) (hg : ∀ j (h : j < t.parts.length) (h' : j < rows.length), RepT w lo hi t.parts[j] rows[j]) :
    Calls Try.prog 81 #[.agg #[.int .i64 t.of, .string t.name, .int .i64 t.no, .bool t.must, .int .i64 t.most, .slice a t.parts.length c], .int .i64 no] w (ByPost t rows no w) := by
  replace hg := hd hg
  have hres1 := hd (fun j (hf : firstP t.parts no j) (hj : j < rows.length) w' (hb : Below w.heap.size w w') => (show ByPost t rows no w (.returned (.tuple #[.agg rows[j].toArray, .bool true])) w' from ⟨fun j' hf' => by
      have : j' = j := by
        by_cases e1 : j' < j
        · exact absurd hf'.2.1 (hf.2.2 j' e1)
        · by_cases e2 : j < j'
          · exact absurd hf.2.1 (hf'.2.2 j e2)
          · omega
      subst this; exact ⟨hj, rfl⟩, fun g => absurd hf.2.1 (g j hf.1), hb⟩))
  have hres0 := hd (fun (hn : noneP t.parts no) w' (hb : Below w.heap.size w w') => (show ByPost t rows no w (.returned (.tuple #[.agg #[.int .i64 0, .string ⟨#[]⟩, .int .i64 0, .bool false, .int .i64 0, .slice none 0 0], .bool false])) w' from ⟨fun j hf => absurd hf.2.1 (hn j hf.1), fun _ => rfl, hb⟩))
  generalize hps : t.parts = ps at *
  replace hps := hd hps
  generalize t.of = o at *
  generalize t.name = nm at *
  generalize t.no = nn at *
  generalize t.must = mu at *
  generalize t.most = mo at *
  have hXr := hd (show BoxN ((w.alloc (.cells #[.int .i64 o, .string nm, .int .i64 nn, .bool mu, .int .i64 mo, .slice a ps.length c] 74)).alloc (.cells #[.int .i64 0, .string ⟨#[]⟩, .int .i64 0, .bool false, .int .i64 0, .slice none 0 0] 74)) (w.heap.size + 1) [.int .i64 0, .string ⟨#[]⟩, .int .i64 0, .bool false, .int .i64 0, .slice none 0 0] from by have := BoxN.new (w.alloc (.cells #[.int .i64 o, .string nm, .int .i64 nn, .bool mu, .int .i64 mo, .slice a ps.length c] 74)) [.int .i64 0, .string ⟨#[]⟩, .int .i64 0, .bool false, .int .i64 0, .slice none 0 0] 74; rwa [World.size_alloc] at this)
  have hbW := hd (below_a2 w (a := .cells #[.int .i64 o, .string nm, .int .i64 nn, .bool mu, .int .i64 mo, .slice a ps.length c] 74) (b := .cells #[.int .i64 0, .string ⟨#[]⟩, .int .i64 0, .bool false, .int .i64 0, .slice none 0 0] 74))
  obtain ⟨W, hW⟩ : ∃ W, W = (w.alloc (.cells #[.int .i64 o, .string nm, .int .i64 nn, .bool mu, .int .i64 mo, .slice a ps.length c] 74)).alloc (.cells #[.int .i64 0, .string ⟨#[]⟩, .int .i64 0, .bool false, .int .i64 0, .slice none 0 0] 74) := ⟨_, rfl⟩
  have q5 := (show W.cell? ⟨w.heap.size, 5, none⟩ = some (.slice a ps.length c) by rw [hW]; go_simp)
  have hsW : W.heap.size = w.heap.size + 2 := by rw [hW]; simp
  rw [← hW] at hXr hbW
  replace hW := hd hW
  go_enter Try.func81, Try.ntmps81
  go_upto_region 1 with (fail)
  rw [← hW.out]
  clear hW
  go_wp2_with fail
  clear q5
  go_loopw [11] (fun n wr => ∃ k : Nat, n = .int .i64 k ∧ k ≤ ps.length ∧ Hd (∀ i (h : i < ps.length), i < k → ps[i].no ≠ no) ∧ Hd (Below W.heap.size W wr)) (fun n _ => ps.length - (intOf n).toNat)
  case atStart => exact ⟨0, rfl, Nat.zero_le _, fun i _ h => by omega, Below.refl _ _⟩
  case round =>
    obtain ⟨k, rfl, hk, hno, hbl⟩ := hrel
    obtain ⟨wo, rfl⟩ : ∃ wo : World, wo = wr := ⟨_, rfl⟩
    have hbw := hd (hbW.out.next hbl.out)
    have hXo := hd (hXr.out.below hbl.out)
    by_cases hlt : k < ps.length
    · have hltI : (k : Int) < (ps.length : Int) := by omega
      have hkr : k < rows.length := by omega
      obtain ⟨b1, rfl, hb1, hc1⟩ := hS.at (j := k) hkr
      obtain ⟨ak, ck, rowsk, hrk, _⟩ := (hg.out k hlt hkr).open
      have hck := hc1 k hkr
      have hr1 := hd (fun (e : ps[k].no = no) => hres1.out k ⟨hlt, e, fun i hi => hno.out i (by omega) hi⟩ hkr)
      have hstep := hd (fun (e : ps[k].no ≠ no) => (show ∀ i (h : i < ps.length), i < k + 1 → ps[i].no ≠ no from fun i h1 h2 => by
        by_cases e2 : i = k
        · subst e2; exact e
        · exact hno.out i h1 (by omega)))
      rw [hrk] at hck hr1
      have d0 := keepCell hbw.out (show w.cell? ⟨b1, k * 6, none⟩ = _ from hck 0 _ rfl)
      have d1 := keepCell hbw.out (hck 1 _ rfl)
      have d2 := keepCell hbw.out (hck 2 _ rfl)
      have d3 := keepCell hbw.out (hck 3 _ rfl)
      have d4 := keepCell hbw.out (hck 4 _ rfl)
      have d5 := keepCell hbw.out (hck 5 _ rfl)
      clear hc1 hrk hck
      generalize ps[k] = p at *
      have hX := hd (show BoxN (wo.alloc (.cells #[.int .i64 p.of, .string p.name, .int .i64 p.no, .bool p.must, .int .i64 p.most, .slice ak p.parts.length ck] 74)) wo.heap.size [.int .i64 p.of, .string p.name, .int .i64 p.no, .bool p.must, .int .i64 p.most, .slice ak p.parts.length ck] from BoxN.new wo [.int .i64 p.of, .string p.name, .int .i64 p.no, .bool p.must, .int .i64 p.most, .slice ak p.parts.length ck] _)
      have hXo2 := hd (hXo.out.below (below_a1 wo (a := .cells #[.int .i64 p.of, .string p.name, .int .i64 p.no, .bool p.must, .int .i64 p.most, .slice ak p.parts.length ck] 74)))
      have hbl2 := hd (hbl.out.next (below_a1 wo (a := .cells #[.int .i64 p.of, .string p.name, .int .i64 p.no, .bool p.must, .int .i64 p.most, .slice ak p.parts.length ck] 74)))
      have hbw2 := hd (hbw.out.next (below_a1 wo (a := .cells #[.int .i64 p.of, .string p.name, .int .i64 p.no, .bool p.must, .int .i64 p.most, .slice ak p.parts.length ck] 74)))
      go_upto_region 4 with (fail)
      generalize wo.alloc (.cells #[.int .i64 p.of, .string p.name, .int .i64 p.no, .bool p.must, .int .i64 p.most, .slice ak p.parts.length ck] 74) = W4 at *
      clear d0 d1 d2 d3 d4 d5
      have p2 := hX.out.1 2 _ rfl
      by_cases he : p.no = no
      · have heb : (p.no == no) = true := by simpa using he
        have p0 := hX.out.1 0 _ rfl
        have p1 := hX.out.1 1 _ rfl
        have p3 := hX.out.1 3 _ rfl
        have p4 := hX.out.1 4 _ rfl
        have p5 := hX.out.1 5 _ rfl
        have z0 := hXo2.out.1 0 _ rfl; have rz0 := hXo2.out.2.1 0; have z1 := hXo2.out.1 1 _ rfl; have rz1 := hXo2.out.2.1 1; have z2 := hXo2.out.1 2 _ rfl; have rz2 := hXo2.out.2.1 2; have z3 := hXo2.out.1 3 _ rfl; have rz3 := hXo2.out.2.1 3; have z4 := hXo2.out.1 4 _ rfl; have rz4 := hXo2.out.2.1 4; have z5 := hXo2.out.1 5 _ rfl; have rz5 := hXo2.out.2.1 5
        have hGf := grownBy_setCells (w.heap.size + 1) [.int .i64 p.of, .string p.name, .int .i64 p.no, .bool p.must, .int .i64 p.most, .slice ak p.parts.length ck] W4 0
        have hbelow := hd (show Below w.heap.size w (setCells W4 (w.heap.size + 1) 0 [.int .i64 p.of, .string p.name, .int .i64 p.no, .bool p.must, .int .i64 p.most, .slice ak p.parts.length ck]) from hbw2.out.grown hGf hbw2.out.size (fun g hg => by cases hg; omega))
        have hfin := hd (hr1.out he _ hbelow.out)
        clear he hr1 hstep hGf
        go_wp2_with fail
        exact bodyPost_ret (v := .tuple #[.agg #[.int .i64 p.of, .string p.name, .int .i64 p.no, .bool p.must, .int .i64 p.most, .slice ak p.parts.length ck], .bool true]) (by simp [results, Try.results81, go_sem, z0, z1, z2, z3, z4, z5]) rfl hfin.out
      · have heb : (p.no == no) = false := by simpa using he
        have hnx := hd (hstep.out he)
        clear he hr1 hstep
        go_wp2_with fail
        go_roundw
        case rel => exact ⟨k + 1, by go_num, by omega, hnx, hbl2⟩
        case measure => simp [intOf]; omega
    · obtain rfl : k = ps.length := by omega
      have hltI : ¬ (ps.length : Int) < (ps.length : Int) := by omega
      have z0 := hXo.out.1 0 _ rfl; have rz0 := hXo.out.2.1 0; have z1 := hXo.out.1 1 _ rfl; have rz1 := hXo.out.2.1 1; have z2 := hXo.out.1 2 _ rfl; have rz2 := hXo.out.2.1 2; have z3 := hXo.out.1 3 _ rfl; have rz3 := hXo.out.2.1 3; have z4 := hXo.out.1 4 _ rfl; have rz4 := hXo.out.2.1 4; have z5 := hXo.out.1 5 _ rfl; have rz5 := hXo.out.2.1 5
      have hGf := grownBy_setCells (w.heap.size + 1) [.int .i64 0, .string ⟨#[]⟩, .int .i64 0, .bool false, .int .i64 0, .slice none 0 0] wo 0
      have hbelow := hd (show Below w.heap.size w (setCells wo (w.heap.size + 1) 0 [.int .i64 0, .string ⟨#[]⟩, .int .i64 0, .bool false, .int .i64 0, .slice none 0 0]) from hbw.out.grown hGf hbw.out.size (fun g hg => by cases hg; omega))
      have hfin := hd (hres0.out (fun i hi => hno.out i hi hi) _ hbelow.out)
      clear hGf
      go_wp2_with fail
      exact bodyPost_ret (v := .tuple #[.agg #[.int .i64 0, .string ⟨#[]⟩, .int .i64 0, .bool false, .int .i64 0, .slice none 0 0], .bool false]) (by simp [results, Try.results81, go_sem, z0, z1, z2, z3, z4, z5]) rfl hfin.out
end Go.Proofs.Ytobahkjbadamhaa

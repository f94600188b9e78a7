/- The text of a type: text of the program. -/
import Derived.Test.YtcepnifcfkgaeaaDoorStM
import Derived.Test.YtcepnifcfkgaeaaDoorShelfK
import Derived.Test.YtcepnifcfkgaeaaDoorQuietB
import Derived.Deep.RegionHeld3
import Derived.Deep.RegionLaw
namespace Go.Proofs.YtcepnifcfkgaeaaDoor
open Go.RowKit
set_option linter.unusedVariables false
set_option maxRecDepth 100000
theorem itoa_i (n : Int) (w : World) (h : 0 ≤ n ∧ n < 100) : Calls Tryd.prog 27 #[.int .i64 n] w (fun e w' => e = .returned (.string (mkS (digN n))) ∧ w' = w) := by
  obtain ⟨i, rfl⟩ : ∃ i : Nat, n = (i : Int) := ⟨n.toNat, by omega⟩
  exact strconv_Itoa_small i (by omega) w
theorem mkS_back (xs : List (List UInt8)) : (xs.map mkS).map (·.data.toList) = xs := by
  rw [List.map_map]
  exact (List.map_congr_left (fun x _ => by simp)).trans (List.map_id xs)
theorem join_t (bk c : Nat) (xs : List (List UInt8)) (w : World)
    (hcells : ∀ (j : Nat) x, xs[j]? = some x → w.cell? ⟨bk, j, none⟩ = some (.string (mkS x)))
    (hbk : bk < w.heap.size) (hN : xs.length ≤ 140737488355328) (hcap : xs.length ≤ c)
    (hlen : (Lib.join xs [44]).length ≤ 140737488355328) :
    Calls Tryd.prog 28 #[.slice (some ⟨bk, 0, none⟩) xs.length c, .string ⟨#[44]⟩] w fun e w' => e = .returned (.string (mkS (Lib.join xs [44]))) ∧ Below w.heap.size w w' := by
  have h := strings_Join bk 0 c (xs.map mkS) ⟨#[44]⟩ w (fun j x hx => by
    rw [List.getElem?_map, Option.map_eq_some_iff] at hx
    obtain ⟨y, hy, rfl⟩ := hx
    rw [Nat.zero_add]
    exact hcells j y hy) hbk (by simpa using hN) (by simpa using hcap) (by rw [mkS_back]; exact hlen)
  rw [mkS_back, List.length_map] at h
  exact h
def encT (l : List UInt8) : List Value := [.string (mkS l)]
theorem encT_len (l : List (List UInt8)) : ∀ r ∈ l.map encT, r.length = 1 := by
  intro r hr; obtain ⟨x, _, rfl⟩ := List.mem_map.1 hr; rfl
theorem infoStrv : (Tryd.prog.info? 9).map (fun i => (i.zero, i.size, i.bytes)) = some (some (.string ⟨#[]⟩), 1, 16) := by kernel_rfl
/-- A row of strings of the call's own; the first k of them are done. -/
def StrRow (w : World) (B n k : Nat) (ds : List (List UInt8)) : Prop :=
  ∃ xs, w.ownsRow B 9 1 (.slice (some ⟨B, 0, none⟩) n n) n xs ∧ Pre 1 k (ds.map encT) xs
theorem StrRow.kept {w w' : World} {B n k : Nat} {ds : List (List UInt8)} (h : StrRow w B n k ds) (hb : Below w.heap.size w w') : StrRow w' B n k ds := by
  obtain ⟨xs, h1, h2⟩ := h
  exact ⟨xs, ownsRow_below h1 hb, h2⟩
theorem StrRow.slot {w : World} {B n k : Nat} {ds : List (List UInt8)} (h : StrRow w B n k ds) (hk : k < n) : (∃ u, w.cell? ⟨B, k, none⟩ = some u) ∧ w.frozen? ⟨B, k, none⟩ = false := by
  obtain ⟨xs, h1, h2⟩ := h
  have hl : xs.length = n * 1 := h1.1
  exact ⟨⟨xs[k]'(by omega), by rw [h1.cellAt _ (by omega)]; exact List.getElem?_eq_getElem (by omega)⟩, h1.frozenAt _⟩
theorem StrRow.put {w : World} {B n k : Nat} {ds : List (List UInt8)} (h : StrRow w B n k ds) (u : Value) :
    StrRow (w.setCell ⟨B, k, none⟩ u) B n k ds ∧ w.grownBy (w.setCell ⟨B, k, none⟩ u) (some B) := by
  obtain ⟨xs, h1, h2⟩ := h
  have hst := ownsRow_setCells [u] _ _ k h1
  refine ⟨⟨_, hst.1, fun i r hi hr j u' hu' => ?_⟩, hst.2⟩
  have h3 := h2 i r hi hr j u' hu'
  have hj : j < r.length := (List.getElem?_eq_some_iff.1 hu').1
  rw [encT_len ds r (List.mem_of_getElem? hr)] at hj
  rw [setL_lt _ _ _ _ (by omega)]; exact h3
theorem StrRow.now {w : World} {B n k : Nat} {ds : List (List UInt8)} (h : StrRow w B n k ds) (hk : k < n) (u : Value) : (w.setCell ⟨B, k, none⟩ u).cell? ⟨B, k, none⟩ = some u := by
  obtain ⟨⟨x, hx⟩, _⟩ := h.slot hk
  exact World.cell?_setCell_same _ _ _ hx
theorem StrRow.fin {w : World} {B n k : Nat} {ds : List (List UInt8)} {z : List UInt8} (h : StrRow w B n k ds) (hk : k < n) (hz : ds[k]? = some z) :
    StrRow (w.setCell ⟨B, k, none⟩ (.string (mkS z))) B n (k + 1) ds := by
  obtain ⟨xs, h1, h2⟩ := h
  have hl : xs.length = n * 1 := h1.1
  have hst := ownsRow_setCells (encT z) _ _ k h1
  have hp := h2.step (encT_len ds) (show (ds.map encT)[k]? = some (encT z) by rw [List.getElem?_map, hz]; rfl) (by omega)
  rw [Nat.mul_one] at hp
  exact ⟨_, hst.1, hp⟩
theorem StrRow.all {w : World} {B : Nat} {ds : List (List UInt8)} (h : StrRow w B ds.length ds.length ds) : ∀ (j : Nat) x, ds[j]? = some x → w.cell? ⟨B, j, none⟩ = some (.string (mkS x)) := by
  obtain ⟨xs, h1, h2⟩ := h
  intro j x hx
  have hj : j < ds.length := (List.getElem?_eq_some_iff.1 hx).1
  have hl : xs.length = ds.length * 1 := h1.1
  have h3 := h2 j (encT x) hj (by rw [List.getElem?_map, hx]; rfl) 0 _ rfl
  rw [Nat.mul_one, Nat.add_zero] at h3
  rw [h1.cellAt _ (by omega)]; exact h3
def TxPost (l : List UInt8) (w : World) (e : Ending) (w' : World) : Prop := e = .returned (.string (mkS l)) ∧ Below w.heap.size w w'
set_option maxHeartbeats 12800000 in
theorem text_i (t : K) : ∀ (v : Value) (w : World) (lo hi : Nat), hi ≤ w.heap.size → countK t ≤ 1000000 → rightK t → RepP w lo hi t v →
    Calls Tryd.prog 15 #[v] w (TxPost (stK t) w) := by
  refine K.ind2 (P := fun t => ∀ (v : Value) (w : World) (lo hi : Nat), hi ≤ w.heap.size → countK t ≤ 1000000 → rightK t → RepP w lo hi t v →
    Calls Tryd.prog 15 #[v] w (TxPost (stK t) w)) ?_ t
  intro t ih v w lo hi hhi hc hok hA
  obtain ⟨bA, aA, cA, vsA, rfl, hbA, x0, x1, x2, x3, x4, x5, hSA, hlA, hgA⟩ := hA.open
  have hla : t.parts.length ≤ 1000000 := by have h1 := len_count t.parts; have h2 := countK_eq t; omega
  have hcq := countK_eq t
  have hqa := hd (fun p (hp : p ∈ t.parts) => (show countK p ≤ 1000000 ∧ rightK p ∧ (stK p).length + 20 ≤ 40 * countK p ∧ countK p ≤ 1000000 from ⟨by have h1 := count_part hp; omega, hok.partS hp, stK_len p (hok.partS hp), by have h1 := count_part hp; omega⟩))
  have hpt := hd (fun p (hp : p ∈ t.parts) => hok.partOfS hp)
  have hps := hok.okS
  have hst := stK_eq t
  obtain ⟨r, hr⟩ : ∃ r, stK t = r := ⟨_, rfl⟩
  rw [hr] at hst ⊢
  clear hA hr hok
  have hmx : Tryd.prog.follows .mixedOrders = true := by kernel_rfl
  rcases hps with ⟨ho, -, -⟩ | ⟨ho, hm, -⟩ | ⟨ho, -, h1⟩ | ⟨ho, -, -⟩
  · rcases ho with ho | ho
    · rw [if_pos ho] at hst
      have hres := hd hst
      rw [ho] at x0
      clear ih hSA hgA hqa hst hlA hpt
      go_enter Tryd.func15, Tryd.ntmps15
      go_wp2_with fail
      go_ret
      exact ⟨ret_str (by rw [hres.out] <;> rfl), Below.refl _ _⟩
    · rw [if_neg (by omega), if_pos ho] at hst
      have hres := hd hst
      rw [ho] at x0
      clear ih hSA hgA hqa hst hlA hpt
      go_enter Tryd.func15, Tryd.ntmps15
      go_wp2_with fail
      go_ret
      exact ⟨ret_str (by rw [hres.out] <;> rfl), Below.refl _ _⟩
  · rw [if_neg (by omega), if_neg (by omega), if_pos ho] at hst
    have hres := hd hst
    rw [ho] at x0
    have ci := hd (fun w' => itoa_i t.most w' (by omega))
    have hdl := digN_len (n := t.most) (by omega)
    have hms := mkS_size (digN t.most)
    have hz1 : (⟨#[101, 110, 117, 109, 40]⟩ : ByteArray).size + (mkS (digN t.most)).size ≤ 20 := by rw [hms]; show 5 + _ ≤ _; omega
    have hz2 : (⟨#[101, 110, 117, 109, 40]⟩ ++ mkS (digN t.most) : ByteArray).size + (⟨#[41]⟩ : ByteArray).size ≤ 20 := by rw [ByteArray.size_append, hms]; show 5 + _ + 1 ≤ _; omega
    clear ih hSA hgA hqa hst hlA hpt
    generalize digN t.most = dn at *
    generalize t.most = mo at *
    go_enter Tryd.func15, Tryd.ntmps15
    go_wp2_with fail
    refine (ci.out _).mono ?_
    rintro e w2 ⟨rfl, rfl⟩
    go_wp2_with fail
    go_ret
    exact ⟨ret_str (by rw [hres.out]; exact (by rw [← mkS_append, ← mkS_append] : _ = mkS ([101, 110, 117, 109, 40] ++ dn ++ [41]))), Below.refl _ _⟩
  · rw [if_neg (by omega), if_neg (by omega), if_neg (by omega), if_pos ho, stH_one h1] at hst
    have hres := hd hst
    rw [ho] at x0
    have hp0 : t.parts[0]'(by omega) ∈ t.parts := List.getElem_mem _
    have hx := hqa.out _ hp0
    obtain ⟨b1, o1, rfl, hb1, hc1⟩ := hSA.at (j := 0) (by omega)
    have q1 : w.cell? ⟨b1, o1, none⟩ = some (vsA[0]'(by omega)) := hc1 0 (by omega)
    have ck := hd (ih _ hp0 _ w lo hi hhi hx.1 hx.2.1 (hgA 0 (by omega) (by omega)))
    have hms := mkS_size (stK (t.parts[0]'(by omega)))
    have hz1 : (⟨#[91]⟩ : ByteArray).size + (mkS (stK (t.parts[0]'(by omega)))).size ≤ 100000000 := by rw [hms]; show 1 + _ ≤ _; omega
    have hz2 : (⟨#[91]⟩ ++ mkS (stK (t.parts[0]'(by omega))) : ByteArray).size + (⟨#[93]⟩ : ByteArray).size ≤ 100000000 := by rw [ByteArray.size_append, hms]; show 1 + _ + 1 ≤ _; omega
    rw [h1] at x5
    clear ih hSA hgA hqa hst hpt hx hms hp0 hc1
    generalize stK (t.parts[0]'(by omega)) = tk at *
    generalize vsA[0]'(by omega) = va at *
    go_enter Tryd.func15, Tryd.ntmps15
    go_wp2_with fail
    refine ck.out.mono ?_
    rintro e w2 ⟨rfl, hb2⟩
    go_wp2_with fail
    go_ret
    exact ⟨ret_str (by rw [hres.out]; exact (by rw [← mkS_append, ← mkS_append] : _ = mkS ([91] ++ tk ++ [93]))), hb2⟩
  · rw [if_neg (by omega), if_neg (by omega), if_neg (by omega), if_neg (by omega)] at hst
    have hres := hd hst
    have hpls := pcs_len (o := 5) (ps := t.parts) (fun p hp => by have := hpt.out p hp; rwa [ho] at this) (fun p hp => (hqa.out p hp).2.2.1)
    have hjl := join_le hpls
    rw [ho] at x0 hpt
    obtain ⟨i0, hi0, hz0, hz1, hz2⟩ := info_parts infoStrv
    have Hi := hd hi0; have Hz0 := hd hz0; have Hz1 := hd hz1; have Hz2 := hd hz2
    have hby : i0.bytes * t.parts.length ≤ 281474976710656 := by rw [hz2]; omega
    clear hi0 hz0 hz1 hz2 hst
    have X5 := hd x5
    replace ih := hd ih
    replace hlA := hd hlA
    replace hgA := hd hgA
    go_enter Tryd.func15, Tryd.ntmps15
    go_wp2_with (at_make; refine wpList_make_full _ rfl (.tmp 38) (.tmp 38) 63 rfl w.heap.size 9 i0 _ 1 Tryd.underlying63 Hi.out Hz0.out Hz1.out .i64 .i64 _ _ t.parts.length rfl rfl rfl rfl hby (by unfold maxLen; omega) (Nat.le_refl _) ?_; intro w1 ho hg; replace ho := hd ho; replace hg := hd hg; have x5 := keepCell (grownBy_below hg.out) X5.out)
    clear x0 x1 x2 x3 x4 x5
    go_loopw [45] (fun i wr => ∃ k : Nat, i = .int .i64 k ∧ k ≤ t.parts.length ∧ Hd (StrRow wr w.heap.size t.parts.length k (t.parts.map pcK)) ∧ Hd (Below w.heap.size w wr)) (fun i _ => t.parts.length - (intOf i).toNat)
    case atStart => exact ⟨0, rfl, Nat.zero_le _, ⟨_, ho.out, Pre.zero⟩, grownBy_below hg.out⟩
    case round =>
      obtain ⟨k, rfl, hk, hrow, hbl⟩ := hrel
      obtain ⟨wo, rfl⟩ : ∃ wo : World, wo = wr := ⟨_, rfl⟩
      by_cases hlt : k < t.parts.length
      · have hltI : (k : Int) < (t.parts.length : Int) := by omega
        have hkA : k < vsA.length := by have := hlA.out; omega
        obtain ⟨b1, o1, rfl, hb1, hc1⟩ := hSA.at (j := k) hkA
        have q1 := keepCell hbl.out (hc1 k hkA)
        have RA := (hgA.out k hlt hkA).same (Same.below hbl.out hhi) (Nat.le_refl _) (Nat.le_refl _) _ _
        have hxm := hqa.out _ (List.getElem_mem hlt)
        have hpo := (hpt.out _ (List.getElem_mem hlt)).1 rfl
        have hpl := pcM_len (hpt.out _ (List.getElem_mem hlt))
        have hpk : (t.parts.map pcK)[k]? = some (pcK t.parts[k]) := by simp [hlt]
        have ck := hd (fun (w' : World) (hw : Below w.heap.size w w') => ih.out t.parts[k] (List.getElem_mem hlt) vsA[k] w' lo hi (Nat.le_trans hhi hw.size) hxm.1 hxm.2.1 ((hgA.out k hlt hkA).same (Same.below hw hhi) (Nat.le_refl _) (Nat.le_refl _) _ _))
        obtain ⟨bp, ap, cp, vp, e1, hbp, -, y1, y2, y3, -, -, -⟩ := RA.open
        rw [e1] at q1 ck
        have hne : bp ≠ w.heap.size := by omega
        clear hc1 RA e1
        generalize vsA[k] = vk at *
        generalize hpe : t.parts[k] = p at *
        have ci := hd (fun w' => itoa_i p.no w' (by omega))
        have hdl := digN_len (n := p.no) (by omega)
        have hmd := mkS_size (digN p.no)
        have hms := mkS_size (stK p)
        have hmm := mkS_size (pcM p)
        have hnz : p.name.size ≤ 10 := hpo.1.2.2
        have hz1 : p.name.size + (⟨#[58]⟩ : ByteArray).size ≤ 20 := by show _ + 1 ≤ _; omega
        have hz2 : (p.name ++ ⟨#[58]⟩ : ByteArray).size + (mkS (digN p.no)).size ≤ 20 := by rw [ByteArray.size_append, hmd]; show _ + 1 + _ ≤ _; omega
        have e1 := hd (show p.name ++ ⟨#[58]⟩ ++ mkS (digN p.no) = mkS (pcH p) from by rw [pcH, ← mkS_append, ← mkS_append] <;> rfl)
        have e2 := hd (show mkS (pcM p) = if p.must = true then mkS (pcH p) ++ ⟨#[33]⟩ else mkS (pcH p) from by
          rw [pcM]; split
          · rw [← mkS_append] <;> rfl
          · rw [List.append_nil])
        have hml : (pcH p).length ≤ 14 := by rw [pcM, List.length_append] at hpl; omega
        have hmh0 := mkS_size (pcH p)
        have hs1z : (mkS (pcH p)).size ≤ 14 := by omega
        have hs2z : (mkS (pcM p)).size ≤ 14 := by omega
        have hs3z : (mkS (stK p)).size ≤ 50000000 := by omega
        have e3 := hd (show mkS (pcM p) ++ (⟨#[32]⟩ ++ mkS (stK p)) = mkS (pcK p) from by rw [pcK, ← mkS_append, ← mkS_append, ByteArray.append_assoc] <;> rfl)
        obtain ⟨⟨u0, q0⟩, r0⟩ := hrow.out.slot hlt
        generalize p.must = mu at *
        generalize hdn : mkS (digN p.no) = sd at *
        replace hmh0 := hd hmh0
        generalize hmh : mkS (pcH p) = s1 at *
        generalize hmm2 : mkS (pcM p) = s2 at *
        generalize hmm3 : mkS (stK p) = s3 at *
        generalize p.no = no at *
        generalize p.name = nm at *
        have hw1' : ¬ (9223372036854775807 < nm.size + 1) := by omega
        have hw2 : ¬ (9223372036854775807 < (nm ++ ⟨#[58]⟩ : ByteArray).size + sd.size) := by omega
        have hw2' : ¬ (9223372036854775807 < nm.size + 1 + sd.size) := by rw [ByteArray.size_append] at hw2; exact hw2
        replace hmd := hd hmd
        replace hms := hd hms
        replace hmm := hd hmm
        have g1 := fun u => (grownBy_setCell wo ⟨w.heap.size, k, none⟩ u).cell y1 (fun e => hne (Option.some.inj e))
        have g2 := fun u => (grownBy_setCell wo ⟨w.heap.size, k, none⟩ u).cell y2 (fun e => hne (Option.some.inj e))
        go_wp2_with fail
        go_region_held3 (fun w' => w'.cell? ⟨bp, 1, none⟩ = some (.string nm) ∧ w'.cell? ⟨bp, 2, none⟩ = some (.int .i64 no) ∧ w'.frozen? ⟨w.heap.size, k, none⟩ = false)
          (first | go_keep | (go_split_ands; (repeat' apply And.intro) <;> first | assumption | exact g1 _ | exact g2 _ | go_simp))
          ((go_at_call 27; refine (ci.out _).mono ?_; rintro e w5 ⟨rfl, rfl⟩))
        · have p1 := hrow.out.put (k := k) (.string (nm ++ ⟨#[58]⟩ ++ sd))
          have n1 := hrow.out.now hlt (.string (nm ++ ⟨#[58]⟩ ++ sd))
          have hr1 := hd (p1.1.kept (Below.refl _ _).drew)
          have hb1 := hd ((hbl.out.grown p1.2 hbl.out.size (by intro j hj; cases hj; exact Nat.le_refl _)).drew)
          have y31 : (wo.setCell ⟨w.heap.size, k, none⟩ (.string (nm ++ ⟨#[58]⟩ ++ sd))).drew.cell? ⟨bp, 3, none⟩ = some (.bool mu) := p1.2.cell y3 (fun e => hne (Option.some.inj e))
          have c1 : (wo.setCell ⟨w.heap.size, k, none⟩ (.string (nm ++ ⟨#[58]⟩ ++ sd))).drew.cell? ⟨w.heap.size, k, none⟩ = some (.string s1) := by rw [← e1.out]; exact n1
          generalize (wo.setCell ⟨w.heap.size, k, none⟩ (.string (nm ++ ⟨#[58]⟩ ++ sd))).drew = W1 at *
          clear q0 r0 y1 y2 y3 g1 g2 p1 n1 hz1 hz2 hw1' hw2 hw2' q1 ci
          cases mu with
          | false =>
            have e2' : s2 = s1 := by rw [e2.out]; simp
            rw [← e2'] at c1
            replace e2' := hd e2'
            go_wp2_with fail
            have hz4 : ¬ (9223372036854775807 < 1 + s3.size) := by omega
            have hz5 : ¬ (9223372036854775807 < s2.size + (1 + s3.size)) := by omega
            have fz := (hr1.out.slot hlt).2
            have fzl := World.block_lt_of_cell? W1 ⟨w.heap.size, k, none⟩ c1
            go_region_law ((go_simp; go_at_call 15; refine (ck.out _ (by first | exact hb1.out | exact hb1.out.drew)).mono ?_; rintro e w6 ⟨rfl, hb6⟩; have c6 := keepCell hb6 c1; have f6 : w6.frozen? ⟨w.heap.size, k, none⟩ = false := (hb6.frozen (p := ⟨w.heap.size, k, none⟩) fzl).trans fz))
            all_goals
              have hr6 := (hr1.out.kept (Below.refl _ _).drew).kept hb6
              have hr7 := hd (show StrRow (w6.setCell ⟨w.heap.size, k, none⟩ (.string (s2 ++ (⟨#[32]⟩ ++ s3)))) w.heap.size t.parts.length (k + 1) (t.parts.map pcK) from by rw [e3.out]; exact hr6.fin hlt hpk)
              have hb7 := hd ((hb1.out.drew.next hb6).grown (hr6.put (k := k) (.string (s2 ++ (⟨#[32]⟩ ++ s3)))).2 (hb1.out.drew.next hb6).size (by intro j hj; cases hj; exact Nat.le_refl _))
              clear hr6 hb6 c6 f6 hpk
              go_wp2_with fail
              go_roundw
              case rel => exact ⟨k + 1, by go_num, by omega, hr7, hb7⟩
              case measure => simp [intOf]; omega
          | true =>
            have e2' := hd (show s1 ++ ⟨#[33]⟩ = s2 by rw [e2.out]; simp)
            have fz1 := (hr1.out.slot hlt).2
            have hz6 : s1.size + (⟨#[33]⟩ : ByteArray).size ≤ 20 := by show _ + 1 ≤ _; omega
            have p2 := hr1.out.put (k := k) (.string (s1 ++ ⟨#[33]⟩))
            have n2 : (W1.setCell ⟨w.heap.size, k, none⟩ (.string (s1 ++ ⟨#[33]⟩))).cell? ⟨w.heap.size, k, none⟩ = some (.string s2) := by rw [← e2'.out]; exact hr1.out.now hlt (.string (s1 ++ ⟨#[33]⟩))
            have hr2 := hd p2.1
            have hb2 := hd (hb1.out.grown p2.2 hb1.out.size (by intro j hj; cases hj; exact Nat.le_refl _))
            clear p2
            go_upto_region 17 with (fail)
            generalize W1.setCell ⟨w.heap.size, k, none⟩ (.string (s1 ++ ⟨#[33]⟩)) = W2 at *
            clear c1 fz1 y31
            have hz4 : ¬ (9223372036854775807 < 1 + s3.size) := by omega
            have hz5 : ¬ (9223372036854775807 < s2.size + (1 + s3.size)) := by omega
            have fz := (hr2.out.slot hlt).2
            have fzl := World.block_lt_of_cell? W2 ⟨w.heap.size, k, none⟩ n2
            go_region_law ((go_simp; go_at_call 15; refine (ck.out _ (by first | exact hb2.out | exact hb2.out.drew)).mono ?_; rintro e w6 ⟨rfl, hb6⟩; have c6 := keepCell hb6 n2; have f6 : w6.frozen? ⟨w.heap.size, k, none⟩ = false := (hb6.frozen (p := ⟨w.heap.size, k, none⟩) fzl).trans fz))
            all_goals
              have hr6 := (hr2.out.kept (Below.refl _ _).drew).kept hb6
              have hr7 := hd (show StrRow (w6.setCell ⟨w.heap.size, k, none⟩ (.string (s2 ++ (⟨#[32]⟩ ++ s3)))) w.heap.size t.parts.length (k + 1) (t.parts.map pcK) from by rw [e3.out]; exact hr6.fin hlt hpk)
              have hb7 := hd ((hb2.out.drew.next hb6).grown (hr6.put (k := k) (.string (s2 ++ (⟨#[32]⟩ ++ s3)))).2 (hb2.out.drew.next hb6).size (by intro j hj; cases hj; exact Nat.le_refl _))
              clear hr6 hb6 c6 f6 hpk
              go_wp2_with fail
              go_roundw
              case rel => exact ⟨k + 1, by go_num, by omega, hr7, hb7⟩
              case measure => simp [intOf]; omega
      · obtain rfl : k = t.parts.length := by omega
        have hltI : ¬ (t.parts.length : Int) < (t.parts.length : Int) := by omega
        have hlm : (t.parts.map pcK).length = t.parts.length := List.length_map _
        rw [← hlm] at hrow
        have hbk : w.heap.size < wo.heap.size := by
          obtain ⟨xs, h1, h2⟩ := hrow.out
          rcases h1.2 with ⟨e, _⟩ | ⟨g, cap, cur, e, _, hg2, _⟩
          · cases e
          · cases e; exact (Array.getElem?_eq_some_iff.1 hg2).1
        have cj := hd (join_t w.heap.size (t.parts.map pcK).length (t.parts.map pcK) wo hrow.out.all hbk (by omega) (Nat.le_refl _) (by omega))
        rw [hlm] at cj
        have hms := mkS_size (Lib.join (t.parts.map pcK) [44])
        have hz1 : (⟨#[123]⟩ : ByteArray).size + (mkS (Lib.join (t.parts.map pcK) [44])).size ≤ 100000000 := by rw [hms]; show 1 + _ ≤ _; omega
        have hz2 : (⟨#[123]⟩ ++ mkS (Lib.join (t.parts.map pcK) [44]) : ByteArray).size + (⟨#[125]⟩ : ByteArray).size ≤ 100000000 := by rw [ByteArray.size_append, hms]; show 1 + _ + 1 ≤ _; omega
        have hfin := hd (show ⟨#[123]⟩ ++ mkS (Lib.join (t.parts.map pcK) [44]) ++ ⟨#[125]⟩ = mkS r from by rw [hres.out, ← mkS_append, ← mkS_append] <;> rfl)
        replace hms := hd hms
        generalize mkS (Lib.join (t.parts.map pcK) [44]) = sj at *
        clear hrow hbk
        go_wp2_with fail
        refine cj.out.mono ?_
        rintro e w6 ⟨rfl, hb6⟩
        have hbl6 := hd (hbl.out.next hb6)
        go_wp2_with fail
        go_ret
        exact ⟨ret_str (by rw [hfin.out]), hbl6.out⟩
end Go.Proofs.YtcepnifcfkgaeaaDoor

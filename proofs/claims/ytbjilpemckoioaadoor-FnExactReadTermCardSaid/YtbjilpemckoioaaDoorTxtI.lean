/- The text of a term: text of the program. -/
import Derived.Test.YtbjilpemckoioaaDoorTxtM
import Derived.Test.YtbjilpemckoioaaDoorShelfT
namespace Go.Proofs.YtbjilpemckoioaaDoor
open Go.RowKit
set_option linter.unusedVariables false
set_option maxRecDepth 100000
theorem itoa_i (n : Int) (w : World) (h : 1 ≤ n ∧ n ≤ 6) : Calls Tryd.prog 34 #[.int .i64 n] w (fun e w' => e = .returned (.string (mkS [48 + UInt8.ofNat n.toNat])) ∧ w' = w) := by
  have : n = 1 ∨ n = 2 ∨ n = 3 ∨ n = 4 ∨ n = 5 ∨ n = 6 := by omega
  rcases this with rfl | rfl | rfl | rfl | rfl | rfl <;> (
    go_enter Tryd.func34, Tryd.ntmps34
    go_wp2
    go_ret
    exact ⟨rfl, rfl⟩)
def encT (l : List UInt8) : List Value := [.string (mkS l)]
theorem encT_len (l : List (List UInt8)) : ∀ r ∈ l.map encT, r.length = 1 := by
  intro r hr; obtain ⟨x, _, rfl⟩ := List.mem_map.1 hr; rfl
theorem infoStrv : (Tryd.prog.info? 9).map (fun i => (i.zero, i.size, i.bytes)) = some (some (.string ⟨#[]⟩), 1, 16) := by kernel_rfl
def TxPost (l : List UInt8) (w : World) (e : Ending) (w' : World) : Prop := e = .returned (.string (mkS l)) ∧ Below w.heap.size w w'
set_option maxHeartbeats 6400000 in
theorem text_i (t : K) : ∀ (v : Value) (w : World) (S : Nat → Prop), (∀ k, S k → k < w.heap.size) → countK t ≤ 1000000 → TmOk t → RepY HT w S t v →
    Calls Tryd.prog 19 #[v] w (TxPost (txK t) w) := by
  refine K.ind2 (P := fun t => ∀ (v : Value) (w : World) (S : Nat → Prop), (∀ k, S k → k < w.heap.size) → countK t ≤ 1000000 → TmOk t → RepY HT w S t v →
    Calls Tryd.prog 19 #[v] w (TxPost (txK t) w)) ?_ t
  intro t ih v w S hS hc hok hA
  obtain ⟨bA, aA, cA, vsA, rfl, hbA, hxA, hSA, hlA, hgA⟩ := hA.open
  have hla : t.parts.length ≤ 1000000 := by have h1 := len_count t.parts; have h2 := countK_eq t; omega
  have hlens := tx_lens hok
  have hcq := countK_eq t
  have hqa := hd (fun p (hp : p ∈ t.parts) => (show countK p ≤ 1000000 ∧ TmOk p from ⟨by have h1 := count_part hp; omega, hok.part' hp⟩))
  have hof := hok.of'
  have hnm := hok.nm'
  have htx := txK_eq t
  obtain ⟨r, hr⟩ : ∃ r, txK t = r := ⟨_, rfl⟩
  rw [hr] at htx ⊢
  have x0 := hxA 0 _ rfl
  have x1 := hxA 1 _ rfl
  have x2 := hxA 2 _ rfl
  change w.cell? ⟨bA, 0, none⟩ = some (.int .i64 t.of) at x0
  change w.cell? ⟨bA, 1, none⟩ = some (.string t.name) at x1
  change w.cell? ⟨bA, 2, none⟩ = some (.slice aA t.parts.length cA) at x2
  clear hA hxA hr hok
  have hmx : Tryd.prog.follows .mixedOrders = true := by kernel_rfl
  generalize t.of = vA at *
  generalize t.name = nA at *
  by_cases h1 : 0 < vA
  · rw [if_pos h1] at htx
    have ci := hd (fun w' => itoa_i vA w' (by omega))
    have hz : (⟨#[36]⟩ : ByteArray).size + (mkS [48 + UInt8.ofNat vA.toNat]).size ≤ 2 := by rw [mkS_size]; exact Nat.le_refl _
    have hres := hd htx
    clear ih hSA hgA hqa htx hlA
    go_enter Tryd.func19, Tryd.ntmps19
    go_wp2_with fail
    refine (ci.out _).mono ?_
    rintro e w2 ⟨rfl, rfl⟩
    go_wp2_with fail
    go_ret
    exact ⟨ret_str (by rw [hres.out]; exact mkS_append [36] _), Below.refl _ _⟩
  · rw [if_neg h1] at htx
    by_cases h2 : t.parts = []
    · rw [if_pos h2] at htx
      have h2n : (t.parts.length : Int) = 0 := by rw [h2]; rfl
      have hres := hd htx
      clear ih hSA hgA hqa htx hlA
      go_enter Tryd.func19, Tryd.ntmps19
      go_wp2_with fail
      go_ret
      exact ⟨ret_str (by rw [hres.out] <;> rfl), Below.refl _ _⟩
    · rw [if_neg h2] at htx
      have hpos : 0 < t.parts.length := by
        cases hp : t.parts with
        | nil => exact absurd hp h2
        | cons => simp
      have h2n : ((t.parts.length : Int) == 0) = false := by simp; omega
      have hres := hd htx
      have hjl : (Lib.join (t.parts.map txK) [44]).length ≤ 7 * countL t.parts := by
        cases hp : t.parts with
        | nil => exact absurd hp h2
        | cons k ks =>
          rw [hp] at hlens
          rw [List.map_cons] at hlens ⊢
          rw [Lib.join_length]
          simp only [List.length_cons, List.length_nil, List.length_map] at hlens ⊢
          omega
      obtain ⟨i0, hi, hz0, hz1, hz2⟩ := info_parts infoStrv
      have Hi := hd hi; have Hz0 := hd hz0; have Hz1 := hd hz1; have Hz2 := hd hz2
      have hby : i0.bytes * t.parts.length ≤ 281474976710656 := by rw [hz2]; omega
      have hls := hd (encT_len (t.parts.map txK))
      clear hi hz0 hz1 hz2 h2
      have X0 := hd x0
      have X1 := hd x1
      have X2 := hd x2
      replace htx := hd htx
      replace ih := hd ih
      replace hlA := hd hlA
      replace hgA := hd hgA
      replace hS := hd hS
      go_enter Tryd.func19, Tryd.ntmps19
      go_wp2_with (at_make; refine wpList_make_full _ rfl (.tmp 31) (.tmp 31) 71 rfl w.heap.size 9 i0 _ 1 Tryd.underlying71 Hi.out Hz0.out Hz1.out .i64 .i64 _ _ t.parts.length rfl rfl rfl rfl hby (by unfold maxLen; omega) (Nat.le_refl _) ?_; intro w1 ho hg; replace ho := hd ho; replace hg := hd hg; have x2 := keepCell (grownBy_below hg.out) X2.out)
      go_loopw [38] (fun i wr => ∃ (k : Nat) (xs : List Value), k ≤ t.parts.length ∧ i = .int .i64 k ∧ Hd (wr.ownsRow w.heap.size 9 1 (.slice (some ⟨w.heap.size, 0, none⟩) t.parts.length t.parts.length) t.parts.length xs) ∧ Hd (Pre 1 k ((t.parts.map txK).map encT) xs) ∧ Hd (Below w.heap.size w wr)) (fun i _ => t.parts.length - (intOf i).toNat)
      case atStart => exact ⟨0, _, Nat.zero_le _, rfl, ho.out, Pre.zero, grownBy_below hg.out⟩
      case round =>
        obtain ⟨k, xs, hk, rfl, ho2, hp, hbl⟩ := hrel
        obtain ⟨wo, rfl⟩ : ∃ wo : World, wo = wr := ⟨_, rfl⟩
        by_cases hlt : k < t.parts.length
        · have hltI : (k : Int) < (t.parts.length : Int) := by omega
          have hkA : k < vsA.length := by have := hlA.out; omega
          obtain ⟨b1, rfl, hb1, hc1⟩ := hSA.at (j := k) hkA
          have q1 := keepCell hbl.out (hc1 k hkA)
          have RA := RepY.same (SameS.below hbl.out hS.out) (fun _ h => h) _ _ (hgA.out k hlt hkA)
          have hxm := hqa.out _ (List.getElem_mem hlt)
          have ck := hd (ih.out t.parts[k] (List.getElem_mem hlt) _ wo S (fun q h => Nat.lt_of_lt_of_le (hS.out q h) hbl.out.size) hxm.1 hxm.2 RA)
          have hpp := hd (hp.out.step hls.out (show ((t.parts.map txK).map encT)[k]? = some (encT (txK t.parts[k])) by simp [hlt]) (by have : xs.length = t.parts.length * 1 := ho2.out.1; omega))
          rw [Nat.mul_one] at hpp
          have hxl : k < xs.length := by have : xs.length = t.parts.length * 1 := ho2.out.1; omega
          clear hc1 RA hxm
          generalize txK t.parts[k] = tk at *
          go_wp2_with fail
          refine ck.out.mono ?_
          rintro e w6 ⟨rfl, hb6⟩
          have ho6 := hd (ownsRow_below ho2.out hb6)
          have hbl6 := hd (hbl.out.next hb6)
          have q0 : w6.cell? ⟨w.heap.size, k, none⟩ = some xs[k] := by rw [ho6.out.cellAt _ (by omega)]; exact List.getElem?_eq_getElem hxl
          have r0 : w6.frozen? ⟨w.heap.size, k, none⟩ = false := ho6.out.frozenAt _
          have hst := ownsRow_setCells (encT tk) _ _ (k * 1) ho6.out
          rw [Nat.mul_one] at hst
          have hst1 := hd hst.1
          have hst2 := hd hst.2
          clear hst hb6
          go_wp2_with fail
          go_roundw
          case rel => exact ⟨k + 1, _, by omega, by go_num, hst1.out, hpp, hbl6.out.grown hst2.out hbl6.out.size (by intro j hj; cases hj; exact Nat.le_refl _)⟩
          case measure => simp [intOf]; omega
        · obtain rfl : k = t.parts.length := by omega
          have hltI : ¬ (t.parts.length : Int) < (t.parts.length : Int) := by omega
          have hown : Own wo w.heap.size 9 1 (.slice (some ⟨w.heap.size, 0, none⟩) t.parts.length t.parts.length) ((t.parts.map txK).map encT) := ⟨hls.out, xs, by rw [List.length_map, List.length_map]; exact ho2.out, by rw [List.length_map, List.length_map]; exact hp.out⟩
          have cj := hd (fun w' (hw : Below wo.heap.size wo w') => join_t w.heap.size t.parts.length (t.parts.map txK) w' (fun j x hx => keepCell hw (by
            have := (hown.cell (i := j) (j := 0) (r := encT x) (u := .string (mkS x)) (by rw [List.getElem?_map, hx]; rfl) rfl).1
            rwa [Nat.mul_one, Nat.add_zero] at this)) (by have := (hown.lt w.heap.size rfl).2; have := hw.size; omega) (by rw [List.length_map]; omega) (by rw [List.length_map]; exact Nat.le_refl _) (by omega))
          rw [List.length_map] at cj
          have hms := mkS_size (Lib.join (t.parts.map txK) [44])
          have hz1 : nA.size + (⟨#[40]⟩ : ByteArray).size ≤ 10 := by show nA.size + 1 ≤ 10; omega
          have hz2 : (nA ++ ⟨#[40]⟩).size + (mkS (Lib.join (t.parts.map txK) [44])).size ≤ 100000000 := by rw [ByteArray.size_append, hms]; show nA.size + 1 + _ ≤ _; omega
          have hz3 : (nA ++ ⟨#[40]⟩ ++ mkS (Lib.join (t.parts.map txK) [44])).size + (⟨#[41]⟩ : ByteArray).size ≤ 100000000 := by rw [ByteArray.size_append, ByteArray.size_append, hms]; show nA.size + 1 + _ + 1 ≤ _; omega
          have y1 := cellB (keepCell hbl.out X1.out)
          clear x0 x1 x2 hown hSA ho2 hp hpos hjl hlens
          go_wp2_with fail
          refine wp_region_below hmx (by kernel_rfl) ?_
          repeat (go_big_quiet_step ((go_at_call 35; refine callsB (cj.out _ (BB.h _)))))
          refine wpQuiet_nil ?_
          intro _ hw'
          obtain ⟨⟨wq, hbq⟩, hw''⟩ := hw'
          subst hw''
          have hbl6 := hd (hbl.out.next hbq)
          go_wp2_with fail
          go_ret
          exact ⟨ret_str (by rw [hres.out] <;> rfl), hbl6.out⟩
end Go.Proofs.YtbjilpemckoioaaDoor

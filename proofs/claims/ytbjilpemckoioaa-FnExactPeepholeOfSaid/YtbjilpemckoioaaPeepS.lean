/- PeepholeOf of the reference: whether a jump leads to a place; what a cut leaves. -/
import Derived.Test.YtbjilpemckoioaaPeepM
import Derived.Test.YtbjilpemckoioaaReads
namespace Go.Proofs.Ytbjilpemckoioaa
open Go.RowKit
set_option linter.unusedVariables false
set_option maxRecDepth 100000
theorem DInstr.enc_one (l : List DInstr) : ∀ u ∈ (l.map DInstr.enc).flatten, u.oneCell' = true := by
  intro u hu
  obtain ⟨r, hr, hu⟩ := List.mem_flatten.1 hu
  obtain ⟨x, _, rfl⟩ := List.mem_map.1 hr
  simp only [DInstr.enc, List.mem_cons, List.not_mem_nil, or_false] at hu
  rcases hu with rfl | rfl | rfl | rfl | rfl | rfl <;> rfl
def ledTo (l : List DInstr) (a k : Nat) : Bool := (l.take k).any (fun x => x.code == 3 && x.to == (a : Int))
theorem ledTo_step {l : List DInstr} {a k : Nat} (h : k < l.length) : ledTo l a (k + 1) = (ledTo l a k || (l[k].code == 3 && l[k].to == (a : Int))) := by
  rw [ledTo, List.take_succ_eq_append_getElem h, List.any_append]; simp [ledTo]
theorem ledTo_end (l : List DInstr) (a : Nat) : ledTo l a l.length = ledB l a := by rw [ledTo, List.take_length, ledB]
theorem led_hit {l : List DInstr} {a k : Nat} (h : k < l.length) (hc : (l[k].code == 3 && l[k].to == (a : Int)) = true) : ledB l a = true := by
  rw [ledB, List.any_eq_true]; exact ⟨l[k], List.getElem_mem h, hc⟩
set_option maxHeartbeats 1600000 in
theorem led8_s (l : List DInstr) (a : Nat) (v : Value) (w : World) (hl : l.length ≤ 1000000000) (h : Sl w v 6 (l.map DInstr.enc)) (r : Bool) (hr : ledB l a = r) :
    Calls Try.prog 120 #[v, .int .i64 a] w (BoolPost r w) := by
  replace hr := hd hr
  obtain ⟨a0, k0, rfl, hrr⟩ := h
  replace hrr := hd hrr
  simp only [List.length_map]
  go_enter Try.func120, Try.ntmps120
  go_wp2_with fail
  go_loopw [9] (fun i wr => ∃ k : Nat, k ≤ l.length ∧ i = .int .i64 k ∧ Hd (ledTo l a k = false) ∧ Hd (Below w.heap.size w wr)) (fun i _ => l.length - (intOf i).toNat)
  case atStart => exact ⟨0, Nat.zero_le _, rfl, (show ledTo l a 0 = false from rfl), Below.refl _ _⟩
  case round =>
    obtain ⟨k, hk, rfl, hno, hbl⟩ := hrel
    obtain ⟨wo, rfl⟩ : ∃ wo : World, wo = wr := ⟨_, rfl⟩
    by_cases hlt : k < l.length
    · have hltI : (k : Int) < (l.length : Int) := by omega
      obtain ⟨b1, o1, rfl, C1⟩ := rows_at hrr.out (k := k) (by rw [List.length_map]; omega)
      obtain ⟨f0, f1, f2, f3, f4, f5⟩ := Cells.rowInstr l k hlt (C1.mono hbl.out)
      have hst := hd (ledTo_step (a := a) hlt)
      have hhit := hd (fun hc => led_hit (a := a) hlt hc)
      generalize l[k] = x at *
      have hb4 := hd (hbl.out.next (below_a1 wo (a := .cells #[.int .i64 x.code, .int .i64 x.kind, .int .i64 x.no, .int .i64 x.num, .string x.text, .int .i64 x.to] 119)))
      have hx4 := hd (show BoxN (wo.alloc (.cells #[.int .i64 x.code, .int .i64 x.kind, .int .i64 x.no, .int .i64 x.num, .string x.text, .int .i64 x.to] 119)) wo.heap.size x.enc from BoxN.new wo x.enc _)
      go_upto_region 4 with (fail)
      have p0 := hx4.out.1 0 _ rfl
      have p5 := hx4.out.1 5 _ rfl
      generalize wo.alloc (.cells #[.int .i64 x.code, .int .i64 x.kind, .int .i64 x.no, .int .i64 x.num, .string x.text, .int .i64 x.to] 119) = w4 at *
      clear f0 f1 f2 f3 f4 f5 hx4
      by_cases h3 : x.code = 3
      · by_cases ht : x.to = (a : Int)
        · have hres := hd (show r = true by rw [← hr.out]; exact hhit.out (by simp [h3, ht]))
          have h3b : (x.code == 3) = true := by simpa using h3
          have htb : (x.to == (a : Int)) = true := by simpa using ht
          clear hst hhit h3 ht
          go_wp2_with fail
          go_ret
          exact ⟨by rw [hres.out]; rfl, hb4.out⟩
        · have hst2 := hd (show ledTo l a (k + 1) = false by rw [hst.out, hno.out]; simp [ht])
          have h3b : (x.code == 3) = true := by simpa using h3
          have htb : (x.to == (a : Int)) = false := by simpa using ht
          clear hst hhit h3 ht
          go_wp2_with fail
          go_roundw
          case rel => exact ⟨k + 1, by omega, by go_num, hst2, hb4⟩
          case measure => simp [intOf]; omega
      · have hst2 := hd (show ledTo l a (k + 1) = false by rw [hst.out, hno.out]; simp [h3])
        have h3b : (x.code == 3) = false := by simpa using h3
        clear hst hhit h3
        go_wp2_with fail
        go_roundw
        case rel => exact ⟨k + 1, by omega, by go_num, hst2, hb4⟩
        case measure => simp [intOf]; omega
    · have hltI : ¬ (k : Int) < (l.length : Int) := by omega
      obtain rfl : k = l.length := by omega
      have hres := hd (show r = false by rw [← hr.out, ← ledTo_end]; exact hno.out)
      go_wp2_with fail
      go_ret
      exact ⟨by rw [hres.out]; rfl, hbl.out⟩
theorem cut_in {l : List DInstr} {a m k : Nat} (hk : k < l.length) (h1 : a ≤ k) (h2 : k < a + m) : cutL (l.take (k + 1)) a m = cutL (l.take k) a m := by
  rw [List.take_succ_eq_append_getElem hk, cutL, cutL]
  have hlt : (l.take k).length = k := by rw [List.length_take]; omega
  rw [List.take_append_of_le_length (by rw [hlt]; omega), List.drop_eq_nil_of_le (by rw [List.length_append, hlt]; simp; omega), List.drop_eq_nil_of_le (by rw [hlt]; omega)]
theorem cut_out {l : List DInstr} {a m k : Nat} (hk : k < l.length) (h : ¬ (a ≤ k ∧ k < a + m)) : cutL (l.take (k + 1)) a m = cutL (l.take k) a m ++ [moveI a m l[k]] := by
  rw [List.take_succ_eq_append_getElem hk, cutL, cutL]
  have hlt : (l.take k).length = k := by rw [List.length_take]; omega
  generalize l[k] = x
  generalize l.take k = T at *
  by_cases h1 : k < a
  · rw [List.take_of_length_le (by rw [List.length_append, hlt]; simp; omega), List.take_of_length_le (by rw [hlt]; omega), List.drop_eq_nil_of_le (by rw [List.length_append, hlt]; simp; omega), List.drop_eq_nil_of_le (by rw [hlt]; omega)]
    simp
  · rw [List.take_append_of_le_length (by rw [hlt]; omega), List.drop_append_of_le_length (by rw [hlt]; omega), ← List.append_assoc, List.map_append]
    simp
theorem cutL_le (l : List DInstr) (a m : Nat) : (cutL l a m).length ≤ l.length := by
  rw [cutL, List.length_map, List.length_append, List.length_take, List.length_drop]; omega
theorem BoxN.setP {w : World} {b i : Nat} {cs : List Value} (h : BoxN w b cs) (hi : i < cs.length) (u : Value) : BoxN (w.setCell ⟨b, i, none⟩ u) b (cs.set i u) := by
  refine ⟨fun j x hx => ?_, fun j => by rw [World.frozen?_setCell]; exact h.2.1 j, Nat.lt_of_lt_of_le h.2.2 (grownBy_setCell w ⟨b, i, none⟩ u).size⟩
  by_cases e : j = i
  · subst e
    rw [List.getElem?_set_self hi] at hx
    cases hx
    exact World.cell?_setCell_same _ _ _ (h.1 j _ (List.getElem?_eq_getElem hi))
  · rw [List.getElem?_set_ne (Ne.symm e)] at hx
    rw [World.cell?_setCell_other _ _ _ _ (by intro e2; cases e2; exact e rfl)]
    exact h.1 j x hx
set_option maxHeartbeats 3200000 in
theorem cut8_s (l : List DInstr) (a m : Nat) (v : Value) (w : World) (hl : l.length ≤ 1000) (ha : a ≤ 1000) (hm : m ≤ 1000) (hto : ∀ x ∈ l, 0 ≤ x.to ∧ x.to ≤ 1000) (hok : ∀ x ∈ l, x.code = 3 → ¬ ((a : Int) < x.to ∧ x.to < (a : Int) + m)) (h : Sl w v 6 (l.map DInstr.enc)) :
    Calls Try.prog 121 #[v, .int .i64 a, .int .i64 m] w (OwnVPost 119 6 ((cutL l a m).map DInstr.enc) w) := by
  obtain ⟨a0, k0, rfl, hrr⟩ := h
  replace hrr := hd hrr
  replace hok := hd hok
  replace hto := hd hto
  simp only [List.length_map]
  obtain ⟨i0, hi, hz0, hz1, hz2⟩ := info_parts infoInstr
  have Hi := hd hi; have Hz0 := hd hz0; have Hz1 := hd hz1; have Hz2 := hd hz2
  clear hi hz0 hz1 hz2
  have hwam : IntKind.i64.wrap ((a : Int) + (m : Int)) = (a : Int) + (m : Int) := IntWalk.i64_in _ (by omega)
  go_enter Try.func121, Try.ntmps121
  go_wp2_with fail
  go_loopw [7, 12] (fun o i wr => ∃ k : Nat, k ≤ l.length ∧ i = .int .i64 k ∧ Hd (Own wr w.heap.size 119 6 o ((cutL (l.take k) a m).map DInstr.enc)) ∧ Hd (Below w.heap.size w wr)) (fun _ i _ => l.length - (intOf i).toNat)
  case atStart => exact ⟨0, Nat.zero_le _, rfl, (show Own _ _ _ _ _ _ from by rw [show cutL (l.take 0) a m = [] by simp [cutL]]; exact Own.nil), Below.refl _ _⟩
  case round =>
    obtain ⟨k, hk, rfl, hown, hbl⟩ := hrel
    obtain ⟨wo, rfl⟩ : ∃ wo : World, wo = wr := ⟨_, rfl⟩
    by_cases hlt : k < l.length
    · have hltI : (k : Int) < (l.length : Int) := by omega
      obtain ⟨b1, o1, rfl, C1⟩ := rows_at hrr.out (k := k) (by rw [List.length_map]; omega)
      obtain ⟨f0, f1, f2, f3, f4, f5⟩ := Cells.rowInstr l k hlt (C1.mono hbl.out)
      have hin := hd (fun h1 h2 => cut_in (a := a) (m := m) hlt h1 h2)
      have hout := hd (fun h1 => cut_out (a := a) (m := m) hlt h1)
      have hx0 := hto.out _ (List.getElem_mem hlt)
      have hxk := hok.out _ (List.getElem_mem hlt)
      have hpl := cutL_le (l.take k) a m
      rw [List.length_take] at hpl
      have hpl2 : (cutL (l.take k) a m).length ≤ 1000000 := by omega
      clear hpl
      generalize l[k] = x at *
      generalize cutL (l.take k) a m = Q at *
      have hb4 := hd (hbl.out.next (below_a1 wo (a := .cells #[.int .i64 x.code, .int .i64 x.kind, .int .i64 x.no, .int .i64 x.num, .string x.text, .int .i64 x.to] 119)))
      have ho4 := hd (hown.out.below (below_a1 wo (a := .cells #[.int .i64 x.code, .int .i64 x.kind, .int .i64 x.no, .int .i64 x.num, .string x.text, .int .i64 x.to] 119)))
      have hx4 := hd (show BoxN (wo.alloc (.cells #[.int .i64 x.code, .int .i64 x.kind, .int .i64 x.no, .int .i64 x.num, .string x.text, .int .i64 x.to] 119)) wo.heap.size [.int .i64 x.code, .int .i64 x.kind, .int .i64 x.no, .int .i64 x.num, .string x.text, .int .i64 x.to] from BoxN.new wo _ _)
      have hlo := hd (hown.out.no (b := wo.heap.size) (.inr (Nat.le_refl _)))
      have hwz : w.heap.size ≤ wo.heap.size := hbl.out.size
      go_upto_region 5 with (fail)
      generalize wo.alloc (.cells #[.int .i64 x.code, .int .i64 x.kind, .int .i64 x.no, .int .i64 x.num, .string x.text, .int .i64 x.to] 119) = w4 at *
      have hsz4 := hb4.out.size
      clear f0 f1 f2 f3 f4 f5
      have p0 := hx4.out.1 0 _ rfl; have rp0 := hx4.out.2.1 0; have p1 := hx4.out.1 1 _ rfl; have rp1 := hx4.out.2.1 1; have p2 := hx4.out.1 2 _ rfl; have rp2 := hx4.out.2.1 2; have p3 := hx4.out.1 3 _ rfl; have rp3 := hx4.out.2.1 3; have p4 := hx4.out.1 4 _ rfl; have rp4 := hx4.out.2.1 4; have p5 := hx4.out.1 5 _ rfl; have rp5 := hx4.out.2.1 5
      by_cases hka : a ≤ k ∧ k < a + m
      · have hkI : (a : Int) ≤ (k : Int) := by omega
        have hkJ : (k : Int) < (a : Int) + (m : Int) := by omega
        have hst := hd (hin.out hka.1 hka.2)
        clear hin hout hxk p0 p1 p2 p3 p4 p5 rp0 rp1 rp2 rp3 rp4 rp5
        go_wp2_with fail
        go_roundw
        case rel => exact ⟨k + 1, by omega, by go_num, by rw [hst.out]; exact ho4.out, hb4⟩
        case measure => simp [intOf]; omega
      · have hst := hd (hout.out hka)
        clear hin hout
        have hkI : ¬ ((a : Int) ≤ (k : Int) ∧ (k : Int) < (a : Int) + (m : Int)) := by omega
        by_cases hj : x.code = 3 ∧ (a : Int) < x.to
        · obtain ⟨h3, hta⟩ := hj
          have hge := hxk h3
          have hws : IntKind.i64.wrap (x.to - (m : Int)) = x.to - (m : Int) := IntWalk.i64_in _ (by omega)
          have hnl : ¬ (x.to - (m : Int) < (a : Int)) := by omega
          have hmv := hd (show moveI a m x = ⟨x.code, x.kind, x.no, x.num, x.text, x.to - m⟩ by rw [moveI, if_pos ⟨h3, hta⟩])
          have hx5 := hd ((show BoxN w4 wo.heap.size [.int .i64 x.code, .int .i64 x.kind, .int .i64 x.no, .int .i64 x.num, .string x.text, .int .i64 x.to] from hx4.out).setP (i := 5) (by simp) (.int .i64 (x.to - (m : Int))))
          have hb5 := hd (show Below w.heap.size w (w4.setCell ⟨wo.heap.size, 5, none⟩ (.int .i64 (x.to - (m : Int)))) from hb4.out.setCell (by show _ ≤ wo.heap.size; exact hwz) _)
          have ho5 := hd (ho4.out.kept (grownBy_setCell w4 ⟨wo.heap.size, 5, none⟩ (.int .i64 (x.to - (m : Int)))) (.inr hlo.out))
          have h3b : (x.code == 3) = true := by simpa using h3
          replace h3 := hd h3
          clear hxk
          by_cases hka2 : (a : Int) ≤ (k : Int)
          · have hkJ : ¬ (k : Int) < (a : Int) + (m : Int) := by omega
            go_upto_region 8 with (fail)
            generalize w4.setCell ⟨wo.heap.size, 5, none⟩ (.int .i64 (x.to - (m : Int))) = w5 at *
            have hsz5 := hb5.out.size
            clear hx4 ho4 hb4 p0 p1 p2 p3 p4 p5 rp0 rp1 rp2 rp3 rp4 rp5
            simp only [List.set_cons_succ, List.set_cons_zero] at hx5
            have p0 := hx5.out.1 0 _ rfl; have rp0 := hx5.out.2.1 0; have p1 := hx5.out.1 1 _ rfl; have rp1 := hx5.out.2.1 1; have p2 := hx5.out.1 2 _ rfl; have rp2 := hx5.out.2.1 2; have p3 := hx5.out.1 3 _ rfl; have rp3 := hx5.out.2.1 3; have p4 := hx5.out.1 4 _ rfl; have rp4 := hx5.out.2.1 4; have p5 := hx5.out.1 5 _ rfl; have rp5 := hx5.out.2.1 5
            rw [hmv.out] at hst
            clear hmv
            go_wp2_with (at_builtin; refine wpList_appOwn rfl (.tmp 47) (.tmp 49) 50 rfl w.heap.size 119 i0 _ 6 56 Try.underlying50 Hi.out Hz0.out Hz1.out Hz2.out rfl (by decide) _ ((Q).map DInstr.enc) [DInstr.enc (⟨x.code, x.kind, x.no, x.num, x.text, x.to - m⟩ : DInstr)] rfl (ho5.out.below (below_a1 _)) _ 1 1 rfl rfl (one_row rfl) (cells_new _ _ _) (DInstr.enc_one [(⟨x.code, x.kind, x.no, x.num, x.text, x.to - m⟩ : DInstr)]) (by simp only [List.length_map]; omega) (by decide) (by first | omega | exact Nat.le_refl _ | (simp; done) | (simp; omega)) ?_; intro v6 w6 ho6 hga hva; have hb6 := hd ((hb5.out.next (below_a1 _)).grown hga (by first | omega | exact Nat.le_refl _ | (simp; done) | (simp; omega)) (fun g hg => (ho5.out.lt g hg).1)); replace ho6 := hd (own_snoc ho6); clear hga hva)
            go_roundw
            case rel => exact ⟨k + 1, by omega, by go_num, by rw [hst.out]; exact ho6.out, hb6⟩
            case measure => simp [intOf]; omega
          · go_upto_region 8 with (fail)
            generalize w4.setCell ⟨wo.heap.size, 5, none⟩ (.int .i64 (x.to - (m : Int))) = w5 at *
            have hsz5 := hb5.out.size
            clear hx4 ho4 hb4 p0 p1 p2 p3 p4 p5 rp0 rp1 rp2 rp3 rp4 rp5
            simp only [List.set_cons_succ, List.set_cons_zero] at hx5
            have p0 := hx5.out.1 0 _ rfl; have rp0 := hx5.out.2.1 0; have p1 := hx5.out.1 1 _ rfl; have rp1 := hx5.out.2.1 1; have p2 := hx5.out.1 2 _ rfl; have rp2 := hx5.out.2.1 2; have p3 := hx5.out.1 3 _ rfl; have rp3 := hx5.out.2.1 3; have p4 := hx5.out.1 4 _ rfl; have rp4 := hx5.out.2.1 4; have p5 := hx5.out.1 5 _ rfl; have rp5 := hx5.out.2.1 5
            rw [hmv.out] at hst
            clear hmv
            go_wp2_with (at_builtin; refine wpList_appOwn rfl (.tmp 47) (.tmp 49) 50 rfl w.heap.size 119 i0 _ 6 56 Try.underlying50 Hi.out Hz0.out Hz1.out Hz2.out rfl (by decide) _ ((Q).map DInstr.enc) [DInstr.enc (⟨x.code, x.kind, x.no, x.num, x.text, x.to - m⟩ : DInstr)] rfl (ho5.out.below (below_a1 _)) _ 1 1 rfl rfl (one_row rfl) (cells_new _ _ _) (DInstr.enc_one [(⟨x.code, x.kind, x.no, x.num, x.text, x.to - m⟩ : DInstr)]) (by simp only [List.length_map]; omega) (by decide) (by first | omega | exact Nat.le_refl _ | (simp; done) | (simp; omega)) ?_; intro v6 w6 ho6 hga hva; have hb6 := hd ((hb5.out.next (below_a1 _)).grown hga (by first | omega | exact Nat.le_refl _ | (simp; done) | (simp; omega)) (fun g hg => (ho5.out.lt g hg).1)); replace ho6 := hd (own_snoc ho6); clear hga hva)
            go_roundw
            case rel => exact ⟨k + 1, by omega, by go_num, by rw [hst.out]; exact ho6.out, hb6⟩
            case measure => simp [intOf]; omega
        · have hmv := hd (show moveI a m x = x by rw [moveI, if_neg hj])
          rw [hmv.out] at hst
          clear hmv hxk
          by_cases h3 : x.code = 3
          · have hta : ¬ ((a : Int) < x.to) := fun e => hj ⟨h3, e⟩
            have h3b : (x.code == 3) = true := by simpa using h3
            clear hj
            replace h3 := hd h3
            by_cases hka2 : (a : Int) ≤ (k : Int)
            · have hkJ : ¬ (k : Int) < (a : Int) + (m : Int) := by omega
              clear hx4
              go_wp2_with (at_builtin; refine wpList_appOwn rfl (.tmp 47) (.tmp 49) 50 rfl w.heap.size 119 i0 _ 6 56 Try.underlying50 Hi.out Hz0.out Hz1.out Hz2.out rfl (by decide) _ ((Q).map DInstr.enc) [DInstr.enc x] rfl (ho4.out.below (below_a1 _)) _ 1 1 rfl rfl (one_row rfl) (cells_new _ _ _) (DInstr.enc_one [x]) (by simp only [List.length_map]; omega) (by decide) (by first | omega | exact Nat.le_refl _ | (simp; done) | (simp; omega)) ?_; intro v6 w6 ho6 hga hva; have hb6 := hd ((hb4.out.next (below_a1 _)).grown hga (by first | omega | exact Nat.le_refl _ | (simp; done) | (simp; omega)) (fun g hg => (ho4.out.lt g hg).1)); replace ho6 := hd (own_snoc ho6); clear hga hva)
              go_roundw
              case rel => exact ⟨k + 1, by omega, by go_num, by rw [hst.out]; exact ho6.out, hb6⟩
              case measure => simp [intOf]; omega
            · clear hx4
              go_wp2_with (at_builtin; refine wpList_appOwn rfl (.tmp 47) (.tmp 49) 50 rfl w.heap.size 119 i0 _ 6 56 Try.underlying50 Hi.out Hz0.out Hz1.out Hz2.out rfl (by decide) _ ((Q).map DInstr.enc) [DInstr.enc x] rfl (ho4.out.below (below_a1 _)) _ 1 1 rfl rfl (one_row rfl) (cells_new _ _ _) (DInstr.enc_one [x]) (by simp only [List.length_map]; omega) (by decide) (by first | omega | exact Nat.le_refl _ | (simp; done) | (simp; omega)) ?_; intro v6 w6 ho6 hga hva; have hb6 := hd ((hb4.out.next (below_a1 _)).grown hga (by first | omega | exact Nat.le_refl _ | (simp; done) | (simp; omega)) (fun g hg => (ho4.out.lt g hg).1)); replace ho6 := hd (own_snoc ho6); clear hga hva)
              go_roundw
              case rel => exact ⟨k + 1, by omega, by go_num, by rw [hst.out]; exact ho6.out, hb6⟩
              case measure => simp [intOf]; omega
          · have h3b : (x.code == 3) = false := by simpa using h3
            clear hj h3
            by_cases hka2 : (a : Int) ≤ (k : Int)
            · have hkJ : ¬ (k : Int) < (a : Int) + (m : Int) := by omega
              clear hx4
              go_wp2_with (at_builtin; refine wpList_appOwn rfl (.tmp 47) (.tmp 49) 50 rfl w.heap.size 119 i0 _ 6 56 Try.underlying50 Hi.out Hz0.out Hz1.out Hz2.out rfl (by decide) _ ((Q).map DInstr.enc) [DInstr.enc x] rfl (ho4.out.below (below_a1 _)) _ 1 1 rfl rfl (one_row rfl) (cells_new _ _ _) (DInstr.enc_one [x]) (by simp only [List.length_map]; omega) (by decide) (by first | omega | exact Nat.le_refl _ | (simp; done) | (simp; omega)) ?_; intro v6 w6 ho6 hga hva; have hb6 := hd ((hb4.out.next (below_a1 _)).grown hga (by first | omega | exact Nat.le_refl _ | (simp; done) | (simp; omega)) (fun g hg => (ho4.out.lt g hg).1)); replace ho6 := hd (own_snoc ho6); clear hga hva)
              go_roundw
              case rel => exact ⟨k + 1, by omega, by go_num, by rw [hst.out]; exact ho6.out, hb6⟩
              case measure => simp [intOf]; omega
            · clear hx4
              go_wp2_with (at_builtin; refine wpList_appOwn rfl (.tmp 47) (.tmp 49) 50 rfl w.heap.size 119 i0 _ 6 56 Try.underlying50 Hi.out Hz0.out Hz1.out Hz2.out rfl (by decide) _ ((Q).map DInstr.enc) [DInstr.enc x] rfl (ho4.out.below (below_a1 _)) _ 1 1 rfl rfl (one_row rfl) (cells_new _ _ _) (DInstr.enc_one [x]) (by simp only [List.length_map]; omega) (by decide) (by first | omega | exact Nat.le_refl _ | (simp; done) | (simp; omega)) ?_; intro v6 w6 ho6 hga hva; have hb6 := hd ((hb4.out.next (below_a1 _)).grown hga (by first | omega | exact Nat.le_refl _ | (simp; done) | (simp; omega)) (fun g hg => (ho4.out.lt g hg).1)); replace ho6 := hd (own_snoc ho6); clear hga hva)
              go_roundw
              case rel => exact ⟨k + 1, by omega, by go_num, by rw [hst.out]; exact ho6.out, hb6⟩
              case measure => simp [intOf]; omega
    · have hltI : ¬ (k : Int) < (l.length : Int) := by omega
      obtain rfl : k = l.length := by omega
      rw [List.take_length] at hown
      go_wp2_with fail
      go_ret
      exact ⟨_, rfl, hown.out, hbl.out⟩
end Go.Proofs.Ytbjilpemckoioaa

/- without of the program. -/
import Derived.Test.YtbjilpemckoioaaDel
namespace Go.Proofs.Ytbjilpemckoioaa
open Go.RowKit
set_option linter.unusedVariables false
set_option maxRecDepth 100000
set_option maxHeartbeats 800000 in
theorem clone_instr (l : List DInstr) (v : Value) (w : World) (hl : l.length ≤ 1000000000) (h : Sl w v 6 (l.map DInstr.enc)) :
    Calls Try.prog 72 #[v] w (OwnVPost 119 6 (l.map DInstr.enc) w) := by
  obtain ⟨i0, hi, hz0, hz1, hz2⟩ := info_parts infoInstr
  have Hi := hd hi; have Hz0 := hd hz0; have Hz1 := hd hz1; have Hz2 := hd hz2
  have hls := hd (DInstr.enc_len l)
  have hone := hd (DInstr.enc_one l)
  clear hi hz0 hz1 hz2
  have kn := fun (w : World) (a : Option Addr) (n c : Nat) => Lib.run_eql_slice_nil (P := Try.prog) w 50 119 a n c 0 0 Try.underlying50
  rcases h.open with ⟨a1, c1, rfl, hr⟩ | ⟨b1, o1, c1, rfl, hr, C1⟩
  · obtain rfl : l = [] := by simpa using hr
    cases a1 with
    | none =>
      go_enter Try.func72, Try.ntmps72
      go_wp2_with fail
      go_ret
      exact ⟨_, rfl, Own.nil, Below.refl _ _⟩
    | some a1 =>
      go_enter Try.func72, Try.ntmps72
      go_wp2_with (at_builtin; refine wpList_appOwn rfl (.tmp 5) (.tmp 6) 50 rfl w.heap.size 119 i0 _ 6 56 Try.underlying50 Hi.out Hz0.out Hz1.out Hz2.out rfl (by decide) _ [] [] rfl (own_made w 119 6) a1 0 c1 rfl rfl (by simp) (by simp) (by simp) (by simp) (by decide) (by simp) ?_; intro v2 w2 ho hg hb; replace ho := hd ho; replace hg := hd hg; clear hb)
      go_ret
      exact ⟨_, rfl, ho.out, below_made hg.out (by intro g hg; cases hg; exact Nat.le_refl _)⟩
  · have hC := hd ((C1.mono (below_a1 w (a := .cells #[] 119))).flat hls.out)
    clear h
    simp only [List.length_map]
    go_enter Try.func72, Try.ntmps72
    go_wp2_with (at_builtin; refine wpList_appOwn rfl (.tmp 5) (.tmp 6) 50 rfl w.heap.size 119 i0 _ 6 56 Try.underlying50 Hi.out Hz0.out Hz1.out Hz2.out rfl (by decide) _ [] (l.map DInstr.enc) rfl (own_made w 119 6) ⟨b1, o1, none⟩ l.length c1 (by rw [List.length_map]) rfl hls.out hC.out hone.out (by simp; omega) (by decide) (by simp) ?_; intro v2 w2 ho hg hb; replace ho := hd ho; replace hg := hd hg; clear hb)
    go_ret
    exact ⟨_, rfl, ho.out, below_made hg.out (by intro g hg; cases hg; exact Nat.le_refl _)⟩
def movL (a m k : Nat) (R : List DInstr) : List DInstr := (R.take k).map (moveI a m) ++ R.drop k
theorem movL_zero (a m : Nat) (R : List DInstr) : movL a m 0 R = R := by simp [movL]
theorem movL_end (a m : Nat) (R : List DInstr) : movL a m R.length R = R.map (moveI a m) := by simp [movL]
theorem movL_len {a m k : Nat} {R : List DInstr} (hk : k ≤ R.length) : (movL a m k R).length = R.length := by
  simp [movL]; omega
theorem movL_at {a m k : Nat} {R : List DInstr} (hk : k < R.length) : (movL a m k R)[k]? = some R[k] := by
  rw [movL, List.getElem?_append_right (by simp; omega)]
  simp [Nat.min_eq_left (Nat.le_of_lt hk), hk]
theorem movL_succ {a m k : Nat} {R : List DInstr} (hk : k < R.length) : movL a m (k + 1) R = (movL a m k R).set k (moveI a m R[k]) := by
  apply List.ext_getElem?
  intro t
  have hl : (movL a m k R).length = R.length := movL_len (Nat.le_of_lt hk)
  by_cases htk : t = k
  · subst htk
    rw [List.getElem?_set_self (by omega), movL, List.getElem?_append_left (by simp; omega)]
    simp [hk]
  · rw [List.getElem?_set_ne (Ne.symm htk), movL, movL]
    by_cases h1 : t < k
    · rw [List.getElem?_append_left (by simp; omega), List.getElem?_append_left (by simp; omega)]
      simp [h1, show t < k + 1 by omega]
    · rw [List.getElem?_append_right (by simp; omega), List.getElem?_append_right (by simp; omega)]
      simp only [List.length_map, List.length_take, List.getElem?_drop]
      congr 1; omega
theorem set_same {l : List DInstr} {k : Nat} {x : DInstr} (h : l[k]? = some x) : l.set k x = l := by
  apply List.ext_getElem?
  intro t
  by_cases e : t = k
  · subst e
    rw [List.getElem?_set_self (List.getElem?_eq_some_iff.1 h).1, h]
  · rw [List.getElem?_set_ne (Ne.symm e)]
set_option maxHeartbeats 4000000 in
theorem without_i (l : List DInstr) (a m : Nat) (v : Value) (w : World) (hl : l.length ≤ 1000) (ham : a + m < l.length) (hm : 1 ≤ m) (hto : ∀ x ∈ l, 0 ≤ x.to ∧ x.to ≤ 1000) (h : Sl w v 6 (l.map DInstr.enc)) :
    Calls Try.prog 127 #[v, .int .i64 a, .int .i64 m] w (OwnVPost 119 6 ((cutL l a m).map DInstr.enc) w) := by
  obtain ⟨R, hR⟩ : ∃ R, l.take a ++ l.drop (a + m) = R := ⟨_, rfl⟩
  have hcl := hd (clone_instr l v w (by omega) h)
  have hwam : IntKind.i64.wrap ((a : Int) + (m : Int)) = (a : Int) + (m : Int) := IntWalk.i64_in _ (by omega)
  have hRl : R.length ≤ 1000 := by rw [← hR, List.length_append, List.length_take, List.length_drop]; omega
  have hR0 : 0 < R.length := by rw [← hR, List.length_append, List.length_take, List.length_drop]; omega
  have hRto := hd (show ∀ x ∈ R, 0 ≤ x.to ∧ x.to ≤ 1000 from fun x hx => by
    rw [← hR] at hx
    rcases List.mem_append.1 hx with hx | hx
    · exact hto x (List.mem_of_mem_take hx)
    · exact hto x (List.mem_of_mem_drop hx))
  have hres := hd (show cutL l a m = R.map (moveI a m) by rw [← hR]; rfl)
  replace hR := hd hR
  clear hto h
  go_enter Try.func127, Try.ntmps127
  go_wp2_with fail
  refine hcl.out.mono ?_
  rintro e w2 ⟨v2, rfl, ho2, hb2⟩
  obtain ⟨g, c, rfl, hg1, hg2⟩ := ho2.addr (by intro e; have := congrArg List.length e; simp at this; rw [this] at ham; simp at ham)
  have hdel := hd (delete_i l a m g c w2 w.heap.size (by rw [List.length_map] at ho2; exact ho2) ham hm hl R hR.out)
  replace hb2 := hd hb2
  clear hcl ho2
  rw [List.length_map]
  go_wp2_with fail
  refine hdel.out.mono ?_
  rintro e w3 ⟨v3, rfl, ho3, hg3⟩
  obtain ⟨g3, c3, rfl, hg31, hg32⟩ := ho3.addr (by intro e; have := congrArg List.length e; simp at this; rw [this] at hR0; simp at hR0)
  have hB3 := hd (hb2.out.grown hg3 hb2.out.size (fun q hq => by cases hq; exact hg1))
  rw [List.length_map] at ho3 ⊢
  replace ho3 := hd ho3
  clear hg3 hb2 hdel
  go_wp2_with fail
  go_loopw [18] (fun n wr => ∃ k : Nat, k ≤ R.length ∧ n = .int .i64 k ∧ Hd (Own wr w.heap.size 119 6 (.slice (some ⟨g3, 0, none⟩) R.length c3) ((movL a m k R).map DInstr.enc)) ∧ Hd (Below w.heap.size w wr)) (fun n _ => R.length - (intOf n).toNat)
  case atStart => exact ⟨0, Nat.zero_le _, rfl, by rw [movL_zero]; exact ho3.out, hB3.out⟩
  case round =>
    obtain ⟨k, hk, rfl, hown, hbl⟩ := hrel
    obtain ⟨wo, rfl⟩ : ∃ wo : World, wo = wr := ⟨_, rfl⟩
    by_cases hlt : k < R.length
    · have hltI : (k : Int) < (R.length : Int) := by omega
      have hrow : ((movL a m k R).map DInstr.enc)[k]? = some R[k].enc := by rw [List.getElem?_map, movL_at hlt]; rfl
      have c0 := (hown.out.cell (j := 0) hrow rfl).1
      have c5 := (hown.out.cell (j := 5) hrow rfl).1
      have r5 := (hown.out.cell (j := 5) hrow rfl).2
      have hst := hd (hown.out.store (j := 5) hrow (by decide))
      have hsu := hd (movL_succ (a := a) (m := m) hlt)
      have hself := hd (show (movL a m k R).set k R[k] = movL a m k R from set_same (movL_at hlt))
      have hxt := hRto.out _ (List.getElem_mem hlt)
      rw [Nat.add_zero] at c0
      generalize R[k] = x at *
      clear hrow
      by_cases h3 : x.code = 3
      · have h3b : (x.code == 3) = true := by simpa using h3
        by_cases hta : (a : Int) < x.to
        · have hmv := hd (show moveI a m x = ⟨x.code, x.kind, x.no, x.num, x.text, x.to - m⟩ by rw [moveI, if_pos ⟨h3, hta⟩])
          have hws : IntKind.i64.wrap (x.to - (m : Int)) = x.to - (m : Int) := IntWalk.i64_in _ (by omega)
          have hs5 := hd (hst.out (.int .i64 (x.to - (m : Int))))
          have hfin := hd (show Own (wo.setCell ⟨g3, k * 6 + 5, none⟩ (.int .i64 (x.to - (m : Int)))) w.heap.size 119 6 (.slice (some ⟨g3, 0, none⟩) R.length c3) ((movL a m (k + 1) R).map DInstr.enc) by
            rw [hsu.out, List.map_set, hmv.out]; exact hs5.out.1)
          have hbf := hd (hbl.out.grown hs5.out.2 hbl.out.size (fun q hq => by cases hq; exact hg31))
          clear hst h3 hmv hs5
          go_wp2_with fail
          go_roundw
          case rel => exact ⟨k + 1, by omega, by go_num, hfin, hbf⟩
          case measure => simp [intOf]; omega
        · have hmv := hd (show (movL a m (k + 1) R) = movL a m k R by
            rw [hsu.out, moveI, if_neg (fun e => hta e.2)]; exact hself.out)
          clear hst h3 hsu
          go_wp2_with fail
          go_roundw
          case rel => exact ⟨k + 1, by omega, by go_num, by rw [hmv.out]; exact hown, hbl⟩
          case measure => simp [intOf]; omega
      · have h3b : (x.code == 3) = false := by simpa using h3
        have hmv := hd (show (movL a m (k + 1) R) = movL a m k R by
          rw [hsu.out, moveI, if_neg (fun e => h3 e.1)]; exact hself.out)
        clear hst h3 hsu
        go_wp2_with fail
        go_roundw
        case rel => exact ⟨k + 1, by omega, by go_num, by rw [hmv.out]; exact hown, hbl⟩
        case measure => simp [intOf]; omega
    · have hltI : ¬ (k : Int) < (R.length : Int) := by omega
      obtain rfl : k = R.length := by omega
      rw [movL_end, ← hres.out] at hown
      go_wp2_with fail
      go_ret
      exact ⟨_, rfl, hown.out, hbl.out⟩
end Go.Proofs.Ytbjilpemckoioaa

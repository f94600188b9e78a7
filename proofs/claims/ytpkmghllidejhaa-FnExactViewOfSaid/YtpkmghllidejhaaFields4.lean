/- FieldsBytes of the reference. -/
import Derived.Test.YtpkmghllidejhaaFields3
namespace Go.Proofs.Ytpkmghllidejhaa
open Go.RowKit
set_option linter.unusedVariables false
set_option maxRecDepth 100000
def StrPost (s : List UInt8) (w : World) (e : Ending) (w' : World) : Prop := e = .returned (.string (mkS s)) ∧ Below w.heap.size w w'

set_option maxHeartbeats 3200000 in
theorem fields_s (l : List DField) (v : Value) (w : World) (hn : l.length ≤ 40) (hok : ∀ x ∈ l, fieldB x = true) (hs : ∀ x ∈ l, x.data.size ≤ 1048576) (h : Sl w v 4 (l.map DField.enc)) :
    Calls Try.prog 75 #[v] w (StrPost (flat l) w) := by
  have hok := hd hok
  have hs := hd hs
  obtain ⟨a1, c1, rfl, hrr⟩ := h
  replace hrr := hd hrr
  simp only [List.length_map]
  go_enter Try.func75, Try.ntmps75
  go_wp2_with fail
  go_loopw [3, 8] (fun s i wr => ∃ k : Nat, k ≤ l.length ∧ i = .int .i64 k ∧ s = .string (mkS (flat (l.take k))) ∧ Hd ((flat (l.take k)).length ≤ k * 1100000) ∧ Hd (Below w.heap.size w wr)) (fun _ i _ => l.length - (intOf i).toNat)
  case atStart => exact ⟨0, Nat.zero_le _, rfl, rfl, Nat.zero_le _, Below.refl _ _⟩
  case round =>
    obtain ⟨k, hk, rfl, rfl, hln, hbl⟩ := hrel
    obtain ⟨wo, rfl⟩ : ∃ wo : World, wo = wr := ⟨_, rfl⟩
    by_cases hlt : k < l.length
    · have hltI : (k : Int) < (l.length : Int) := by omega
      obtain ⟨b1, o1, rfl, C1⟩ : ∃ b o, a1 = some ⟨b, o, none⟩ ∧ Cells w b o 4 (l.map DField.enc) := by
        rcases hrr.out with h | ⟨b, o, e, C⟩
        · exfalso; have : l = [] := by simpa using h
          subst this; simp at hlt
        · exact ⟨b, o, e, C⟩
      obtain ⟨f0, f1, f2, f3⟩ := Cells.rowField l k hlt (C1.mono hbl.out)
      have hfx := hok.out _ (List.getElem_mem hlt)
      have hsx := hs.out _ (List.getElem_mem hlt)
      have hsucc := hd (flat_succ hlt)
      have hln2 := hln.out
      have hln3 := hln2
      generalize hx : l[k] = x at *
      replace hx := hd hx
      have hfl := fb_len x hfx hsx
      have hlen' : (flat (l.take (k + 1))).length ≤ (k + 1) * 1100000 := by rw [hsucc.out, List.length_append]; omega
      replace hlen' := hd hlen'
      generalize flat (l.take k) = zs at *
      generalize hys : flat (l.take (k + 1)) = ys at *
      replace hys := hd hys
      replace hln2 := hd hln2
      have hzl : zs.length ≤ 44000000 := by omega
      clear hln3 hln
      obtain ⟨⟨hn1, hn2⟩, hkd⟩ := field_kinds hfx
      obtain ⟨m, hm⟩ := Int.eq_ofNat_of_zero_le (show 0 ≤ 8 * x.no + x.kind by rcases hkd with ⟨h, _⟩ | ⟨h, _⟩ <;> omega)
      have hmb : m ≤ 300 := by rcases hkd with ⟨h, _⟩ | ⟨h, _⟩ <;> omega
      have hvl := varB_len10 m (by omega)
      have hfb := hd (show fb x = varB m ++ (if x.kind = 0 then varB (fld x.num).toNat else varB x.data.size ++ x.data.data.toList) by rw [fb, hm]; rfl)
      have hbd : 8 * x.no + x.kind ≤ 300 ∧ 8 ≤ 8 * x.no + x.kind ∧ 0 ≤ x.kind ∧ x.kind ≤ 2 := by rcases hkd with ⟨h, _⟩ | ⟨h, _⟩ <;> omega
      have hm2 := hd hm
      clear hm hfx hk
      go_upto_region 5 with (fail)
      have hbl2 := hd (hbl.out.next (below_a1 wo (a := (.cells #[.int .i64 x.no, .int .i64 x.kind, .int .i64 x.num, .string x.data] 99))))
      have g0 : (World.alloc wo (.cells #[.int .i64 x.no, .int .i64 x.kind, .int .i64 x.num, .string x.data] 99)).cell? ⟨wo.heap.size, 0, none⟩ = some (.int .i64 x.no) := by go_simp
      have g1 : (World.alloc wo (.cells #[.int .i64 x.no, .int .i64 x.kind, .int .i64 x.num, .string x.data] 99)).cell? ⟨wo.heap.size, 1, none⟩ = some (.int .i64 x.kind) := by go_simp
      have g2 : (World.alloc wo (.cells #[.int .i64 x.no, .int .i64 x.kind, .int .i64 x.num, .string x.data] 99)).cell? ⟨wo.heap.size, 2, none⟩ = some (.int .i64 x.num) := by go_simp
      have g3 : (World.alloc wo (.cells #[.int .i64 x.no, .int .i64 x.kind, .int .i64 x.num, .string x.data] 99)).cell? ⟨wo.heap.size, 3, none⟩ = some (.string x.data) := by go_simp
      generalize World.alloc wo (.cells #[.int .i64 x.no, .int .i64 x.kind, .int .i64 x.num, .string x.data] 99) = W2 at hbl2 g0 g1 g2 g3 ⊢
      clear f0 f1 f2 f3
      have hs1 : (mkS zs).size + (mkS (varB m)).size ≤ 50000000 := by rw [mkS_size, mkS_size]; omega
      go_upto_region 6 with (go_at_call 135; rw [hm2.out]; refine (varint_s m _ (by omega)).mono ?_; rintro e w3 ⟨rfl, hb3⟩)
      rw [mkS_append]
      have k1 := keepCell hb3 g1
      have k2 := keepCell hb3 g2
      have k3 := keepCell hb3 g3
      have hbl3 := hd (hbl2.out.next hb3)
      have hlt3 : wo.heap.size < w3.heap.size := World.block_lt_of_cell? w3 _ k1
      clear hb3 g0 g1 g2 g3 hs1 hbl2
      rcases hkd with ⟨hk0, hk1, hk2, _⟩ | ⟨hk0, _⟩
      · have hf0 : 0 ≤ fld x.num ∧ fld x.num ≤ 2000000000 := by rw [fld]; split <;> omega
        obtain ⟨q, hq⟩ := Int.eq_ofNat_of_zero_le hf0.1
        have hql := varB_len10 q (by omega)
        have hfb3 := hd (show ys = (zs ++ varB m) ++ varB q by rw [hsucc.out, hfb.out, if_pos hk0, hq]; simp)
        have c1 := hd (fold_s x.num)
        rw [hq] at c1 hf0
        have hs2 : (mkS (zs ++ varB m)).size + (mkS (varB q)).size ≤ 50000000 := by rw [mkS_size, mkS_size, List.length_append]; omega
        rw [hk0] at k1
        clear hfb hq hk0 hbd k3 hsucc
        replace hk1 := hd hk1
        go_wp2_with (first | (go_at_call 136; refine (c1.out _ (by have := hk1.out; omega) (by omega)).mono ?_; rintro e w4 ⟨rfl, rfl⟩) | (go_at_call 135; refine (varint_s q _ (by omega)).mono ?_; rintro e w4 ⟨rfl, hb4⟩; replace hb4 := hd hb4))
        have hbl4 := hd (hbl3.out.next hb4.out)
        have hln5 : Hd ((flat (l.take (k + 1))).length ≤ (k + 1) * 1100000) := by rw [hys.out]; exact hlen'.out
        have hfin := hd (show Value.string (mkS (zs ++ varB m) ++ mkS (varB q)) = .string (mkS (flat (l.take (k + 1)))) by rw [hys.out, hfb3.out, mkS_append])
        clear hys hlen' hfb3
        go_roundw
        case rel => exact ⟨k + 1, by omega, by go_num, hfin.out, hln5, hbl4⟩
        case measure => simp [intOf]; omega
      · have hvl2 := varB_len10 x.data.size (by omega)
        have hfb3 := hd (show ys = (zs ++ varB m) ++ (varB x.data.size ++ x.data.data.toList) by rw [hsucc.out, hfb.out, if_neg (by omega)]; simp)
        have hs3 : (mkS (varB x.data.size)).size + x.data.size ≤ 50000000 := by rw [mkS_size]; omega
        have hs2 : (mkS (zs ++ varB m)).size + (mkS (varB x.data.size) ++ x.data).size ≤ 50000000 := by rw [ByteArray.size_append, mkS_size, mkS_size, List.length_append]; omega
        have hsz : x.data.size < 4611686018427387904 := by omega
        have hs3i : ¬ (9223372036854775807 : Int) < ((mkS (varB x.data.size)).size : Int) + (x.data.size : Int) := by omega
        have hs2i : ¬ (9223372036854775807 : Int) < ((mkS (zs ++ varB m)).size : Int) + ((mkS (varB x.data.size) ++ x.data).size : Int) := by omega
        have hs2j : ¬ (9223372036854775807 : Int) < ((mkS (zs ++ varB m)).size : Int) + (((mkS (varB x.data.size)).size : Int) + (x.data.size : Int)) := by rw [ByteArray.size_append] at hs2; omega
        have hs3k : IntKind.i64.max = 9223372036854775807 := rfl
        rw [hk0] at k1
        clear hfb hk0 hbd k2 hsucc
        go_upto_region 8 with (fail)
        have hln5 : Hd ((flat (l.take (k + 1))).length ≤ (k + 1) * 1100000) := by rw [hys.out]; exact hlen'.out
        have hfin := hd (show Value.string (mkS (zs ++ varB m) ++ (mkS (varB x.data.size) ++ x.data)) = .string (mkS (flat (l.take (k + 1)))) by
          rw [hys.out, hfb3.out]
          conv => lhs; rw [← mkS_toList x.data, mkS_append, mkS_append])
        clear hys hlen' hfb3
        go_region_with (go_at_call 135; refine (varint_s x.data.size _ hsz).mono ?_; rintro e w4 ⟨rfl, hb4⟩; have kk := keepCell hb4 (show World.cell? _ _ = _ from k3); have hbl4 := hd (hbl3.out.next (show Below w3.heap.size w3 w4 from ⟨hb4.os, hb4.tape, hb4.output, hb4.size, hb4.block⟩)); clear hb4)
        all_goals go_wp2
        all_goals
          go_roundw
          case rel => exact ⟨k + 1, by omega, by go_num, hfin.out, hln5, hbl4⟩
          case measure => simp [intOf]; omega
    · have hkl : k = l.length := by omega
      subst hkl
      rw [List.take_length]
      go_wp2_with fail
      go_ret
      exact ⟨rfl, hbl.out⟩
end Go.Proofs.Ytpkmghllidejhaa

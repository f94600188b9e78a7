/- The bytes of a field, of the program. -/
import Derived.Test.YtpkmghllidejhaaFields
import Derived.Lib.AppendStr
import Derived.Deep.RegionHeld3
import Derived.Deep.Cut
namespace Go.Proofs.Ytpkmghllidejhaa
open Go.RowKit
set_option linter.unusedVariables false
set_option maxRecDepth 100000

theorem loop_ne (s : ByteArray) : ∀ (i : Nat) (r : List UInt8), r ≠ [] → ByteArray.toList.loop s i r ≠ [] := by
  intro i r
  induction h : s.size - i using Nat.strongRecOn generalizing i r with
  | _ n ih =>
    intro hr
    unfold ByteArray.toList.loop
    split
    · exact ih _ (by omega) (i + 1) _ rfl (by simp)
    · simpa using hr
theorem emptyS_size {s : ByteArray} (h : emptyS s = true) : s.size = 0 := by
  by_cases h0 : s.size = 0
  · exact h0
  · exfalso
    rw [emptyS, ByteArray.toList] at h
    unfold ByteArray.toList.loop at h
    rw [if_pos (by omega)] at h
    have := loop_ne s (0 + 1) (s.get! 0 :: []) (by simp)
    rw [List.isEmpty_iff] at h
    exact this h
def fb (x : DField) : List UInt8 := varB (8 * x.no + x.kind).toNat ++ (if x.kind = 0 then varB (fld x.num).toNat else varB x.data.size ++ x.data.data.toList)
def OwnB (B : Nat) (w : World) (v : Value) (xs : List UInt8) : Prop := BytesAt w v xs ∧ ∀ k, v.ownBlock = some k → B ≤ k
theorem BytesAt.raise {B : Nat} {w : World} {v : Value} {xs : List UInt8} (h : BytesAt w v xs) (hb : ∀ k, v.ownBlock = some k → B ≤ k) : w.ownsRow B 5 1 v xs.length (xs.map byteV) := by
  refine ⟨h.1, ?_⟩
  rcases h.2 with ⟨rfl, e⟩ | ⟨g, cap, cur, rfl, hbg, r⟩
  · exact .inl ⟨rfl, e⟩
  · exact .inr ⟨g, cap, cur, rfl, hb g rfl, r⟩
theorem ownsRow_lower {B n : Nat} {E : TypeId} {w : World} {v : Value} {xs : List Value} (h : w.ownsRow B E 1 v n xs) : w.ownsRow 0 E 1 v n xs := by
  refine ⟨h.1, ?_⟩
  rcases h.2 with ⟨rfl, e⟩ | ⟨g, cap, cur, rfl, hbg, r⟩
  · exact .inl ⟨rfl, e⟩
  · exact .inr ⟨g, cap, cur, rfl, Nat.zero_le _, r⟩
def FbPost (B : Nat) (w0 : World) (xs : List UInt8) (e : Ending) (w' : World) : Prop := ∃ v', e = .returned v' ∧ OwnB B w' v' xs ∧ Below B w0 w'
/-- varint, onto bytes of the call's own. -/
theorem varint_o (n : Nat) (v : Value) (xs : List UInt8) (w : World) (B : Nat) (hn : n < 4611686018427387904) (hown : OwnB B w v xs) (hl : xs.length ≤ 1000000000000) (hB : B ≤ w.heap.size) :
    Calls Try.prog 184 #[v, .int .i64 n] w (fun e w' => ∃ v', e = .returned v' ∧ OwnB B w' v' (xs ++ varB n) ∧ w.grownBy w' v.ownBlock ∧ FR w v v') := by
  refine (varint_i n v xs w hn hown.1 hl).mono ?_
  rintro e w' ⟨v', rfl, h1, h2, h3⟩
  refine ⟨v', rfl, ⟨h1, ?_⟩, h2, h3⟩
  intro k hk
  rcases h3 with h3 | ⟨g, hg, hgs⟩
  · exact hown.2 k (by rw [← h3]; exact hk)
  · rw [hg] at hk; cases hk; omega
theorem FR.ne {w : World} {v v' : Value} {g : Nat} (h : FR w v v') (hne : some g ≠ v.ownBlock) (hg : g < w.heap.size) : some g ≠ v'.ownBlock := by
  rcases h with h | ⟨k, h, hk⟩
  · rw [h]; exact hne
  · intro e; rw [h] at e; cases e; omega
theorem OwnB.alloc {B : Nat} {w : World} {v : Value} {xs : List UInt8} (h : OwnB B w v xs) (o : Obj) : OwnB B (w.alloc o) v xs := ⟨h.1.alloc o, h.2⟩
theorem OwnB.ne {B : Nat} {w : World} {v : Value} {xs : List UInt8} (h : OwnB B w v xs) {g : Nat} (hg : w.heap.size ≤ g) : some g ≠ v.ownBlock := by
  intro e; have := (h.1.lt g e.symm).2; omega
theorem field_kinds {x : DField} (h : fieldB x = true) : (1 ≤ x.no ∧ x.no ≤ 30) ∧ ((x.kind = 0 ∧ -1000000000 ≤ x.num ∧ x.num ≤ 1000000000 ∧ x.data.size = 0) ∨ (x.kind = 2 ∧ x.num = 0)) := by
  simp only [fieldB, Bool.and_eq_true, decide_eq_true_eq] at h
  refine ⟨h.1, ?_⟩
  have h2 := h.2
  split at h2
  · simp only [numB, emptyS, Bool.and_eq_true, decide_eq_true_eq] at h2
    refine .inl ⟨by assumption, h2.1.1, h2.1.2, ?_⟩
    exact emptyS_size h2.2
  · split at h2
    · exact .inr ⟨by assumption, by simpa using h2⟩
    · cases h2

/-- 'append(b, s...)' in a region that draws its order. -/
theorem step_appS {P : Program} {w : World} {ops : Array Oper} {o : Oper} {a : Act} {K : Act → World → Prop} {Q : Exit → Act → World → Prop} {E : Prop} (hgd : o.guard = none) (s x : Operand) (t u : TypeId)
    (ho : o.op = .call { callee := .builtin .append, args := #[s, x], argTypes := #[t, u] })
    (base : Nat) (e : TypeId) (i : TypeInfo) (ht : P.underlying t = some (.slice e)) (hu : P.underlying u = some .string) (hi : P.info? e = some i) (hz : i.zero = some (.int .u8 0))
    (hsize : i.size = 1) (hby : i.bytes = 1)
    (v : Value) (n : Nat) (xs : List Value) (hs : a.eval s = v) (hown : w.ownsRow base e 1 v n xs) (str : ByteArray) (hx : a.eval x = .string str)
    (hbytes : n + str.size ≤ 140737488355328) (hbase : base ≤ w.heap.size)
    (h : ∀ v' w', w'.ownsRow base e 1 v' (n + str.size) (xs ++ Lib.strCells str) → w.grownBy w' v.ownBlock → K (a.put o.dst v') w') :
    if Region.wanted o (yielded ops a.tmps) = true then Oper.wp P o a w K Q else E := by
  have hw : Region.wanted o (yielded ops a.tmps) = true := by simp [Region.wanted, hgd]
  rw [if_pos hw]
  obtain ⟨v', w', hr, h2, h3, h4⟩ := Lib.run_append_own_string (P := P) w base t u o.type e i ht hu hi hz hsize hby v n xs hown str (by unfold maxLen; omega) hbytes hbase
  unfold Oper.wp execOp
  simp only [ho, resolve, invoke, builtin, Sem.run_bind, Sem.run_pure, Result.andThen_ok, List.map_toArray, List.map_cons, List.map_nil, hs, hx, hr]
  exact h v' w' h2 h3

set_option maxHeartbeats 1600000 in
theorem fieldBytes_i (x : DField) (hx : fieldB x = true) (hs : x.data.size ≤ 1048576) (v : Value) (xs : List UInt8) (w : World) (B : Nat) (hB : B ≤ w.heap.size) (hown : OwnB B w v xs) (hl : xs.length ≤ 1000) :
    Calls Try.prog 139 #[v, .agg #[.int .i64 x.no, .int .i64 x.kind, .int .i64 x.num, .string x.data]] w (FbPost B w (xs ++ fb x)) := by
  obtain ⟨⟨hn1, hn2⟩, hk⟩ := field_kinds hx
  obtain ⟨m, hm⟩ := Int.eq_ofNat_of_zero_le (show 0 ≤ 8 * x.no + x.kind by rcases hk with ⟨h, _⟩ | ⟨h, _⟩ <;> omega)
  have hmb : m ≤ 300 := by rcases hk with ⟨h, _⟩ | ⟨h, _⟩ <;> omega
  have hvl := varB_len10 m (by omega)
  have hfb := hd (show fb x = varB m ++ (if x.kind = 0 then varB (fld x.num).toNat else varB x.data.size ++ x.data.data.toList) by rw [fb, hm]; rfl)
  have hown := hd hown
  clear hx
  go_enter Try.func139, Try.ntmps139
  go_upto_region 1 with (fail)
  have g0 : (World.alloc w (.cells #[.int .i64 x.no, .int .i64 x.kind, .int .i64 x.num, .string x.data] 99)).cell? ⟨w.heap.size, 0, none⟩ = some (.int .i64 x.no) := by go_simp
  have g1 : (World.alloc w (.cells #[.int .i64 x.no, .int .i64 x.kind, .int .i64 x.num, .string x.data] 99)).cell? ⟨w.heap.size, 1, none⟩ = some (.int .i64 x.kind) := by go_simp
  have g2 : (World.alloc w (.cells #[.int .i64 x.no, .int .i64 x.kind, .int .i64 x.num, .string x.data] 99)).cell? ⟨w.heap.size, 2, none⟩ = some (.int .i64 x.num) := by go_simp
  have g3 : (World.alloc w (.cells #[.int .i64 x.no, .int .i64 x.kind, .int .i64 x.num, .string x.data] 99)).cell? ⟨w.heap.size, 3, none⟩ = some (.string x.data) := by go_simp
  have ho1 := hd (hown.out.alloc (.cells #[.int .i64 x.no, .int .i64 x.kind, .int .i64 x.num, .string x.data] 99))
  have hB1 := hd ((Below.refl B w).alloc hB (.cells #[.int .i64 x.no, .int .i64 x.kind, .int .i64 x.num, .string x.data] 99))
  have hz1 : B ≤ (World.alloc w (.cells #[.int .i64 x.no, .int .i64 x.kind, .int .i64 x.num, .string x.data] 99)).heap.size := by simp; omega
  have hne := hd (hown.out.ne (Nat.le_refl w.heap.size))
  have hWs : w.heap.size < (World.alloc w (.cells #[.int .i64 x.no, .int .i64 x.kind, .int .i64 x.num, .string x.data] 99)).heap.size := by simp
  generalize World.alloc w (.cells #[.int .i64 x.no, .int .i64 x.kind, .int .i64 x.num, .string x.data] 99) = W at g0 g1 g2 g3 ho1 hB1 hz1 hWs ⊢
  have hbd : 8 * x.no + x.kind ≤ 300 ∧ 8 ≤ 8 * x.no + x.kind ∧ 0 ≤ x.kind ∧ x.kind ≤ 2 := by rcases hk with ⟨h, _⟩ | ⟨h, _⟩ <;> omega
  have hm2 := hd hm
  clear hm
  go_upto_region 2 with (go_at_call 184; rw [hm2.out]; refine (varint_o m _ xs _ B (by omega) ho1.out (by omega) hz1).mono ?_; rintro e w2 ⟨v2, rfl, ho2, hg2, hf2⟩; replace ho2 := hd ho2)
  have k1 := hg2.cell g1 hne.out
  have k2 := hg2.cell g2 hne.out
  have k3 := hg2.cell g3 hne.out
  have hB2 := hd (hB1.out.grown hg2 hz1 (fun k hk => ho1.out.2 k hk))
  have hz2 := Nat.le_trans hz1 hg2.size
  have hne2 : Hd (some w.heap.size ≠ v2.ownBlock) := by
    rcases hf2 with h | ⟨g, h, hg⟩
    · intro e; exact hne.out (e.trans h)
    · intro e; rw [h] at e; cases e; omega
  have hxl : xs.length + (varB m).length ≤ 1010 := by omega
  have hW2s : w.heap.size < w2.heap.size := Nat.lt_of_lt_of_le hWs hg2.size
  have hxl2 : (xs ++ varB m).length ≤ 1000000000000 := by rw [List.length_append]; omega
  clear g0 g1 g2 g3 hg2 hB1 ho1 hf2 hne hown
  rcases hk with ⟨hk0, hk1, hk2, _⟩ | ⟨hk0, _⟩
  · have hfb2 := hd (show fb x = varB m ++ varB (fld x.num).toNat by rw [hfb.out, if_pos hk0])
    rw [hk0] at k1
    have hf0 : 0 ≤ fld x.num ∧ fld x.num ≤ 2000000000 := by rw [fld]; split <;> omega
    obtain ⟨q, hq⟩ := Int.eq_ofNat_of_zero_le hf0.1
    have hfb3 := hd (show xs ++ fb x = (xs ++ varB m) ++ varB q by rw [hfb2.out, hq]; simp)
    have c1 := hd (fold_i x.num)
    rw [hq] at c1 hf0
    clear hfb hfb2 hq hk0 hbd k3 hne2
    replace hk1 := hd hk1
    go_wp2_with (first | (go_at_call 185; refine (c1.out _ (by have := hk1.out; omega) (by omega)).mono ?_; rintro e w3 ⟨rfl, rfl⟩) | (go_at_call 184; refine (varint_o q _ _ _ B (by omega) ho2.out hxl2 hz2).mono ?_; rintro e w3 ⟨v3, rfl, ho3, hg3, hf3⟩; replace ho3 := hd ho3))
    go_ret
    exact ⟨_, rfl, by rw [hfb3.out]; exact ho3.out, hB2.out.grown hg3 hz2 (fun k hk => ho2.out.2 k hk)⟩
  · have hfb2 := hd (show xs ++ fb x = (xs ++ varB m ++ varB x.data.size) ++ x.data.data.toList by rw [hfb.out, if_neg (by omega)]; simp)
    have hvl2 := varB_len10 x.data.size (by omega)
    have hb2 : ((xs ++ varB m) ++ varB x.data.size).length + x.data.size ≤ 140737488355328 := by simp only [List.length_append]; omega
    have hsz : x.data.size < 4611686018427387904 := by omega
    rw [hk0] at k1
    clear hfb hk0 hbd k2
    obtain ⟨i0, hi, hz0, hz1', hz2'⟩ := info_parts infoU8
    have Hi := hd hi; have Hz0 := hd hz0; have Hz1 := hd hz1'; have Hz2 := hd hz2'
    clear hi hz0 hz1' hz2'
    go_upto_region 4 with (fail)
    go_region_held3 (fun w' => w'.cell? ⟨w.heap.size, 3, none⟩ = some (.string x.data)) (first | go_keep | (go_split_ands; exact hg4.cell (by assumption) (hf3.ne hne2.out hW2s)) | exact hg4.cell (by assumption) (hf3.ne hne2.out hW2s) | (go_split_ands; exact hg3.cell (by assumption) hne2.out) | exact hg3.cell (by assumption) hne2.out)
      (first
        | (go_at_call 184; refine (varint_o x.data.size _ _ _ B hsz (show OwnB B w2.drew v2 (xs ++ varB m) from ⟨ho2.out.1.drew, ho2.out.2⟩) hxl2 (show B ≤ w2.drew.heap.size from hz2)).mono ?_; rintro e w3 ⟨v3, rfl, ho3, hg3, hf3⟩; replace ho3 := hd ho3)
        | (refine step_appS (by rfl) _ _ _ _ (by rfl) B 5 i0 Try.underlying179 Try.underlying9 Hi.out Hz0.out Hz1.out Hz2.out _ _ _ (by rfl) (ho3.out.1.raise ho3.out.2) x.data (by rfl) hb2 (Nat.le_trans hz2 hg3.size) ?_; intro v4 w4 ho4 hg4))
    have hB4 := hd ((hB2.out.grown (⟨hg3.os, hg3.tape, hg3.output, hg3.size, hg3.block⟩ : w2.grownBy w3 v2.ownBlock) hz2 (fun k hk => ho2.out.2 k hk)).grown hg4 (Nat.le_trans hz2 hg3.size) (fun k hk => ho3.out.2 k hk))
    have hfin : OwnB B w4 v4 ((xs ++ varB m ++ varB x.data.size) ++ x.data.data.toList) :=
      ⟨own_len (ownsRow_lower ho4) (by simp [Lib.strCells, byteV]) (by simp; omega), fun k hk => (ho4.lt k hk).1⟩
    replace hfin := hd hfin
    go_wp2
    go_ret
    exact ⟨_, rfl, by rw [hfb2.out]; exact hfin.out, hB4.out⟩
end Go.Proofs.Ytpkmghllidejhaa

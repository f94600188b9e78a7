/- The bytes of a field, of the program (with Fields3, Fields4). -/
import Derived.Test.YtbjilpemckoioaaRecs
import Derived.Lib.AppendStr
import Derived.Deep.RegionHeld3
import Derived.Deep.Cut
/- The bytes of a field, of the program. -/
namespace Go.Proofs.Ytbjilpemckoioaa
open Go.RowKit
set_option linter.unusedVariables false
set_option maxRecDepth 100000

theorem loop_ne (s : ByteArray) : ∀ (i : Nat) (r : List UInt8), r ≠ [] → ByteArray.toList.loop s i r ≠ [] := by
  intro i r
  induction h : s.size - i using Nat.strongRecOn generalizing i r with
  | _ n ih =>
    intro hr
    unfold ByteArray.toList.loop
    split
    · exact ih _ (by omega) (i + 1) _ rfl (by simp)
    · simpa using hr
theorem emptyS_size {s : ByteArray} (h : emptyS s = true) : s.size = 0 := by
  by_cases h0 : s.size = 0
  · exact h0
  · exfalso
    rw [emptyS, ByteArray.toList] at h
    unfold ByteArray.toList.loop at h
    rw [if_pos (by omega)] at h
    have := loop_ne s (0 + 1) (s.get! 0 :: []) (by simp)
    rw [List.isEmpty_iff] at h
    exact this h
def fb (x : DField) : List UInt8 := varB (8 * x.no + x.kind).toNat ++ (if x.kind = 0 then varB (fld x.num).toNat else varB x.data.size ++ x.data.data.toList)
def OwnB (B : Nat) (w : World) (v : Value) (xs : List UInt8) : Prop := BytesAt w v xs ∧ ∀ k, v.ownBlock = some k → B ≤ k
theorem BytesAt.raise {B : Nat} {w : World} {v : Value} {xs : List UInt8} (h : BytesAt w v xs) (hb : ∀ k, v.ownBlock = some k → B ≤ k) : w.ownsRow B 5 1 v xs.length (xs.map byteV) := by
  refine ⟨h.1, ?_⟩
  rcases h.2 with ⟨rfl, e⟩ | ⟨g, cap, cur, rfl, hbg, r⟩
  · exact .inl ⟨rfl, e⟩
  · exact .inr ⟨g, cap, cur, rfl, hb g rfl, r⟩
theorem ownsRow_lower {B n : Nat} {E : TypeId} {w : World} {v : Value} {xs : List Value} (h : w.ownsRow B E 1 v n xs) : w.ownsRow 0 E 1 v n xs := by
  refine ⟨h.1, ?_⟩
  rcases h.2 with ⟨rfl, e⟩ | ⟨g, cap, cur, rfl, hbg, r⟩
  · exact .inl ⟨rfl, e⟩
  · exact .inr ⟨g, cap, cur, rfl, Nat.zero_le _, r⟩
def FbPost (B : Nat) (w0 : World) (xs : List UInt8) (e : Ending) (w' : World) : Prop := ∃ v', e = .returned v' ∧ OwnB B w' v' xs ∧ Below B w0 w'
/-- varint, onto bytes of the call's own. -/
theorem varint_o (n : Nat) (v : Value) (xs : List UInt8) (w : World) (B : Nat) (hn : n < 4611686018427387904) (hown : OwnB B w v xs) (hl : xs.length ≤ 1000000000000) (hB : B ≤ w.heap.size) :
    Calls Try.prog 182 #[v, .int .i64 n] w (fun e w' => ∃ v', e = .returned v' ∧ OwnB B w' v' (xs ++ varB n) ∧ w.grownBy w' v.ownBlock ∧ FR w v v') := by
  refine (varint_i n v xs w hn hown.1 hl).mono ?_
  rintro e w' ⟨v', rfl, h1, h2, h3⟩
  refine ⟨v', rfl, ⟨h1, ?_⟩, h2, h3⟩
  intro k hk
  rcases h3 with h3 | ⟨g, hg, hgs⟩
  · exact hown.2 k (by rw [← h3]; exact hk)
  · rw [hg] at hk; cases hk; omega
theorem FR.ne {w : World} {v v' : Value} {g : Nat} (h : FR w v v') (hne : some g ≠ v.ownBlock) (hg : g < w.heap.size) : some g ≠ v'.ownBlock := by
  rcases h with h | ⟨k, h, hk⟩
  · rw [h]; exact hne
  · intro e; rw [h] at e; cases e; omega
theorem OwnB.alloc {B : Nat} {w : World} {v : Value} {xs : List UInt8} (h : OwnB B w v xs) (o : Obj) : OwnB B (w.alloc o) v xs := ⟨h.1.alloc o, h.2⟩
theorem OwnB.ne {B : Nat} {w : World} {v : Value} {xs : List UInt8} (h : OwnB B w v xs) {g : Nat} (hg : w.heap.size ≤ g) : some g ≠ v.ownBlock := by
  intro e; have := (h.1.lt g e.symm).2; omega
theorem field_kinds {x : DField} (h : fieldB x = true) : (1 ≤ x.no ∧ x.no ≤ 30) ∧ ((x.kind = 0 ∧ -1000000000 ≤ x.num ∧ x.num ≤ 1000000000 ∧ x.data.size = 0) ∨ (x.kind = 2 ∧ x.num = 0)) := by
  simp only [fieldB, Bool.and_eq_true, decide_eq_true_eq] at h
  refine ⟨h.1, ?_⟩
  have h2 := h.2
  split at h2
  · simp only [numB, emptyS, Bool.and_eq_true, decide_eq_true_eq] at h2
    refine .inl ⟨by assumption, h2.1.1, h2.1.2, ?_⟩
    exact emptyS_size h2.2
  · split at h2
    · exact .inr ⟨by assumption, by simpa using h2⟩
    · cases h2

/-- 'append(b, s...)' in a region that draws its order. -/
theorem step_appS {P : Program} {w : World} {ops : Array Oper} {o : Oper} {a : Act} {K : Act → World → Prop} {Q : Exit → Act → World → Prop} {E : Prop} (hgd : o.guard = none) (s x : Operand) (t u : TypeId)
    (ho : o.op = .call { callee := .builtin .append, args := #[s, x], argTypes := #[t, u] })
    (base : Nat) (e : TypeId) (i : TypeInfo) (ht : P.underlying t = some (.slice e)) (hu : P.underlying u = some .string) (hi : P.info? e = some i) (hz : i.zero = some (.int .u8 0))
    (hsize : i.size = 1) (hby : i.bytes = 1)
    (v : Value) (n : Nat) (xs : List Value) (hs : a.eval s = v) (hown : w.ownsRow base e 1 v n xs) (str : ByteArray) (hx : a.eval x = .string str)
    (hbytes : n + str.size ≤ 140737488355328) (hbase : base ≤ w.heap.size)
    (h : ∀ v' w', w'.ownsRow base e 1 v' (n + str.size) (xs ++ Lib.strCells str) → w.grownBy w' v.ownBlock → K (a.put o.dst v') w') :
    if Region.wanted o (yielded ops a.tmps) = true then Oper.wp P o a w K Q else E := by
  have hw : Region.wanted o (yielded ops a.tmps) = true := by simp [Region.wanted, hgd]
  rw [if_pos hw]
  obtain ⟨v', w', hr, h2, h3, h4⟩ := Lib.run_append_own_string (P := P) w base t u o.type e i ht hu hi hz hsize hby v n xs hown str (by unfold maxLen; omega) hbytes hbase
  unfold Oper.wp execOp
  simp only [ho, resolve, invoke, builtin, Sem.run_bind, Sem.run_pure, Result.andThen_ok, List.map_toArray, List.map_cons, List.map_nil, hs, hx, hr]
  exact h v' w' h2 h3

set_option maxHeartbeats 1600000 in
theorem fieldBytes_i (x : DField) (hx : fieldB x = true) (hs : x.data.size ≤ 1048576) (v : Value) (xs : List UInt8) (w : World) (B : Nat) (hB : B ≤ w.heap.size) (hown : OwnB B w v xs) (hl : xs.length ≤ 1000) :
    Calls Try.prog 146 #[v, .agg #[.int .i64 x.no, .int .i64 x.kind, .int .i64 x.num, .string x.data]] w (FbPost B w (xs ++ fb x)) := by
  obtain ⟨⟨hn1, hn2⟩, hk⟩ := field_kinds hx
  obtain ⟨m, hm⟩ := Int.eq_ofNat_of_zero_le (show 0 ≤ 8 * x.no + x.kind by rcases hk with ⟨h, _⟩ | ⟨h, _⟩ <;> omega)
  have hmb : m ≤ 300 := by rcases hk with ⟨h, _⟩ | ⟨h, _⟩ <;> omega
  have hvl := varB_len10 m (by omega)
  have hfb := hd (show fb x = varB m ++ (if x.kind = 0 then varB (fld x.num).toNat else varB x.data.size ++ x.data.data.toList) by rw [fb, hm]; rfl)
  have hown := hd hown
  clear hx
  go_enter Try.func146, Try.ntmps146
  go_upto_region 1 with (fail)
  have g0 : (World.alloc w (.cells #[.int .i64 x.no, .int .i64 x.kind, .int .i64 x.num, .string x.data] 141)).cell? ⟨w.heap.size, 0, none⟩ = some (.int .i64 x.no) := by go_simp
  have g1 : (World.alloc w (.cells #[.int .i64 x.no, .int .i64 x.kind, .int .i64 x.num, .string x.data] 141)).cell? ⟨w.heap.size, 1, none⟩ = some (.int .i64 x.kind) := by go_simp
  have g2 : (World.alloc w (.cells #[.int .i64 x.no, .int .i64 x.kind, .int .i64 x.num, .string x.data] 141)).cell? ⟨w.heap.size, 2, none⟩ = some (.int .i64 x.num) := by go_simp
  have g3 : (World.alloc w (.cells #[.int .i64 x.no, .int .i64 x.kind, .int .i64 x.num, .string x.data] 141)).cell? ⟨w.heap.size, 3, none⟩ = some (.string x.data) := by go_simp
  have ho1 := hd (hown.out.alloc (.cells #[.int .i64 x.no, .int .i64 x.kind, .int .i64 x.num, .string x.data] 141))
  have hB1 := hd ((Below.refl B w).alloc hB (.cells #[.int .i64 x.no, .int .i64 x.kind, .int .i64 x.num, .string x.data] 141))
  have hz1 : B ≤ (World.alloc w (.cells #[.int .i64 x.no, .int .i64 x.kind, .int .i64 x.num, .string x.data] 141)).heap.size := by simp; omega
  have hne := hd (hown.out.ne (Nat.le_refl w.heap.size))
  have hWs : w.heap.size < (World.alloc w (.cells #[.int .i64 x.no, .int .i64 x.kind, .int .i64 x.num, .string x.data] 141)).heap.size := by simp
  generalize World.alloc w (.cells #[.int .i64 x.no, .int .i64 x.kind, .int .i64 x.num, .string x.data] 141) = W at g0 g1 g2 g3 ho1 hB1 hz1 hWs ⊢
  have hbd : 8 * x.no + x.kind ≤ 300 ∧ 8 ≤ 8 * x.no + x.kind ∧ 0 ≤ x.kind ∧ x.kind ≤ 2 := by rcases hk with ⟨h, _⟩ | ⟨h, _⟩ <;> omega
  have hm2 := hd hm
  clear hm
  go_upto_region 2 with (go_at_call 182; rw [hm2.out]; refine (varint_o m _ xs _ B (by omega) ho1.out (by omega) hz1).mono ?_; rintro e w2 ⟨v2, rfl, ho2, hg2, hf2⟩; replace ho2 := hd ho2)
  have k1 := hg2.cell g1 hne.out
  have k2 := hg2.cell g2 hne.out
  have k3 := hg2.cell g3 hne.out
  have hB2 := hd (hB1.out.grown hg2 hz1 (fun k hk => ho1.out.2 k hk))
  have hz2 := Nat.le_trans hz1 hg2.size
  have hne2 : Hd (some w.heap.size ≠ v2.ownBlock) := by
    rcases hf2 with h | ⟨g, h, hg⟩
    · intro e; exact hne.out (e.trans h)
    · intro e; rw [h] at e; cases e; omega
  have hxl : xs.length + (varB m).length ≤ 1010 := by omega
  have hW2s : w.heap.size < w2.heap.size := Nat.lt_of_lt_of_le hWs hg2.size
  have hxl2 : (xs ++ varB m).length ≤ 1000000000000 := by rw [List.length_append]; omega
  clear g0 g1 g2 g3 hg2 hB1 ho1 hf2 hne hown
  rcases hk with ⟨hk0, hk1, hk2, _⟩ | ⟨hk0, _⟩
  · have hfb2 := hd (show fb x = varB m ++ varB (fld x.num).toNat by rw [hfb.out, if_pos hk0])
    rw [hk0] at k1
    have hf0 : 0 ≤ fld x.num ∧ fld x.num ≤ 2000000000 := by rw [fld]; split <;> omega
    obtain ⟨q, hq⟩ := Int.eq_ofNat_of_zero_le hf0.1
    have hfb3 := hd (show xs ++ fb x = (xs ++ varB m) ++ varB q by rw [hfb2.out, hq]; simp)
    have c1 := hd (fold_i x.num)
    rw [hq] at c1 hf0
    clear hfb hfb2 hq hk0 hbd k3 hne2
    replace hk1 := hd hk1
    go_wp2_with (first | (go_at_call 183; refine (c1.out _ (by have := hk1.out; omega) (by omega)).mono ?_; rintro e w3 ⟨rfl, rfl⟩) | (go_at_call 182; refine (varint_o q _ _ _ B (by omega) ho2.out hxl2 hz2).mono ?_; rintro e w3 ⟨v3, rfl, ho3, hg3, hf3⟩; replace ho3 := hd ho3))
    go_ret
    exact ⟨_, rfl, by rw [hfb3.out]; exact ho3.out, hB2.out.grown hg3 hz2 (fun k hk => ho2.out.2 k hk)⟩
  · have hfb2 := hd (show xs ++ fb x = (xs ++ varB m ++ varB x.data.size) ++ x.data.data.toList by rw [hfb.out, if_neg (by omega)]; simp)
    have hvl2 := varB_len10 x.data.size (by omega)
    have hb2 : ((xs ++ varB m) ++ varB x.data.size).length + x.data.size ≤ 140737488355328 := by simp only [List.length_append]; omega
    have hsz : x.data.size < 4611686018427387904 := by omega
    rw [hk0] at k1
    clear hfb hk0 hbd k2
    obtain ⟨i0, hi, hz0, hz1', hz2'⟩ := info_parts infoU8
    have Hi := hd hi; have Hz0 := hd hz0; have Hz1 := hd hz1'; have Hz2 := hd hz2'
    clear hi hz0 hz1' hz2'
    go_upto_region 4 with (fail)
    go_region_held3 (fun w' => w'.cell? ⟨w.heap.size, 3, none⟩ = some (.string x.data)) (first | go_keep | (go_split_ands; exact hg4.cell (by assumption) (hf3.ne hne2.out hW2s)) | exact hg4.cell (by assumption) (hf3.ne hne2.out hW2s) | (go_split_ands; exact hg3.cell (by assumption) hne2.out) | exact hg3.cell (by assumption) hne2.out)
      (first
        | (go_at_call 182; refine (varint_o x.data.size _ _ _ B hsz (show OwnB B w2.drew v2 (xs ++ varB m) from ⟨ho2.out.1.drew, ho2.out.2⟩) hxl2 (show B ≤ w2.drew.heap.size from hz2)).mono ?_; rintro e w3 ⟨v3, rfl, ho3, hg3, hf3⟩; replace ho3 := hd ho3)
        | (refine step_appS (by rfl) _ _ _ _ (by rfl) B 5 i0 Try.underlying197 Try.underlying9 Hi.out Hz0.out Hz1.out Hz2.out _ _ _ (by rfl) (ho3.out.1.raise ho3.out.2) x.data (by rfl) hb2 (Nat.le_trans hz2 hg3.size) ?_; intro v4 w4 ho4 hg4))
    have hB4 := hd ((hB2.out.grown (⟨hg3.os, hg3.tape, hg3.output, hg3.size, hg3.block⟩ : w2.grownBy w3 v2.ownBlock) hz2 (fun k hk => ho2.out.2 k hk)).grown hg4 (Nat.le_trans hz2 hg3.size) (fun k hk => ho3.out.2 k hk))
    have hfin : OwnB B w4 v4 ((xs ++ varB m ++ varB x.data.size) ++ x.data.data.toList) :=
      ⟨own_len (ownsRow_lower ho4) (by simp [Lib.strCells, byteV]) (by simp; omega), fun k hk => (ho4.lt k hk).1⟩
    replace hfin := hd hfin
    go_wp2
    go_ret
    exact ⟨_, rfl, by rw [hfb2.out]; exact hfin.out, hB4.out⟩
end Go.Proofs.Ytbjilpemckoioaa
/- FieldsBytes of the program. -/
namespace Go.Proofs.Ytbjilpemckoioaa
open Go.RowKit
set_option linter.unusedVariables false
set_option maxRecDepth 100000

def flat (l : List DField) : List UInt8 := l.flatMap fb
def fieldsR (l : List DField) : List UInt8 := if fieldsB l = true ∧ (flat l).length ≤ 400 then flat l else []
def fieldsRB (l : List DField) : Bool := fieldsB l && decide ((flat l).length ≤ 400)
def SbPost (s : List UInt8) (b : Bool) (w : World) (e : Ending) (w' : World) : Prop := e = .returned (.tuple #[.string (mkS s), .bool b]) ∧ Below w.heap.size w w'
theorem BytesAt.slice {w : World} {v : Value} {xs : List UInt8} (h : BytesAt w v xs) : ∃ a c, v = .slice a xs.length c := by
  rcases h.2 with ⟨rfl, e⟩ | ⟨g, cap, cur, rfl, hbg, r⟩
  · have : xs = [] := List.eq_nil_of_length_eq_zero e
    subst this; exact ⟨none, 0, rfl⟩
  · exact ⟨_, _, rfl⟩
theorem flat_succ {l : List DField} {k : Nat} (h : k < l.length) : flat (l.take (k + 1)) = flat (l.take k) ++ fb l[k] := by
  rw [List.take_succ_eq_append_getElem h, flat, List.flatMap_append]; simp [flat]
theorem flat_le (l : List DField) (k : Nat) : (flat (l.take k)).length ≤ (flat l).length := by
  conv => rhs; rw [← List.take_append_drop k l]
  rw [flat, flat, List.flatMap_append, List.length_append]; omega
theorem fb_len (x : DField) (h : fieldB x = true) (hs : x.data.size ≤ 1048576) : (fb x).length ≤ 20 + x.data.size := by
  obtain ⟨⟨h1, h2⟩, hk⟩ := field_kinds h
  have e1 := varB_len10 (8 * x.no + x.kind).toNat (by rcases hk with ⟨h, _⟩ | ⟨h, _⟩ <;> omega)
  rw [fb, List.length_append]
  split
  · have hf : (fld x.num).toNat < 9223372036854775808 := by
      rcases hk with ⟨h, h3, h4, _⟩ | ⟨h, h3⟩ <;> (rw [fld]; split <;> omega)
    have := varB_len10 _ hf
    omega
  · have := varB_len10 x.data.size (by omega)
    have e2 : x.data.data.toList.length = x.data.size := by rw [Array.length_toList]; rfl
    rw [List.length_append, e2]; omega
theorem fb_ge (x : DField) (h : fieldB x = true) : x.data.size ≤ (fb x).length := by
  obtain ⟨⟨h1, h2⟩, hk⟩ := field_kinds h
  have e2 : x.data.data.toList.length = x.data.size := by rw [Array.length_toList]; rfl
  rw [fb, List.length_append]
  split
  · rcases hk with ⟨h, h3, h4, h5⟩ | ⟨h, h3⟩ <;> omega
  · rw [List.length_append, e2]; omega
theorem fb_mem {l : List DField} {x : DField} (h : x ∈ l) : (fb x).length ≤ (flat l).length := by
  induction l with
  | nil => cases h
  | cons y l ih =>
    rw [flat, List.flatMap_cons, List.length_append]
    rcases List.mem_cons.1 h with rfl | h
    · omega
    · have := ih h; rw [flat] at this; omega
theorem OwnB.below {B : Nat} {w w' : World} {v : Value} {xs : List UInt8} (h : OwnB B w v xs) (hb : Below w.heap.size w w') : OwnB B w' v xs :=
  ⟨h.1.kept (below_grownBy hb none) (by cases v.ownBlock <;> simp), h.2⟩
theorem fieldsB_mem {l : List DField} (h : fieldsB l = true) : l.length ≤ 40 ∧ ∀ x ∈ l, fieldB x = true := by
  simp only [fieldsB, Bool.and_eq_true, decide_eq_true_eq, Bool.not_eq_true', List.any_eq_false] at h
  exact ⟨h.1, fun x hx => by simpa [fieldBad] using h.2 x hx⟩

set_option maxHeartbeats 3200000 in
theorem fieldsBytes_i (l : List DField) (v : Value) (w : World) (hg : fieldsB l = true) (hs : ∀ x ∈ l, x.data.size ≤ 1048576) (h : Sl w v 4 (l.map DField.enc)) (b : Bool) (hb : decide ((flat l).length ≤ 400) = b) (r : List UInt8) (hr : (if b then flat l else []) = r) :
    Calls Try.prog 96 #[v] w (SbPost r b w) := by
  obtain ⟨hn, hok⟩ := fieldsB_mem hg
  have hbb := hd hb
  have hok := hd hok
  have hs := hd hs
  obtain ⟨a1, c1, rfl, hrr⟩ := h
  replace hrr := hd hrr
  replace hr := hd hr
  clear hb hg
  simp only [List.length_map]
  go_enter Try.func96, Try.ntmps96
  go_wp2_with fail
  go_loopw [4, 10] (fun o i wr => ∃ k : Nat, k ≤ l.length ∧ i = .int .i64 k ∧ Hd (OwnB w.heap.size wr o (flat (l.take k))) ∧ Hd ((flat (l.take k)).length ≤ 400) ∧ Hd (Below w.heap.size w wr)) (fun _ i _ => l.length - (intOf i).toNat)
  case atStart =>
    exact ⟨0, Nat.zero_le _, rfl, ⟨World.ownsRow_made _ #[] 0 (Nat.zero_le _) (Nat.zero_le _) rfl, fun k hk => by cases hk; exact Nat.le_refl _⟩, Nat.zero_le _, below_a1 _⟩
  case round =>
    obtain ⟨k, hk, rfl, hown, hln, hbl⟩ := hrel
    obtain ⟨wo, rfl⟩ : ∃ wo : World, wo = wr := ⟨_, rfl⟩
    by_cases hlt : k < l.length
    · have hltI : (k : Int) < (l.length : Int) := by omega
      obtain ⟨b1, o1, rfl, C1⟩ : ∃ b o, a1 = some ⟨b, o, none⟩ ∧ Cells w b o 4 (l.map DField.enc) := by
        rcases hrr.out with h | ⟨b, o, e, C⟩
        · exfalso; have : l = [] := by simpa using h
          subst this; simp at hlt
        · exact ⟨b, o, e, C⟩
      obtain ⟨f0, f1, f2, f3⟩ := Cells.rowField l k hlt (C1.mono hbl.out)
      have hfx := hok.out _ (List.getElem_mem hlt)
      have hsx := hs.out _ (List.getElem_mem hlt)
      have hsucc := hd (flat_succ hlt)
      have hle := hd (flat_le l (k + 1))
      generalize hx : l[k] = x at *
      replace hx := hd hx
      have hB0 : w.heap.size ≤ wo.heap.size := hbl.out.size
      go_upto_region 5 with (fail)
      have hbl2 := hd (hbl.out.next (below_a1 wo (a := (.cells #[.int .i64 x.no, .int .i64 x.kind, .int .i64 x.num, .string x.data] 141))))
      have ho2 := hd (hown.out.below (below_a1 wo (a := (.cells #[.int .i64 x.no, .int .i64 x.kind, .int .i64 x.num, .string x.data] 141))))
      have g0 : (World.alloc wo (.cells #[.int .i64 x.no, .int .i64 x.kind, .int .i64 x.num, .string x.data] 141)).cell? ⟨wo.heap.size, 0, none⟩ = some (.int .i64 x.no) := by go_simp
      have g1 : (World.alloc wo (.cells #[.int .i64 x.no, .int .i64 x.kind, .int .i64 x.num, .string x.data] 141)).cell? ⟨wo.heap.size, 1, none⟩ = some (.int .i64 x.kind) := by go_simp
      have g2 : (World.alloc wo (.cells #[.int .i64 x.no, .int .i64 x.kind, .int .i64 x.num, .string x.data] 141)).cell? ⟨wo.heap.size, 2, none⟩ = some (.int .i64 x.num) := by go_simp
      have g3 : (World.alloc wo (.cells #[.int .i64 x.no, .int .i64 x.kind, .int .i64 x.num, .string x.data] 141)).cell? ⟨wo.heap.size, 3, none⟩ = some (.string x.data) := by go_simp
      generalize World.alloc wo (.cells #[.int .i64 x.no, .int .i64 x.kind, .int .i64 x.num, .string x.data] 141) = W2 at hbl2 ho2 g0 g1 g2 g3 ⊢
      clear f0 f1 f2 f3
      go_upto_region 6 with (go_at_call 146; refine (fieldBytes_i x hfx hsx _ _ _ w.heap.size hbl2.out.size ho2.out (by have := hln.out; omega)).mono ?_; rintro e w3 ⟨v3, rfl, ho3, hb3⟩)
      rw [← hsucc.out] at ho3
      have hbl3 := hd (hbl2.out.trans hb3)
      obtain ⟨a3, c3, rfl⟩ := ho3.1.slice
      replace ho3 := hd ho3
      clear g0 g1 g2 g3 ho2 hb3 hsucc
      generalize hys : flat (l.take (k + 1)) = ys at *
      replace hys := hd hys
      by_cases hgt : 400 < ys.length
      · have hgtI : (400 : Int) < (ys.length : Int) := by omega
        have hbf : b = false := by rw [← hbb.out]; have := hle.out; simp; omega
        have hrf := hd (show r = [] by rw [← hr.out, hbf]; rfl)
        replace hbf := hd hbf
        go_wp2_with fail
        go_ret2
        exact ⟨by rw [hrf.out, hbf.out]; rfl, hbl3.out⟩
      · have hgtI : ¬ (400 : Int) < (ys.length : Int) := by omega
        have hle4 := hd (show (flat (l.take (k + 1))).length ≤ 400 by rw [hys.out]; omega)
        have ho4 : OwnB w.heap.size w3 (.slice a3 ys.length c3) (flat (l.take (k + 1))) := by rw [hys.out]; exact ho3.out
        replace ho4 := hd ho4
        clear hys ho3
        go_wp2_with fail
        go_roundw
        case rel => exact ⟨k + 1, by omega, by go_num, ho4, hle4, hbl3⟩
        case measure => simp [intOf]; omega
    · have hkl : k = l.length := by omega
      subst hkl
      rw [List.take_length] at hown hln
      have hbt : b = true := by rw [← hbb.out]; simpa using hln.out
      have hrf := hd (show r = flat l by rw [← hr.out, hbt]; rfl)
      replace hbt := hd hbt
      have hcv := run_str_row (P := Try.prog) wo 197 9 5 _ (flat l) Try.underlying197 Try.underlying5 Try.underlying9 (rowIs_own hown.out.1)
      go_wp2_with fail
      go_ret2
      exact ⟨by rw [hrf.out, hbt.out]; rfl, hbl.out⟩
end Go.Proofs.Ytbjilpemckoioaa
/- FieldsBytes of the reference. -/
namespace Go.Proofs.Ytbjilpemckoioaa
open Go.RowKit
set_option linter.unusedVariables false
set_option maxRecDepth 100000
def StrPost (s : List UInt8) (w : World) (e : Ending) (w' : World) : Prop := e = .returned (.string (mkS s)) ∧ Below w.heap.size w w'

set_option maxHeartbeats 3200000 in
theorem fields_s (l : List DField) (v : Value) (w : World) (hn : l.length ≤ 40) (hok : ∀ x ∈ l, fieldB x = true) (hs : ∀ x ∈ l, x.data.size ≤ 1048576) (h : Sl w v 4 (l.map DField.enc)) :
    Calls Try.prog 89 #[v] w (StrPost (flat l) w) := by
  have hok := hd hok
  have hs := hd hs
  obtain ⟨a1, c1, rfl, hrr⟩ := h
  replace hrr := hd hrr
  simp only [List.length_map]
  go_enter Try.func89, Try.ntmps89
  go_wp2_with fail
  go_loopw [3, 8] (fun s i wr => ∃ k : Nat, k ≤ l.length ∧ i = .int .i64 k ∧ s = .string (mkS (flat (l.take k))) ∧ Hd ((flat (l.take k)).length ≤ k * 1100000) ∧ Hd (Below w.heap.size w wr)) (fun _ i _ => l.length - (intOf i).toNat)
  case atStart => exact ⟨0, Nat.zero_le _, rfl, rfl, Nat.zero_le _, Below.refl _ _⟩
  case round =>
    obtain ⟨k, hk, rfl, rfl, hln, hbl⟩ := hrel
    obtain ⟨wo, rfl⟩ : ∃ wo : World, wo = wr := ⟨_, rfl⟩
    by_cases hlt : k < l.length
    · have hltI : (k : Int) < (l.length : Int) := by omega
      obtain ⟨b1, o1, rfl, C1⟩ : ∃ b o, a1 = some ⟨b, o, none⟩ ∧ Cells w b o 4 (l.map DField.enc) := by
        rcases hrr.out with h | ⟨b, o, e, C⟩
        · exfalso; have : l = [] := by simpa using h
          subst this; simp at hlt
        · exact ⟨b, o, e, C⟩
      obtain ⟨f0, f1, f2, f3⟩ := Cells.rowField l k hlt (C1.mono hbl.out)
      have hfx := hok.out _ (List.getElem_mem hlt)
      have hsx := hs.out _ (List.getElem_mem hlt)
      have hsucc := hd (flat_succ hlt)
      have hln2 := hln.out
      have hln3 := hln2
      generalize hx : l[k] = x at *
      replace hx := hd hx
      have hfl := fb_len x hfx hsx
      have hlen' : (flat (l.take (k + 1))).length ≤ (k + 1) * 1100000 := by rw [hsucc.out, List.length_append]; omega
      replace hlen' := hd hlen'
      generalize flat (l.take k) = zs at *
      generalize hys : flat (l.take (k + 1)) = ys at *
      replace hys := hd hys
      replace hln2 := hd hln2
      have hzl : zs.length ≤ 44000000 := by omega
      clear hln3 hln
      obtain ⟨⟨hn1, hn2⟩, hkd⟩ := field_kinds hfx
      obtain ⟨m, hm⟩ := Int.eq_ofNat_of_zero_le (show 0 ≤ 8 * x.no + x.kind by rcases hkd with ⟨h, _⟩ | ⟨h, _⟩ <;> omega)
      have hmb : m ≤ 300 := by rcases hkd with ⟨h, _⟩ | ⟨h, _⟩ <;> omega
      have hvl := varB_len10 m (by omega)
      have hfb := hd (show fb x = varB m ++ (if x.kind = 0 then varB (fld x.num).toNat else varB x.data.size ++ x.data.data.toList) by rw [fb, hm]; rfl)
      have hbd : 8 * x.no + x.kind ≤ 300 ∧ 8 ≤ 8 * x.no + x.kind ∧ 0 ≤ x.kind ∧ x.kind ≤ 2 := by rcases hkd with ⟨h, _⟩ | ⟨h, _⟩ <;> omega
      have hm2 := hd hm
      clear hm hfx hk
      go_upto_region 5 with (fail)
      have hbl2 := hd (hbl.out.next (below_a1 wo (a := (.cells #[.int .i64 x.no, .int .i64 x.kind, .int .i64 x.num, .string x.data] 141))))
      have g0 : (World.alloc wo (.cells #[.int .i64 x.no, .int .i64 x.kind, .int .i64 x.num, .string x.data] 141)).cell? ⟨wo.heap.size, 0, none⟩ = some (.int .i64 x.no) := by go_simp
      have g1 : (World.alloc wo (.cells #[.int .i64 x.no, .int .i64 x.kind, .int .i64 x.num, .string x.data] 141)).cell? ⟨wo.heap.size, 1, none⟩ = some (.int .i64 x.kind) := by go_simp
      have g2 : (World.alloc wo (.cells #[.int .i64 x.no, .int .i64 x.kind, .int .i64 x.num, .string x.data] 141)).cell? ⟨wo.heap.size, 2, none⟩ = some (.int .i64 x.num) := by go_simp
      have g3 : (World.alloc wo (.cells #[.int .i64 x.no, .int .i64 x.kind, .int .i64 x.num, .string x.data] 141)).cell? ⟨wo.heap.size, 3, none⟩ = some (.string x.data) := by go_simp
      generalize World.alloc wo (.cells #[.int .i64 x.no, .int .i64 x.kind, .int .i64 x.num, .string x.data] 141) = W2 at hbl2 g0 g1 g2 g3 ⊢
      clear f0 f1 f2 f3
      have hs1 : (mkS zs).size + (mkS (varB m)).size ≤ 50000000 := by rw [mkS_size, mkS_size]; omega
      go_upto_region 6 with (go_at_call 140; rw [hm2.out]; refine (varint_s m _ (by omega)).mono ?_; rintro e w3 ⟨rfl, hb3⟩)
      rw [mkS_append]
      have k1 := keepCell hb3 g1
      have k2 := keepCell hb3 g2
      have k3 := keepCell hb3 g3
      have hbl3 := hd (hbl2.out.next hb3)
      have hlt3 : wo.heap.size < w3.heap.size := World.block_lt_of_cell? w3 _ k1
      clear hb3 g0 g1 g2 g3 hs1 hbl2
      rcases hkd with ⟨hk0, hk1, hk2, _⟩ | ⟨hk0, _⟩
      · have hf0 : 0 ≤ fld x.num ∧ fld x.num ≤ 2000000000 := by rw [fld]; split <;> omega
        obtain ⟨q, hq⟩ := Int.eq_ofNat_of_zero_le hf0.1
        have hql := varB_len10 q (by omega)
        have hfb3 := hd (show ys = (zs ++ varB m) ++ varB q by rw [hsucc.out, hfb.out, if_pos hk0, hq]; simp)
        have c1 := hd (fold_s x.num)
        rw [hq] at c1 hf0
        have hs2 : (mkS (zs ++ varB m)).size + (mkS (varB q)).size ≤ 50000000 := by rw [mkS_size, mkS_size, List.length_append]; omega
        rw [hk0] at k1
        clear hfb hq hk0 hbd k3 hsucc
        replace hk1 := hd hk1
        go_wp2_with (first | (go_at_call 141; refine (c1.out _ (by have := hk1.out; omega) (by omega)).mono ?_; rintro e w4 ⟨rfl, rfl⟩) | (go_at_call 140; refine (varint_s q _ (by omega)).mono ?_; rintro e w4 ⟨rfl, hb4⟩; replace hb4 := hd hb4))
        have hbl4 := hd (hbl3.out.next hb4.out)
        have hln5 : Hd ((flat (l.take (k + 1))).length ≤ (k + 1) * 1100000) := by rw [hys.out]; exact hlen'.out
        have hfin := hd (show Value.string (mkS (zs ++ varB m) ++ mkS (varB q)) = .string (mkS (flat (l.take (k + 1)))) by rw [hys.out, hfb3.out, mkS_append])
        clear hys hlen' hfb3
        go_roundw
        case rel => exact ⟨k + 1, by omega, by go_num, hfin.out, hln5, hbl4⟩
        case measure => simp [intOf]; omega
      · have hvl2 := varB_len10 x.data.size (by omega)
        have hfb3 := hd (show ys = (zs ++ varB m) ++ (varB x.data.size ++ x.data.data.toList) by rw [hsucc.out, hfb.out, if_neg (by omega)]; simp)
        have hs3 : (mkS (varB x.data.size)).size + x.data.size ≤ 50000000 := by rw [mkS_size]; omega
        have hs2 : (mkS (zs ++ varB m)).size + (mkS (varB x.data.size) ++ x.data).size ≤ 50000000 := by rw [ByteArray.size_append, mkS_size, mkS_size, List.length_append]; omega
        have hsz : x.data.size < 4611686018427387904 := by omega
        have hs3i : ¬ (9223372036854775807 : Int) < ((mkS (varB x.data.size)).size : Int) + (x.data.size : Int) := by omega
        have hs2i : ¬ (9223372036854775807 : Int) < ((mkS (zs ++ varB m)).size : Int) + ((mkS (varB x.data.size) ++ x.data).size : Int) := by omega
        have hs2j : ¬ (9223372036854775807 : Int) < ((mkS (zs ++ varB m)).size : Int) + (((mkS (varB x.data.size)).size : Int) + (x.data.size : Int)) := by rw [ByteArray.size_append] at hs2; omega
        have hs3k : IntKind.i64.max = 9223372036854775807 := rfl
        rw [hk0] at k1
        clear hfb hk0 hbd k2 hsucc
        go_upto_region 8 with (fail)
        have hln5 : Hd ((flat (l.take (k + 1))).length ≤ (k + 1) * 1100000) := by rw [hys.out]; exact hlen'.out
        have hfin := hd (show Value.string (mkS (zs ++ varB m) ++ (mkS (varB x.data.size) ++ x.data)) = .string (mkS (flat (l.take (k + 1)))) by
          rw [hys.out, hfb3.out]
          conv => lhs; rw [← mkS_toList x.data, mkS_append, mkS_append])
        clear hys hlen' hfb3
        go_region_with (go_at_call 140; refine (varint_s x.data.size _ hsz).mono ?_; rintro e w4 ⟨rfl, hb4⟩; have kk := keepCell hb4 (show World.cell? _ _ = _ from k3); have hbl4 := hd (hbl3.out.next (show Below w3.heap.size w3 w4 from ⟨hb4.os, hb4.tape, hb4.output, hb4.size, hb4.block⟩)); clear hb4)
        all_goals go_wp2
        all_goals
          go_roundw
          case rel => exact ⟨k + 1, by omega, by go_num, hfin.out, hln5, hbl4⟩
          case measure => simp [intOf]; omega
    · have hkl : k = l.length := by omega
      subst hkl
      rw [List.take_length]
      go_wp2_with fail
      go_ret
      exact ⟨rfl, hbl.out⟩
end Go.Proofs.Ytbjilpemckoioaa

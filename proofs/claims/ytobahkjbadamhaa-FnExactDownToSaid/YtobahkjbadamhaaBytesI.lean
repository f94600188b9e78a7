/- The bytes of what begins at a node: bytes of the program. -/
import Derived.Test.YtobahkjbadamhaaDecE
import Derived.Test.YtobahkjbadamhaaFits3
import Derived.Test.YtobahkjbadamhaaSubMI
import Derived.Lib.AppendStr
namespace Go.Proofs.Ytobahkjbadamhaa
open Go.RowKit
set_option linter.unusedVariables false
set_option maxRecDepth 100000
/-- 'append(b, s...)' onto bytes of the call's own. -/
theorem wpList_appS {P : Program} {w : World} {ops : Array Oper} {rest : List Oper} {o : Oper} {a : Act} {Q : Exit → Act → World → Prop} (hgd : o.guard = none) (s x : Operand) (t u : TypeId)
    (ho : o.op = .call { callee := .builtin .append, args := #[s, x], argTypes := #[t, u] })
    (base : Nat) (e : TypeId) (i : TypeInfo) (ht : P.underlying t = some (.slice e)) (hu : P.underlying u = some .string) (hi : P.info? e = some i) (hz : i.zero = some (.int .u8 0))
    (hsize : i.size = 1) (hby : i.bytes = 1)
    (v : Value) (n : Nat) (xs : List Value) (hs : a.eval s = v) (hown : w.ownsRow base e 1 v n xs) (str : ByteArray) (hx : a.eval x = .string str)
    (hbytes : n + str.size ≤ 140737488355328) (hbase : base ≤ w.heap.size)
    (h : ∀ v' w', w'.ownsRow base e 1 v' (n + str.size) (xs ++ Lib.strCells str) → w.grownBy w' v.ownBlock → wpList P ops Q rest (a.put o.dst v') w') : wpList P ops Q (o :: rest) a w :=
  wpList_plain hgd fun _ hK => by
    obtain ⟨v', w', hr, h2, h3, h4⟩ := Lib.run_append_own_string (P := P) w base t u o.type e i ht hu hi hz hsize hby v n xs hown str (by unfold maxLen; omega) hbytes hbase
    unfold Oper.wp execOp
    simp only [ho, resolve, invoke, builtin, Sem.run_bind, Sem.run_pure, Result.andThen_ok, List.map_toArray, List.map_cons, List.map_nil, hs, hx, hr]
    exact hK _ _ (h v' w' h2 h3)
theorem takeF {α : Type} (g : α → List UInt8) {l : List α} {k : Nat} (h : k < l.length) : (l.take (k + 1)).flatMap g = (l.take k).flatMap g ++ g l[k] := by
  rw [List.take_succ_eq_append_getElem h, List.flatMap_append]; simp
theorem takeF_len {α : Type} (g : α → List UInt8) (l : List α) (k : Nat) : ((l.take k).flatMap g).length ≤ (l.flatMap g).length := by
  have : l.flatMap g = (l.take k).flatMap g ++ (l.drop k).flatMap g := by rw [← List.flatMap_append, List.take_append_drop]
  rw [this, List.length_append]; omega
theorem OwnB.grew {B : Nat} {w' : World} {v : Value} {xs : List UInt8} {s : ByteArray} {zs : List UInt8} (h : w'.ownsRow B 5 1 v (xs.length + s.size) (xs.map byteV ++ Lib.strCells s)) (hz : zs = xs ++ s.data.toList) : OwnB B w' v zs := by
  subst hz
  exact ⟨own_len (ownsRow_lower h) (by simp [Lib.strCells, byteV]) (by simp), fun k hk => (h.lt k hk).1⟩
theorem varint_q (n : Nat) (q : Int) (hq : q = (n : Int)) (v : Value) (xs : List UInt8) (w : World) (B : Nat) (hn : n < 4611686018427387904) (hown : OwnB B w v xs) (hl : xs.length ≤ 1000000000000) (hB : B ≤ w.heap.size) :
    Calls Try.prog 141 #[v, .int .i64 q] w (fun e w' => ∃ v', e = .returned v' ∧ OwnB B w' v' (xs ++ varB n) ∧ w.grownBy w' v.ownBlock ∧ FR w v v') := by
  subst hq; exact varint_o n v xs w B hn hown hl hB
theorem mkS_dl (l : List UInt8) : (mkS l).data.toList = l := by simp
theorem leaf_top {o mo : Int} {v : K} (h : leafB o mo v = true) : v.must = false := by
  cases hv : v.must with
  | false => rfl
  | true => rw [leafB, hv] at h; simp at h
def BytesPost (s : List UInt8) (e0 : Nat) (w : World) (e : Ending) (w' : World) : Prop := e = .returned (.tuple #[.string (mkS s), .int .i64 (e0 : Nat)]) ∧ Below w.heap.size w w'
set_option maxHeartbeats 6400000 in
theorem bytes_i (l : List DNode) (b1 o1 c : Nat) (hl : l.length ≤ 1000000) (t : K) : ∀ (v : K) (a e : Nat) (vt : Value) (w : World) (lo hi : Nat), hi ≤ w.heap.size → rightK t → countK t ≤ 1000000 → countK v ≤ 1000 → fitsB t v = true → enc (trees l) v a e → Stuck (trees l) a e → Cells w b1 o1 5 (l.map DNode.enc) → RepP w lo hi t vt →
    Calls Try.prog 121 #[vt, .slice (some ⟨b1, o1, none⟩) l.length c, .int .i64 a] w (BytesPost (encB t v) e w) := by
  refine K.ind2 (P := fun t => ∀ (v : K) (a e : Nat) (vt : Value) (w : World) (lo hi : Nat), hi ≤ w.heap.size → rightK t → countK t ≤ 1000000 → countK v ≤ 1000 → fitsB t v = true → enc (trees l) v a e → Stuck (trees l) a e → Cells w b1 o1 5 (l.map DNode.enc) → RepP w lo hi t vt →
    Calls Try.prog 121 #[vt, .slice (some ⟨b1, o1, none⟩) l.length c, .int .i64 a] w (BytesPost (encB t v) e w)) ?_ t
  intro t ih v a e vt w lo hi hh hr hct hcv hft hE hSt hC hR
  have ih := hd ih
  obtain ⟨hal, g0, g1, g2, g3, g4⟩ := encV_top hE
  have halI : (a : Int) < (l.length : Int) := by omega
  have hbd := enc_bd v _ _ hE
  have hel : e ≤ l.length := by have := hbd.2.1; rw [trees_len] at this; exact this
  have hae : a < e := hbd.1
  have hkids := hd (encV_kids hE)
  have hhold := hd (fun (h : v.must = true) => hSt a (Nat.le_refl _) (enc_sp v _ _ hE).1 (encV_holds hE h))
  have hStk := hd hSt
  have hC0 := hd hC
  have hb1 := hC.1
  obtain ⟨f0, f1, f2, f3, f4⟩ := Cells.rowNode l a hal hC
  rw [g0] at f0
  rw [g1] at f1
  rw [g2] at f2
  rw [g3] at f4
  have hpl := len_count t.parts
  have hsz := hd (enc_size t hr v hft hcv)
  have hcz := hd hcv
  rw [countK_eq] at hct
  have hcp := hd (fun p (hp : p ∈ t.parts) => count_part hp)
  have hcvp := hd (fun p (hp : p ∈ v.parts) => (show countK p ≤ 1000 from by have h1 := count_part hp; have h2 := countK_eq v; omega))
  have hrp := hd (fun p (hp : p ∈ t.parts) => right_part hr hp)
  have hkinds := right_holds hr
  have hf4 := hd (fun h4 => fits_parts4 hft h4 hr)
  have hf5 := hd (fun h5 => (show risesK t.parts ∧ foundP t.parts v.parts ∧ ∀ y ∈ t.parts, 1 ≤ y.no ∧ y.no ≤ 30 from ⟨right_rises hr h5, (fits_parts5 hft h5 hr).2.1, fun y hy => ((hr.ok.2.1 y hy).1 h5).2⟩))
  have hz := hd (encB_eq t v)
  have hw1 : IntKind.i64.wrap ((a : Int) + 1) = (a : Int) + 1 := IntWalk.i64_in _ (by omega)
  have hp4 := hd g4
  have hnum := hd (fun (hf : foldB t.of = true) => fits_num hft hf hr)
  have hend := hd (show holdsB t.of = false → e = a + 1 from fun h => by
    rw [fitsB_eq, h, if_neg (by simp)] at hft
    have hv := leaf_top hft
    have hps : v.parts = [] := hp4.out.resolve_left (by rw [hv]; simp)
    have := hkids.out
    rw [hps, encL] at this
    exact this)
  have hmust := hd (show holdsB t.of = true → v.must = true from fun h => by
    rw [fitsB_eq, h, if_pos rfl] at hft
    simp only [Bool.and_eq_true] at hft
    exact hft.1.1.1)
  clear g0 g1 g2 g3 g4 hE hSt hbd hr hft
  obtain ⟨bk, ak, ck, vs, rfl, hbk, c0, c1, c2, c3, c4, c5, hS, hlv, hg⟩ := hR.open
  have cpt := hd (fun no w' (hb : Below w.heap.size w w') => part_i t no bk ck ak vs w' lo hi (Nat.le_trans hh hb.size) (by omega) (keepCell hb c5) (hS.same (Same.below hb hh) (Nat.le_refl _) (Nat.le_refl _)) hlv (fun j h1 h2 => (hg j h1 h2).below hh hb))
  have hg := hd hg
  have hS := hd hS
  clear hR c1 c2 c3 c4
  generalize l[a].up = ux at *
  generalize hzz : encB t v = z at *
  replace hzz := hd hzz
  generalize hto : t.of = o at *
  replace hto := hd hto
  obtain ⟨i0, hi0, hz0, hz1, hz2⟩ := info_parts infoU8
  have Hi := hd hi0; have Hz0 := hd hz0; have Hz1 := hd hz1; have Hz2 := hd hz2
  clear hi0 hz0 hz1 hz2
  have hX := hd (show BoxN (w.alloc (.cells #[.int .i64 v.most, .string v.name, .int .i64 v.no, .int .i64 ux, .bool v.must] 113)) w.heap.size [.int .i64 v.most, .string v.name, .int .i64 v.no, .int .i64 ux, .bool v.must] from BoxN.new w [.int .i64 v.most, .string v.name, .int .i64 v.no, .int .i64 ux, .bool v.must] _)
  have hbW := hd (below_a1 w (a := .cells #[.int .i64 v.most, .string v.name, .int .i64 v.no, .int .i64 ux, .bool v.must] 113))
  have hWz := hd (show (w.alloc (.cells #[.int .i64 v.most, .string v.name, .int .i64 v.no, .int .i64 ux, .bool v.must] 113)).heap.size = w.heap.size + 1 by simp)
  by_cases h2 : o = 2
  · have hres := hd (show Value.string v.name = .string (mkS z) by rw [hz.out, if_pos h2, mkS_toList])
    subst h2
    obtain rfl := hend.out (by decide)
    clear hkinds hz hf4 hf5 hsz
    go_enter Try.func121, Try.ntmps121
    go_upto_region 2 with (fail)
    generalize w.alloc (.cells #[.int .i64 v.most, .string v.name, .int .i64 v.no, .int .i64 ux, .bool v.must] 113) = W at *
    have c0w := c0
    have c0 := keepCell hbW.out c0
    have X0 := hX.out.1 0 _ rfl
    have X1 := hX.out.1 1 _ rfl
    clear f0 f1 f2 f3 f4
    go_wp2_with fail
    go_ret2
    exact ⟨by rw [hres.out]; go_num, hbW.out⟩
  · have h2b : (o == 2) = false := by simpa using h2
    by_cases hfo : foldB o = true
    · have hn := hnum.out hfo
      obtain ⟨m, hm, hm9, hn0, hn1⟩ : ∃ m : Nat, fld v.most = (m : Int) ∧ m ≤ 2000000001 ∧ -1000000000 ≤ v.most ∧ v.most ≤ 1000000000 := by
        simp [numB] at hn
        have : 0 ≤ fld v.most ∧ fld v.most ≤ 2000000001 := by unfold fld; split <;> omega
        obtain ⟨m, hm⟩ := Int.eq_ofNat_of_zero_le this.1
        exact ⟨m, hm, by omega, hn⟩
      have hres := hd (show mkS (varB m) = mkS z by rw [hz.out, if_neg h2, if_pos hfo, hm]; rfl)
      have cfo := hd (fun w => fold_i v.most w (by omega) (by omega))
      rw [hm] at cfo
      obtain rfl := hend.out (by rw [foldB_iff] at hfo; rcases hfo with e | e <;> rw [e] <;> decide)
      have ho13 := foldB_iff.1 hfo
      clear hkinds hz hf4 hf5 hsz hnum hfo hend hmust
      rcases ho13 with rfl | rfl
      · go_enter Try.func121, Try.ntmps121
        go_upto_region 2 with (fail)
        generalize w.alloc (.cells #[.int .i64 v.most, .string v.name, .int .i64 v.no, .int .i64 ux, .bool v.must] 113) = W at *
        have c0w := c0
        have c0 := keepCell hbW.out c0
        have X0 := hX.out.1 0 _ rfl
        have X1 := hX.out.1 1 _ rfl
        clear f0 f1 f2 f3 f4
        go_wp2_with fail
        refine (cfo.out _).mono ?_
        rintro e2 w2 ⟨rfl, rfl⟩
        go_wp2_with fail
        refine (varint_i m (.slice none 0 0) [] _ (by omega) (World.ownsRow_nil _ _ _ _) (by simp)).mono ?_
        rintro e2 w1 ⟨v', rfl, ho, hgb, hfr⟩
        have hcv := run_str_row (P := Try.prog) w1 162 9 5 v' ([] ++ varB m) Try.underlying162 Try.underlying5 Try.underlying9 (rowIs_own ho)
        have hB := hd (hbW.out.next (grownBy_below hgb))
        clear ho hgb hfr
        go_wp2_with fail
        go_ret2
        exact ⟨by rw [hres.out]; go_num, hB.out⟩
      · go_enter Try.func121, Try.ntmps121
        go_upto_region 2 with (fail)
        generalize w.alloc (.cells #[.int .i64 v.most, .string v.name, .int .i64 v.no, .int .i64 ux, .bool v.must] 113) = W at *
        have c0w := c0
        have c0 := keepCell hbW.out c0
        have X0 := hX.out.1 0 _ rfl
        have X1 := hX.out.1 1 _ rfl
        clear f0 f1 f2 f3 f4
        go_wp2_with fail
        refine (cfo.out _).mono ?_
        rintro e2 w2 ⟨rfl, rfl⟩
        go_wp2_with fail
        refine (varint_i m (.slice none 0 0) [] _ (by omega) (World.ownsRow_nil _ _ _ _) (by simp)).mono ?_
        rintro e2 w1 ⟨v', rfl, ho, hgb, hfr⟩
        have hcv := run_str_row (P := Try.prog) w1 162 9 5 v' ([] ++ varB m) Try.underlying162 Try.underlying5 Try.underlying9 (rowIs_own ho)
        have hB := hd (hbW.out.next (grownBy_below hgb))
        clear ho hgb hfr
        go_wp2_with fail
        go_ret2
        exact ⟨by rw [hres.out]; go_num, hB.out⟩
    · have h13 : ¬ o = 1 ∧ ¬ o = 3 := by
        rw [foldB_iff] at hfo; omega
      have h1b : (o == 1) = false := by simpa using h13.1
      have h3b : (o == 3) = false := by simpa using h13.2
      have hun := hd (hhold.out (hmust.out (by rw [holds_iff]; omega)))
      generalize hkv : v.parts = kv at *
      replace hkv := hd hkv
      have hcz2 := hcz.out
      have hzl : z.length ≤ 60000 := by have := hsz.out; omega
      clear hsz
      by_cases ho4 : o = 4
      · obtain ⟨p, hp1, hrp1, hfx⟩ := hf4.out ho4
        replace hz := hd (show z = kv.flatMap (fun x => sized p.of (encB p x)) by rw [hz.out, if_neg h2, if_neg hfo, if_pos ho4, hp1]; simp only [encH_one])
        have hbnd := hd (fun k => Nat.le_trans (takeF_len (fun x => sized p.of (encB p x)) kv k) (by rw [← hz.out]; omega : _ ≤ 60000))
        have hpm : p ∈ t.parts := by rw [hp1]; simp
        have ihp := hd (ih.out p hpm)
        have hcp1 := hcp.out p hpm
        have hgp := hg.out 0 (by rw [hp1]; simp) (by rw [hlv, hp1]; simp)
        rw [show t.parts[0]'(by rw [hp1]; simp) = p by simp [hp1]] at hgp
        rw [hp1, List.length_singleton] at c5 hS hlv
        obtain ⟨bS, oS, rfl, hbS, hcS⟩ := hS.out.at (j := 0) (by omega)
        have hc0 := hcS 0 (by omega)
        rw [Nat.add_zero] at hc0
        obtain ⟨bp, ap, cp, vp, hvp, hbp, p0, p1, p2, p3, p4, p5, _, _, _⟩ := hgp.open
        rw [hvp] at hc0 hgp
        have hgp := hd hgp
        have hfx := hd hfx
        subst ho4
        clear hvp hcS p1 p2 p3 p4 p5 hp1 hpm h2 hfo h13 hf4 hf5 hcp hrp hg hkinds hnum hend hmust hhold hlv cpt
        go_enter Try.func121, Try.ntmps121
        go_upto_region 2 with (fail)
        generalize w.alloc (.cells #[.int .i64 v.most, .string v.name, .int .i64 v.no, .int .i64 ux, .bool v.must] 113) = W at *
        have c0w := c0
        have c0 := keepCell hbW.out c0
        have X0 := hX.out.1 0 _ rfl
        have X1 := hX.out.1 1 _ rfl
        clear f0 f1 f2 f3 f4
        go_wp2_with fail
        go_loopw [9, 10] (fun s nd wr => ∃ (j ej : Nat), nd = .int .i64 ej ∧ j ≤ kv.length ∧ (a < ej ∧ ej ≤ e) ∧ Hd (encL (trees l) (kv.drop j) a ej e) ∧ Hd (OwnB w.heap.size wr s ((kv.take j).flatMap (fun x => sized p.of (encB p x)))) ∧ Hd (Below w.heap.size w wr)) (fun _ nd _ => e - (intOf nd).toNat)
        case atStart => exact ⟨0, a + 1, by go_num, Nat.zero_le _, by omega, by rw [List.drop_zero]; exact hkids.out, ⟨World.ownsRow_made _ #[] 0 (Nat.zero_le _) (Nat.zero_le _) rfl, fun k hk => by cases hk; have := hWz.out; dsimp only; omega⟩, hbW.out.next (below_a1 _)⟩
        case round =>
          obtain ⟨j, ej, rfl, hj, ⟨haj, hje⟩, hLj, hOw, hbl⟩ := hrel
          obtain ⟨wo, rfl⟩ : ∃ wo : World, wo = wr := ⟨_, rfl⟩
          have hCo := hd (hC0.out.mono hbl.out)
          have k0 := keepCell hbl.out c0w
          have hzo := hbl.out.size
          by_cases hlt : j < kv.length
          · have hLd := hLj.out
            rw [drop_cons hlt, encL] at hLd
            obtain ⟨e1, hu, h1, h2⟩ := hLd
            obtain ⟨hb1', hb2', _⟩ := enc_bd _ _ _ h1
            rw [trees_len] at hb2'
            have hel1 : ej < l.length := by omega
            have helI : (ej : Int) < (l.length : Int) := by omega
            obtain ⟨_, m0, m1, m2, m3, m4⟩ := encV_top h1
            obtain ⟨y0, y1, y2, y3, y4⟩ := Cells.rowNode l ej hel1 hCo.out
            rw [m2] at y2
            rw [UN_at hel1] at hu
            rw [hu] at y3
            have he1 : e1 ≤ e := (encL_bd' h2 (by omega) (by rw [trees_len]; exact hb2')).1
            have h2' := hd h2
            have hxm : kv[j] ∈ kv := List.getElem_mem hlt
            have hxc := hcvp.out kv[j] hxm
            have hst := hd (takeF (fun x => sized p.of (encB p x)) hlt)
            have hb0 := hbnd.out j
            have hb1x := hbnd.out (j + 1)
            have hol := hd hOw.out
            have hxf := (hfx.out kv[j] hxm).2
            have cf := hd (fun w' (hb : Below w.heap.size w w') => ihp.out kv[j] ej e1 _ w' lo hi (by have := hb.size; omega) hrp1 (by omega) hxc hxf h1 (hStk.out.part h1 h2 haj) (hC0.out.mono hb) (hgp.out.below hh hb))
            have hsx := hd (enc_size p hrp1 kv[j] hxf hxc)
            have kc := keepCell hbl.out hc0
            have k5 := keepCell hbl.out c5
            have kp := keepCell hbl.out p0
            clear hu h1 h2 y0 y1 y4 m0 m1 m2 m3 m4 hxm hxf
            generalize encB p kv[j] = d at *
            generalize kv[j] = x at *
            have cfk := hd (fun w c0 => fieldKind_b p.of bp w c0)
            cases hpf : foldB p.of with
            | true =>
              have hkN : kindN p.of = 0 := by unfold kindN; rw [hpf]; rfl
              rw [hkN] at cfk
              have hsd := hd (show sized p.of d = d by rw [sized, hpf]; simp)
              have hsl : d.length ≤ 60000 := by
                have h9 := hst.out
                rw [h9, List.length_append, hsd.out] at hb1x
                omega
              have hfin := hd (show (kv.take (j + 1)).flatMap (fun x => sized p.of (encB p x)) = ((kv.take j).flatMap (fun x => sized p.of (encB p x))) ++ d by rw [hst.out, hsd.out])
              have hb0 := hd hb0
              have hys : ((kv.take j).flatMap (fun x => sized p.of (encB p x))).length ≤ 60000 := hb0.out
              have hmd := mkS_size d
              clear hst hb1x hpf hkN hsd
              generalize (kv.take j).flatMap (fun x => sized p.of (encB p x)) = ys at *
              generalize hzs : (kv.take (j + 1)).flatMap (fun x => sized p.of (encB p x)) = zs at *
              replace hzs := hd hzs
              have hbl2 := hd hbl.out
              go_wp2_with fail
              refine (cf.out _ hbl.out).mono ?_
              rintro e2 w3 ⟨rfl, hb3⟩
              have r0 := keepCell hb3 k0
              have rp := keepCell hb3 kp
              have hbl3 := hd (hbl.out.next hb3)
              have hol := hd (hol.out.below hb3)
              clear hb3 k0 kp kc k5 y2 y3
              have hxl : ys.length ≤ 60010 := by omega
              go_wp2_with fail
              refine (cfk.out _ rp).mono ?_
              rintro e2 w4 ⟨rfl, rfl⟩
              go_wp2_with (at_builtin; refine wpList_appS rfl (.tmp 104) (.tmp 105) 162 9 rfl w.heap.size 5 i0 Try.underlying162 Try.underlying9 Hi.out Hz0.out Hz1.out Hz2.out _ _ _ rfl (hol.out.1.raise hol.out.2) (mkS d) rfl (by omega) hbl3.out.size ?_; intro v8 w8 ho8 hg8; have hbl8 := hd (hbl3.out.grown hg8 hbl3.out.size (fun k hk => hol.out.2 k hk)); have hoz := hd (OwnB.grew (zs := zs) ho8 (by rw [hfin.out, mkS_dl])); clear ho8 hg8)
              go_roundw
              case rel => exact ⟨j + 1, e1, by go_num, by omega, ⟨by omega, he1⟩, h2', by rw [hzs.out]; exact hoz.out, hbl8⟩
              case measure => simp [intOf]; omega
            | false =>
              have hkN : kindN p.of = 2 := by unfold kindN; rw [hpf]; rfl
              rw [hkN] at cfk
              have hsd := hd (show sized p.of d = varB d.length ++ d by rw [sized, hpf]; simp)
              have hsl : (sized p.of d).length ≤ 60000 := by
                have h9 := hst.out
                rw [h9, List.length_append] at hb1x
                omega
              rw [hsd.out, List.length_append] at hsl
              have hml := varB_len10 d.length (by omega)
              have hfin := hd (show (kv.take (j + 1)).flatMap (fun x => sized p.of (encB p x)) = ((kv.take j).flatMap (fun x => sized p.of (encB p x)) ++ varB d.length) ++ d by rw [hst.out, hsd.out]; simp)
              have hb0 := hd hb0
              have hys : ((kv.take j).flatMap (fun x => sized p.of (encB p x))).length ≤ 60000 := hb0.out
              have hmd := mkS_size d
              clear hst hb1x hpf hkN hsd
              generalize (kv.take j).flatMap (fun x => sized p.of (encB p x)) = ys at *
              generalize hzs : (kv.take (j + 1)).flatMap (fun x => sized p.of (encB p x)) = zs at *
              replace hzs := hd hzs
              have hbl2 := hd hbl.out
              go_wp2_with fail
              refine (cf.out _ hbl.out).mono ?_
              rintro e2 w3 ⟨rfl, hb3⟩
              have r0 := keepCell hb3 k0
              have rp := keepCell hb3 kp
              have hbl3 := hd (hbl.out.next hb3)
              have hol := hd (hol.out.below hb3)
              clear hb3 k0 kp kc k5 y2 y3
              have hxl : ys.length ≤ 60010 := by omega
              go_wp2_with fail
              refine (cfk.out _ rp).mono ?_
              rintro e2 w4 ⟨rfl, rfl⟩
              have hcd : ((mkS d).size : Int) = (d.length : Int) := by omega
              have hdl : d.length < 4611686018427387904 := by omega
              go_wp2_with fail
              refine (varint_q d.length _ (by first | exact hcd | omega) _ ys _ w.heap.size hdl hol.out (by omega) hbl3.out.size).mono ?_
              rintro e2 w7 ⟨v7, rfl, ho7, hg7, hf7⟩
              have hbl7 := hd (hbl3.out.grown hg7 hbl3.out.size (fun k hk => hol.out.2 k hk))
              have hol := hd ho7
              have hxl2 : (ys ++ varB d.length).length ≤ 60020 := by rw [List.length_append]; omega
              clear ho7 hg7 hf7
              generalize ys ++ varB d.length = ys3 at *
              go_wp2_with (at_builtin; refine wpList_appS rfl (.tmp 104) (.tmp 105) 162 9 rfl w.heap.size 5 i0 Try.underlying162 Try.underlying9 Hi.out Hz0.out Hz1.out Hz2.out _ _ _ rfl (hol.out.1.raise hol.out.2) (mkS d) rfl (by omega) hbl7.out.size ?_; intro v8 w8 ho8 hg8; have hbl8 := hd (hbl7.out.grown hg8 hbl7.out.size (fun k hk => hol.out.2 k hk)); have hoz := hd (OwnB.grew (zs := zs) ho8 (by rw [hfin.out, mkS_dl])); clear ho8 hg8)
              go_roundw
              case rel => exact ⟨j + 1, e1, by go_num, by omega, ⟨by omega, he1⟩, h2', by rw [hzs.out]; exact hoz.out, hbl8⟩
              case measure => simp [intOf]; omega
          · obtain rfl : j = kv.length := by omega
            have hej : e = ej := by have := hLj.out; rw [List.drop_length, encL] at this; exact this
            subst hej
            have hfin := hd (show (kv.take kv.length).flatMap (fun x => sized p.of (encB p x)) = z by rw [hz.out, List.take_length])
            rw [hfin.out] at hOw
            have hcv := run_str_row (P := Try.prog) wo 162 9 5 _ z Try.underlying162 Try.underlying5 Try.underlying9 (rowIs_own hOw.out.1)
            by_cases hel2 : e < l.length
            · have helI : (e : Int) < (l.length : Int) := by omega
              obtain ⟨y0, y1, y2, y3, y4⟩ := Cells.rowNode l e hel2 hCo.out
              have hne : (l[e].up == (a : Int)) = false := by
                have := hun.out
                rw [UN_at hel2] at this
                simpa using this
              clear y0 y1 y2 y4
              generalize l[e].up = ue at *
              go_wp2_with fail
              go_ret2
              exact ⟨rfl, hbl.out⟩
            · have helI : ¬ (e : Int) < (l.length : Int) := by omega
              go_wp2_with fail
              go_ret2
              exact ⟨rfl, hbl.out⟩
      · have h5' : o = 5 := by omega
        obtain ⟨hri, hfd, hnos⟩ := hf5.out h5'
        replace hz := hd (show z = kv.flatMap (fun x => encL1 t.parts x) by rw [hz.out, if_neg h2, if_neg hfo, if_neg ho4])
        have hbnd := hd (fun k => Nat.le_trans (takeF_len (fun x => encL1 t.parts x) kv k) (by rw [← hz.out]; omega : _ ≤ 60000))
        have hri := hd hri
        have hfd := hd hfd
        have hnos := hd hnos
        subst h5'
        clear h2 hfo h13 hf4 hf5 hkinds hnum hend hmust hhold ho4
        go_enter Try.func121, Try.ntmps121
        go_upto_region 2 with (fail)
        generalize w.alloc (.cells #[.int .i64 v.most, .string v.name, .int .i64 v.no, .int .i64 ux, .bool v.must] 113) = W at *
        have c0w := c0
        have c0 := keepCell hbW.out c0
        have X0 := hX.out.1 0 _ rfl
        have X1 := hX.out.1 1 _ rfl
        clear f0 f1 f2 f3 f4
        go_wp2_with fail
        go_loopw [9, 10] (fun s nd wr => ∃ (j ej : Nat), nd = .int .i64 ej ∧ j ≤ kv.length ∧ (a < ej ∧ ej ≤ e) ∧ Hd (encL (trees l) (kv.drop j) a ej e) ∧ Hd (OwnB w.heap.size wr s ((kv.take j).flatMap (fun x => encL1 t.parts x))) ∧ Hd (Below w.heap.size w wr)) (fun _ nd _ => e - (intOf nd).toNat)
        case atStart => exact ⟨0, a + 1, by go_num, Nat.zero_le _, by omega, by rw [List.drop_zero]; exact hkids.out, ⟨World.ownsRow_made _ #[] 0 (Nat.zero_le _) (Nat.zero_le _) rfl, fun k hk => by cases hk; have := hWz.out; dsimp only; omega⟩, hbW.out.next (below_a1 _)⟩
        case round =>
          obtain ⟨j, ej, rfl, hj, ⟨haj, hje⟩, hLj, hOw, hbl⟩ := hrel
          obtain ⟨wo, rfl⟩ : ∃ wo : World, wo = wr := ⟨_, rfl⟩
          have hCo := hd (hC0.out.mono hbl.out)
          have k0 := keepCell hbl.out c0w
          have hzo := hbl.out.size
          by_cases hlt : j < kv.length
          · have hLd := hLj.out
            rw [drop_cons hlt, encL] at hLd
            obtain ⟨e1, hu, h1, h2⟩ := hLd
            obtain ⟨hb1', hb2', _⟩ := enc_bd _ _ _ h1
            rw [trees_len] at hb2'
            have hel1 : ej < l.length := by omega
            have helI : (ej : Int) < (l.length : Int) := by omega
            obtain ⟨_, m0, m1, m2, m3, m4⟩ := encV_top h1
            obtain ⟨y0, y1, y2, y3, y4⟩ := Cells.rowNode l ej hel1 hCo.out
            rw [m2] at y2
            rw [UN_at hel1] at hu
            rw [hu] at y3
            have he1 : e1 ≤ e := (encL_bd' h2 (by omega) (by rw [trees_len]; exact hb2')).1
            have h2' := hd h2
            have hxm : kv[j] ∈ kv := List.getElem_mem hlt
            have hxc := hcvp.out kv[j] hxm
            have hst := hd (takeF (fun x => encL1 t.parts x) hlt)
            have hb0 := hbnd.out j
            have hb1x := hbnd.out (j + 1)
            have hol := hd hOw.out
            obtain ⟨i, hf, hxf⟩ := found_at hfd.out hri.out hxm
            have hii := hf.1
            have hpm : t.parts[i] ∈ t.parts := List.getElem_mem hii
            have hyno := hnos.out _ hpm
            have hrp1 := hrp.out _ hpm
            have hcp1 := hcp.out _ hpm
            have hxno : kv[j].no = (t.parts[i]).no := hf.2.1.symm
            have hgp := hg.out i hii (by omega)
            obtain ⟨bS, oS, rfl, hbS, hcS⟩ := hS.out.at (j := 0) (by omega)
            have hc0 := hcS 0 (by omega)
            rw [Nat.add_zero] at hc0
            obtain ⟨bp, ap, cp, vp, hvp, hbp, p0, p1, p2, p3, p4, p5, _, _, _⟩ := hgp.open
            have hgpv := hgp
            rw [hvp] at hgpv
            have he1x := hd (encL1_first hf)
            have cf := hd (fun w' (hb : Below w.heap.size w w') => ih.out _ hpm kv[j] ej e1 _ w' lo hi (by have := hb.size; omega) hrp1 (by omega) hxc hxf h1 (hStk.out.part h1 h2 haj) (hC0.out.mono hb) (hgpv.below hh hb))
            have hnum := hd (fun (hf : foldB (t.parts[i]).of = true) => fits_num hxf hf hrp1)
            have hsx := hd (enc_size _ hrp1 kv[j] hxf hxc)
            have cpo := hd (cpt.out kv[j].no wo hbl.out)
            have hf := hd hf
            have kc := keepCell hbl.out hc0
            have k5 := keepCell hbl.out c5
            have kp := keepCell hbl.out p0
            have hvp := hd hvp
            have hm2 : ∃ m : Nat, 8 * kv[j].no + kindN (t.parts[i]).of = (m : Int) ∧ m ≤ 300 := by
              have : 0 ≤ kindN (t.parts[i]).of ∧ kindN (t.parts[i]).of ≤ 2 := by unfold kindN; split <;> omega
              obtain ⟨m, hm⟩ := Int.eq_ofNat_of_zero_le (show 0 ≤ 8 * kv[j].no + kindN (t.parts[i]).of by omega)
              exact ⟨m, hm, by omega⟩
            obtain ⟨mt, hmt, hmt9⟩ := hm2
            have htag := hd (show tagB (t.parts[i]).of (t.parts[i]).no = varB mt by rw [tagB, ← hxno, hmt]; rfl)
            have hno : 1 ≤ kv[j].no ∧ kv[j].no ≤ 30 := by omega
            have hml0 := varB_len10 mt (by omega)
            clear hu h1 h2 y0 y1 y4 m0 m1 m2 m3 m4 hxm hcS p0 p1 p2 p3 p4 p5 hpm hrp1 hxf hgp hgpv hc0
            generalize encB (t.parts[i]) kv[j] = d at *
            generalize hyy : t.parts[i] = p at *
            replace hyy := hd hyy
            replace hmt := hd hmt
            replace hxno := hd hxno
            generalize kv[j] = x at *
            have cfk := hd (fun w c0 => fieldKind_b p.of bp w c0)
            have hkb : kindN p.of = 0 ∨ kindN p.of = 2 := by unfold kindN; split <;> simp
            cases hpf : foldB p.of with
            | true =>
              have hkN : kindN p.of = 0 := by unfold kindN; rw [hpf]; rfl
              rw [hkN] at cfk
              rw [hkN] at hmt
              have hsd := hd (show sized p.of d = d by rw [sized, hpf]; simp)
              have hsl : d.length ≤ 60000 := by
                have h9 := hst.out
                rw [he1x.out] at h9
                rw [h9, List.length_append, List.length_append, hsd.out] at hb1x
                omega
              have hfin := hd (show (kv.take (j + 1)).flatMap (fun x => encL1 t.parts x) = (((kv.take j).flatMap (fun x => encL1 t.parts x) ++ varB mt)) ++ d by rw [hst.out, he1x.out, htag.out, hsd.out]; simp)
              have hb0 := hd hb0
              have hys : ((kv.take j).flatMap (fun x => encL1 t.parts x)).length ≤ 60000 := hb0.out
              have hmd := mkS_size d
              clear hst hb1x hpf hkN hsd he1x htag hkb
              generalize (kv.take j).flatMap (fun x => encL1 t.parts x) = ys at *
              generalize hzs : (kv.take (j + 1)).flatMap (fun x => encL1 t.parts x) = zs at *
              replace hzs := hd hzs
              have hbl2 := hd hbl.out
              go_wp2_with fail
              refine cpo.out.mono ?_
              rintro e2 w2 ⟨hp1, _, hb2⟩
              obtain ⟨_, rfl⟩ := hp1 i hf.out
              rw [hvp.out]
              have q0 := keepCell hb2 k0
              have q2 := keepCell hb2 y2
              have qp := keepCell hb2 kp
              have hbl2 := hd (hbl.out.next hb2)
              have hol := hd (hol.out.below hb2)
              clear hp1 hb2 k0 y2 y3 kp kc k5
              go_wp2_with fail
              refine (cf.out _ hbl2.out).mono ?_
              rintro e2 w3 ⟨rfl, hb3⟩
              have r0 := keepCell hb3 q0
              have rp := keepCell hb3 qp
              have hbl3 := hd (hbl2.out.next hb3)
              have hol := hd (hol.out.below hb3)
              clear hb3 q0 qp q2
              go_wp2_with fail
              refine (cfk.out _ rp).mono ?_
              rintro e2 w4 ⟨rfl, rfl⟩
              have h8 : IntKind.i64.wrap (8 * x.no) = 8 * x.no := IntWalk.i64_in _ (by omega)
              have h9 : IntKind.i64.wrap (8 * x.no + 0) = 8 * x.no + 0 := IntWalk.i64_in _ (by omega)
              go_wp2_with fail
              refine (varint_q mt _ (by first | exact hmt.out | (have := hmt.out; omega)) _ ys _ w.heap.size (by omega) hol.out (by omega) hbl3.out.size).mono ?_
              rintro e2 w5 ⟨v5, rfl, ho5, hg5, hf5⟩
              have hbl5 := hd (hbl3.out.grown hg5 hbl3.out.size (fun k hk => hol.out.2 k hk))
              have sp := hbl5.out
              clear sp
              have up := hg5.cell rp (fun e => by have := hol.out.2 bp e.symm; omega)
              have hol := hd ho5
              have hxl : (ys ++ varB mt).length ≤ 60010 := by rw [List.length_append]; omega
              clear ho5 hg5 hf5 rp r0
              generalize ys ++ varB mt = ys2 at *
              go_wp2_with fail
              refine (cfk.out _ up).mono ?_
              rintro e2 w6 ⟨rfl, rfl⟩
              go_wp2_with (at_builtin; refine wpList_appS rfl (.tmp 104) (.tmp 105) 162 9 rfl w.heap.size 5 i0 Try.underlying162 Try.underlying9 Hi.out Hz0.out Hz1.out Hz2.out _ _ _ rfl (hol.out.1.raise hol.out.2) (mkS d) rfl (by omega) hbl5.out.size ?_; intro v8 w8 ho8 hg8; have hbl8 := hd (hbl5.out.grown hg8 hbl5.out.size (fun k hk => hol.out.2 k hk)); have hoz := hd (OwnB.grew (zs := zs) ho8 (by rw [hfin.out, mkS_dl])); clear ho8 hg8)
              go_roundw
              case rel => exact ⟨j + 1, e1, by go_num, by omega, ⟨by omega, he1⟩, h2', by rw [hzs.out]; exact hoz.out, hbl8⟩
              case measure => simp [intOf]; omega
            | false =>
              have hkN : kindN p.of = 2 := by unfold kindN; rw [hpf]; rfl
              rw [hkN] at cfk
              rw [hkN] at hmt
              have hsd := hd (show sized p.of d = varB d.length ++ d by rw [sized, hpf]; simp)
              have hsl : (sized p.of d).length ≤ 60000 := by
                have h9 := hst.out
                rw [he1x.out] at h9
                rw [h9, List.length_append, List.length_append] at hb1x
                omega
              rw [hsd.out, List.length_append] at hsl
              have hml := varB_len10 d.length (by omega)
              have hfin := hd (show (kv.take (j + 1)).flatMap (fun x => encL1 t.parts x) = (((kv.take j).flatMap (fun x => encL1 t.parts x) ++ varB mt) ++ varB d.length) ++ d by rw [hst.out, he1x.out, htag.out, hsd.out]; simp)
              have hb0 := hd hb0
              have hys : ((kv.take j).flatMap (fun x => encL1 t.parts x)).length ≤ 60000 := hb0.out
              have hmd := mkS_size d
              clear hst hb1x hpf hkN hsd he1x htag hkb
              generalize (kv.take j).flatMap (fun x => encL1 t.parts x) = ys at *
              generalize hzs : (kv.take (j + 1)).flatMap (fun x => encL1 t.parts x) = zs at *
              replace hzs := hd hzs
              have hbl2 := hd hbl.out
              go_wp2_with fail
              refine cpo.out.mono ?_
              rintro e2 w2 ⟨hp1, _, hb2⟩
              obtain ⟨_, rfl⟩ := hp1 i hf.out
              rw [hvp.out]
              have q0 := keepCell hb2 k0
              have q2 := keepCell hb2 y2
              have qp := keepCell hb2 kp
              have hbl2 := hd (hbl.out.next hb2)
              have hol := hd (hol.out.below hb2)
              clear hp1 hb2 k0 y2 y3 kp kc k5
              go_wp2_with fail
              refine (cf.out _ hbl2.out).mono ?_
              rintro e2 w3 ⟨rfl, hb3⟩
              have r0 := keepCell hb3 q0
              have rp := keepCell hb3 qp
              have hbl3 := hd (hbl2.out.next hb3)
              have hol := hd (hol.out.below hb3)
              clear hb3 q0 qp q2
              go_wp2_with fail
              refine (cfk.out _ rp).mono ?_
              rintro e2 w4 ⟨rfl, rfl⟩
              have h8 : IntKind.i64.wrap (8 * x.no) = 8 * x.no := IntWalk.i64_in _ (by omega)
              have h9 : IntKind.i64.wrap (8 * x.no + 2) = 8 * x.no + 2 := IntWalk.i64_in _ (by omega)
              go_wp2_with fail
              refine (varint_q mt _ (by first | exact hmt.out | (have := hmt.out; omega)) _ ys _ w.heap.size (by omega) hol.out (by omega) hbl3.out.size).mono ?_
              rintro e2 w5 ⟨v5, rfl, ho5, hg5, hf5⟩
              have hbl5 := hd (hbl3.out.grown hg5 hbl3.out.size (fun k hk => hol.out.2 k hk))
              have sp := hbl5.out
              clear sp
              have up := hg5.cell rp (fun e => by have := hol.out.2 bp e.symm; omega)
              have hol := hd ho5
              have hxl : (ys ++ varB mt).length ≤ 60010 := by rw [List.length_append]; omega
              clear ho5 hg5 hf5 rp r0
              generalize ys ++ varB mt = ys2 at *
              go_wp2_with fail
              refine (cfk.out _ up).mono ?_
              rintro e2 w6 ⟨rfl, rfl⟩
              have hcd : ((mkS d).size : Int) = (d.length : Int) := by omega
              have hdl : d.length < 4611686018427387904 := by omega
              go_wp2_with fail
              refine (varint_q d.length _ (by first | exact hcd | omega) _ ys2 _ w.heap.size hdl hol.out (by omega) hbl5.out.size).mono ?_
              rintro e2 w7 ⟨v7, rfl, ho7, hg7, hf7⟩
              have hbl7 := hd (hbl5.out.grown hg7 hbl5.out.size (fun k hk => hol.out.2 k hk))
              have hol := hd ho7
              have hxl2 : (ys2 ++ varB d.length).length ≤ 60020 := by rw [List.length_append]; omega
              clear ho7 hg7 hf7
              generalize ys2 ++ varB d.length = ys3 at *
              go_wp2_with (at_builtin; refine wpList_appS rfl (.tmp 104) (.tmp 105) 162 9 rfl w.heap.size 5 i0 Try.underlying162 Try.underlying9 Hi.out Hz0.out Hz1.out Hz2.out _ _ _ rfl (hol.out.1.raise hol.out.2) (mkS d) rfl (by omega) hbl7.out.size ?_; intro v8 w8 ho8 hg8; have hbl8 := hd (hbl7.out.grown hg8 hbl7.out.size (fun k hk => hol.out.2 k hk)); have hoz := hd (OwnB.grew (zs := zs) ho8 (by rw [hfin.out, mkS_dl])); clear ho8 hg8)
              go_roundw
              case rel => exact ⟨j + 1, e1, by go_num, by omega, ⟨by omega, he1⟩, h2', by rw [hzs.out]; exact hoz.out, hbl8⟩
              case measure => simp [intOf]; omega
          · obtain rfl : j = kv.length := by omega
            have hej : e = ej := by have := hLj.out; rw [List.drop_length, encL] at this; exact this
            subst hej
            have hfin := hd (show (kv.take kv.length).flatMap (fun x => encL1 t.parts x) = z by rw [hz.out, List.take_length])
            rw [hfin.out] at hOw
            have hcv := run_str_row (P := Try.prog) wo 162 9 5 _ z Try.underlying162 Try.underlying5 Try.underlying9 (rowIs_own hOw.out.1)
            by_cases hel2 : e < l.length
            · have helI : (e : Int) < (l.length : Int) := by omega
              obtain ⟨y0, y1, y2, y3, y4⟩ := Cells.rowNode l e hel2 hCo.out
              have hne : (l[e].up == (a : Int)) = false := by
                have := hun.out
                rw [UN_at hel2] at this
                simpa using this
              clear y0 y1 y2 y4
              generalize l[e].up = ue at *
              go_wp2_with fail
              go_ret2
              exact ⟨rfl, hbl.out⟩
            · have helI : ¬ (e : Int) < (l.length : Int) := by omega
              go_wp2_with fail
              go_ret2
              exact ⟨rfl, hbl.out⟩
end Go.Proofs.Ytobahkjbadamhaa

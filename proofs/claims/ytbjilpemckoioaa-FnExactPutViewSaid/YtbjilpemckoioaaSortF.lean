/- SortFields of the program. -/
import Derived.Test.YtbjilpemckoioaaSortW
import Derived.Test.YtbjilpemckoioaaSortS
import Derived.Test.YtbjilpemckoioaaReads
import Derived.Lib.Small
namespace Go.Proofs.Ytbjilpemckoioaa
open Go.RowKit Go.Sort Go.Proofs
set_option linter.unusedVariables false
set_option maxRecDepth 100000
theorem cmpInt_i (x y : Int) (w : World) : Calls Try.prog 95 #[.int .i64 x, .int .i64 y] w (fun e w' => e = .returned (.int .i64 (Lib.compareInt x y)) ∧ w' = w) := by
  have hr := hd (show Lib.compareInt x y = if x < y then -1 else if x > y then 1 else 0 from rfl)
  generalize Lib.compareInt x y = r at *
  by_cases h1 : x < y
  · replace hr := hd (show r = -1 by rw [hr.out, if_pos h1])
    go_enter Try.func95, Try.ntmps95
    go_wp2
    go_ret
    exact ⟨by rw [hr.out]; rfl, rfl⟩
  · by_cases h2 : y < x
    · replace hr := hd (show r = 1 by rw [hr.out, if_neg h1, if_pos h2])
      go_enter Try.func95, Try.ntmps95
      go_wp2
      go_ret
      exact ⟨by rw [hr.out]; rfl, rfl⟩
    · replace hr := hd (show r = 0 by rw [hr.out, if_neg h1, if_neg h2])
      go_enter Try.func95, Try.ntmps95
      go_wp2
      go_ret
      exact ⟨by rw [hr.out]; rfl, rfl⟩
theorem cmp_lt (x y : Int) : Lib.compareInt x y < 0 ↔ x < y := by
  unfold Lib.compareInt
  by_cases h1 : x < y
  · simp [h1]
  · by_cases h2 : y < x <;> simp [h1, h2]
set_option maxHeartbeats 1000000 in
theorem sortCl (x y : DField) (w : World) : Calls Try.prog 104 #[.agg #[.int .i64 x.no, .int .i64 x.kind, .int .i64 x.num, .string x.data], .agg #[.int .i64 y.no, .int .i64 y.kind, .int .i64 y.num, .string y.data]] w (fun e w' => e = .returned (.int .i64 (Lib.compareInt x.no y.no)) ∧ ∃ q os', w' = grow (w.drewN q) os') := by
  have hcon := hd (fun w' => cmpInt_i x.no y.no w')
  generalize Lib.compareInt x.no y.no = r at hcon ⊢
  go_enter Try.func104, Try.ntmps104
  go_wp2_with (go_at_call 95; refine (hcon.out _).mono ?_; rintro e w' ⟨rfl, rfl⟩)
  go_ret
  exact ⟨rfl, 0, _, by rw [alloc_eq_grow, alloc_eq_grow, grow_grow]; rfl⟩
theorem sortLays (blk off size : Nat) (w : World) : CmpLays Try.prog 104 #[] DField.enc 4 (fun x y => Lib.compareInt x.no y.no) blk off size w :=
  fun _ _ _ _ x y => sortCl x y _

section
variable {α : Type} [Inhabited α]
theorem flatK_eq (enc : α → List Value) (k : Nat) (hk : ∀ x, (enc x).length = k) (l : List α) : (flatK enc k l.toArray).toList = (l.map enc).flatten := by
  have hl : ∀ r ∈ l.map enc, r.length = k := fun r hr => by obtain ⟨x, _, rfl⟩ := List.mem_map.1 hr; exact hk x
  have hz : (flatK enc k l.toArray).size = l.length * k := by simp
  apply List.ext_getElem?
  intro t
  by_cases ht : t < l.length * k
  · have h0 : 0 < k := by
      rcases Nat.eq_zero_or_pos k with h | h
      · subst h; simp at ht
      · exact h
    have hq : t / k < l.length := Nat.div_lt_of_lt_mul (by rw [Nat.mul_comm]; exact ht)
    have hm := Nat.mod_lt t h0
    have e := flatten_at hl (t / k) (enc l[t / k]) (by simp [hq]) (t % k) _ (List.getElem?_eq_getElem (by rw [hk]; exact hm))
    rw [Nat.div_add_mod'] at e
    rw [e, Array.getElem?_toList, Array.getElem?_eq_getElem (by rw [hz]; exact ht)]
    have := get_flatK enc k l.toArray t (by simpa using ht)
    rw [getElem!_pos _ t (by rw [hz]; exact ht)] at this
    rw [this]
    simp [getElem!_pos, hq, hk, hm]
  · rw [List.getElem?_eq_none (by rw [Array.length_toList, hz]; omega), List.getElem?_eq_none (by rw [flatten_len hl, List.length_map]; omega)]
theorem own_holdsK {enc : α → List Value} {k : Nat} (hk : ∀ x, (enc x).length = k) {w : World} {B E g n cap : Nat} {l : List α} (h : Own w B E k (.slice (some ⟨g, 0, none⟩) n cap) (l.map enc)) : HoldsK enc k w g 0 l.toArray := by
  have ho := own_flat h
  intro t ht
  have hz : (flatK enc k l.toArray).size = l.length * k := by simp
  rw [hz] at ht
  rw [List.length_map] at ho
  refine ⟨?_, by rw [Nat.zero_add]; obtain ⟨a, c, hv, _⟩ := h.sl; injection hv with _ hv _; subst hv; rw [List.length_map] at ho; exact ho.frozenAt t⟩
  have hv : n = l.length := by obtain ⟨a, c, hv, _⟩ := h.sl; injection hv with _ hv _; simpa using hv
  subst hv
  rw [Nat.zero_add, ho.cellAt t (by omega), ← flatK_eq enc k hk, Array.getElem?_toList, Array.getElem?_eq_getElem (by rw [hz]; exact ht), getElem!_pos _ t (by rw [hz]; exact ht)]
  rfl
theorem own_sortK {enc : α → List Value} {k : Nat} (hk : ∀ x, (enc x).length = k) {w : World} {B E g n cap m : Nat} {os : Array Obj} {l : List α} {d : Array α} (h : Own w B E k (.slice (some ⟨g, 0, none⟩) n cap) (l.map enc)) (hd : d.size = l.length) : Own (sortWorldK enc k w g 0 m d os) B E k (.slice (some ⟨g, 0, none⟩) n cap) (d.toList.map enc) := by
  have ho := own_flat h
  refine own_mk (fun r hr => by obtain ⟨x, _, rfl⟩ := List.mem_map.1 hr; exact hk x) ?_
  rw [← flatK_eq enc k hk, List.length_map, Array.length_toList, hd]
  rw [List.length_map] at ho
  refine ⟨by simp [hd], ?_⟩
  rcases ho.2 with ⟨e0, _⟩ | ⟨g', cap', cur, e0, h1, h2, h3, h4, h5, h6⟩
  · cases e0
  · cases e0
    have hg : g < w.heap.size := (Array.getElem?_eq_some_iff.1 h2).1
    refine .inr ⟨g, cap, putCells id 0 (flatK enc k d) cur, rfl, h1, ?_, h3, h4, by simp [putCells, h5], ?_⟩
    · unfold sortWorldK putRowK
      rw [heap_grow_old _ _ (by simpa [putRow, mapBlock, Sort.ahead] using hg)]
      simp [putRow, mapBlock, Sort.ahead, Array.getElem?_modify, h2, onCells]
    · apply List.ext_getElem?
      intro j
      have hz : (flatK enc k d).size = l.length * k := by simp [hd]
      have hle : l.length * k ≤ cap * k := Nat.mul_le_mul_right k h3
      by_cases hj : j < l.length * k
      · have hjf : j < (flatK enc k d).size := by rw [hz]; exact hj
        have hjc : j < cur.size := by rw [h5]; omega
        rw [List.getElem?_take_of_lt hj, Array.getElem?_toList, Array.getElem?_toList, Array.getElem?_eq_getElem hjf]
        simp only [putCells, Array.getElem?_mapIdx, Array.getElem?_eq_getElem hjc, Option.map_some]
        rw [if_pos (by rw [hz]; omega), Nat.sub_zero, getElem!_pos _ j hjf]
        rfl
      · rw [List.getElem?_take_eq_none (by omega), List.getElem?_eq_none (by rw [Array.length_toList, hz]; omega)]
theorem below_sortK {enc : α → List Value} {k : Nat} {w w0 : World} {b0 g m : Nat} {os : Array Obj} {d : Array α} (h : Below b0 w0 w) (hg : b0 ≤ g) (hgw : g < w.heap.size) : Below b0 w0 (sortWorldK enc k w g 0 m d os) := by
  refine h.grown (row := some g) ?_ (by omega) (fun j hj => by cases hj; exact hg)
  refine ⟨rfl, rfl, rfl, ?_, fun q hq hne => ?_⟩
  · unfold sortWorldK; rw [size_grow, size_putRowK]; show w.heap.size ≤ w.heap.size + _; omega
  · unfold sortWorldK putRowK
    rw [heap_grow_old _ _ (by simpa [putRow, mapBlock, Sort.ahead] using hq)]
    have : g ≠ q := fun e => hne (by rw [e])
    simp [putRow, mapBlock, Sort.ahead, Array.getElem?_modify, this]
end
theorem field_cells (x : DField) : ∀ v ∈ x.enc, v.oneCell' = true := by
  intro v hv
  simp only [DField.enc, List.mem_cons, List.not_mem_nil, or_false] at hv
  rcases hv with rfl | rfl | rfl | rfl <;> rfl
/-- What the library's stable sort leaves of a slice of the call's own. -/
def SortPost (E : TypeId) (l : List DField) (v : Value) (B b0 : Nat) (w0 : World) (e : Ending) (w' : World) : Prop := e = .returned (.tuple #[]) ∧ Own w' B E 4 v ((sortS fnoF l).map DField.enc) ∧ Below b0 w0 w'
theorem sortNone_i (p : Option Addr) (cap : Nat) (w : World) : Calls Try.prog 103 #[.slice p 0 cap, .func (.func 104) #[] #[]] w (fun e w' => e = .returned (.tuple #[]) ∧ w' = w) := by
  have hi : ∀ w, Calls Try.prog 186 #[.slice p 0 cap, .int .i64 0, .int .i64 0, .func (.func 104) #[] #[]] w (fun e w' => e = .returned (.tuple #[]) ∧ w' = w) := by
    intro w
    go_enter Try.func186, Try.ntmps186
    go_wp2
    refine wp_loop_rounds 1 ?_
    rw [rounds_succ]
    go_wp2
    go_end0
    exact ⟨rfl, rfl⟩
  have hI := hd hi
  have hs : ∀ w, Calls Try.prog 151 #[.slice p 0 cap, .int .i64 0, .func (.func 104) #[] #[]] w (fun e w' => e = .returned (.tuple #[]) ∧ w' = w) := by
    intro w
    clear hi
    go_enter Try.func151, Try.ntmps151
    go_wp2
    refine wp_loop_rounds 1 ?_
    rw [rounds_succ]
    go_wp2_with (go_at_call 186; refine (hI.out _).mono ?_; rintro e w' ⟨rfl, rfl⟩)
    refine wp_loop_rounds 1 ?_
    rw [rounds_succ]
    go_wp2
    go_end0
    exact ⟨rfl, rfl⟩
  have hS := hd hs
  clear hi hI hs
  go_enter Try.func103, Try.ntmps103
  go_wp2_with (go_at_call 151; refine (hS.out _).mono ?_; rintro e w' ⟨rfl, rfl⟩)
  go_end0
  exact ⟨rfl, rfl⟩
theorem sortF_own (l : List DField) (v : Value) (w : World) (B E : Nat) (h40 : l.length ≤ 40) (h : Own w B E 4 v (l.map DField.enc)) (b0 : Nat) (w0 : World) (hb0 : b0 ≤ B) (hb : Below b0 w0 w) :
    Calls Try.prog 103 #[v, .func (.func 104) #[] #[]] w (SortPost E l v B b0 w0) := by
  by_cases hl : l = []
  · subst hl
    obtain ⟨a, c, rfl, _⟩ := h.sl
    refine Calls.mono (sortNone_i a c w) ?_
    rintro e w' ⟨rfl, rfl⟩
    exact ⟨rfl, h, hb⟩
  · obtain ⟨g, c, rfl, hBg, hg⟩ := h.addr (by simpa using hl)
    have hH := own_holdsK (enc := DField.enc) (k := 4) (fun _ => rfl) h
    have eg : ∀ args w, (callFunc 104 args).run Try.prog w = .ok (.enter 104 args) w := enters_of Try.func104 (by kernel_rfl) rfl
    have hc := sortStable_k sl4 DField.enc fnoF (fun x y => Lib.compareInt x.no y.no) (fun x y => cmp_lt x.no y.no) 104 #[] g 0 c l.length l.toArray w eg (sortLays g 0 l.length w) ⟨fun _ => rfl, field_cells, hH, hg⟩ (by simp) h40 l.toArray w (by simp) (SWK.start hH)
    rw [List.length_map] at h ⊢
    refine Calls.mono hc ?_
    rintro e w' ⟨rfl, d, ht, hs, m, os, rfl⟩
    have hz : d.size = l.length := by rw [ht.1]; simp
    have h2 := own_sortK (enc := DField.enc) (k := 4) (m := m) (os := os) (fun _ => rfl) h hz
    have e1 : d.toList = sortS fnoF l := by
      refine sortS_eq (Srt.rise (by rw [hz]; exact hs)) ?_
      have := ht.2.1
      rw [Nat.sub_zero] at this
      rw [show seg l.toArray 0 l.length = l from seg_all l.toArray, show seg d 0 l.length = d.toList by rw [← hz]; exact seg_all d] at this
      exact this
    rw [e1] at h2
    exact ⟨rfl, h2, below_sortK hb (Nat.le_trans hb0 hBg) hg⟩
set_option maxHeartbeats 800000 in
theorem clone_field (l : List DField) (v : Value) (w : World) (hl : l.length ≤ 1000000000) (h : Sl w v 4 (l.map DField.enc)) :
    Calls Try.prog 102 #[v] w (OwnVPost 141 4 (l.map DField.enc) w) := by
  obtain ⟨i0, hi, hz0, hz1, hz2⟩ := info_parts infoField
  have Hi := hd hi; have Hz0 := hd hz0; have Hz1 := hd hz1; have Hz2 := hd hz2
  have hls := hd (DField.enc_len l)
  have hone := hd (DField.enc_one l)
  clear hi hz0 hz1 hz2
  have kn := fun (w : World) (a : Option Addr) (n c : Nat) => Lib.run_eql_slice_nil (P := Try.prog) w 81 141 a n c 0 0 Try.underlying81
  rcases h.open with ⟨a1, c1, rfl, hr⟩ | ⟨b1, o1, c1, rfl, hr, C1⟩
  · obtain rfl : l = [] := by simpa using hr
    cases a1 with
    | none =>
      go_enter Try.func102, Try.ntmps102
      go_wp2_with fail
      go_ret
      exact ⟨_, rfl, Own.nil, Below.refl _ _⟩
    | some a1 =>
      go_enter Try.func102, Try.ntmps102
      go_wp2_with (at_builtin; refine wpList_appOwn rfl (.tmp 5) (.tmp 6) 81 rfl w.heap.size 141 i0 _ 4 40 Try.underlying81 Hi.out Hz0.out Hz1.out Hz2.out rfl (by decide) _ [] [] rfl (own_made w 141 4) a1 0 c1 rfl rfl (by simp) (by simp) (by simp) (by simp) (by decide) (by simp) ?_; intro v2 w2 ho hg hb; replace ho := hd ho; replace hg := hd hg; clear hb)
      go_ret
      exact ⟨_, rfl, ho.out, below_made hg.out (by intro g hg; cases hg; exact Nat.le_refl _)⟩
  · have hC := hd ((C1.mono (below_a1 w (a := .cells #[] 141))).flat hls.out)
    clear h
    simp only [List.length_map]
    go_enter Try.func102, Try.ntmps102
    go_wp2_with (at_builtin; refine wpList_appOwn rfl (.tmp 5) (.tmp 6) 81 rfl w.heap.size 141 i0 _ 4 40 Try.underlying81 Hi.out Hz0.out Hz1.out Hz2.out rfl (by decide) _ [] (l.map DField.enc) rfl (own_made w 141 4) ⟨b1, o1, none⟩ l.length c1 (by rw [List.length_map]) rfl hls.out hC.out hone.out (by simp; omega) (by decide) (by simp) ?_; intro v2 w2 ho hg hb; replace ho := hd ho; replace hg := hd hg; clear hb)
    go_ret
    exact ⟨_, rfl, ho.out, below_made hg.out (by intro g hg; cases hg; exact Nat.le_refl _)⟩
set_option maxHeartbeats 800000 in
theorem SortFields_i (l : List DField) (v : Value) (w : World) (hl : l.length ≤ 1000000000) (h : Sl w v 4 (l.map DField.enc)) (b : Bool) (hb : fieldsB l = b) (r : List DField) (hr : (if b = true then sortS fnoF l else []) = r) :
    Calls Try.prog 47 #[v] w (SlbPost 141 4 (r.map DField.enc) b w) := by
  have c1 := hd (fieldsOK_i l v w (by omega) h b hb)
  cases b with
  | false =>
    have hr := hd hr
    clear hb
    go_enter Try.func47, Try.ntmps47
    go_wp2_with fail
    refine c1.out.mono ?_
    rintro e w1 ⟨rfl, hb1⟩
    replace hb1 := hd hb1
    go_wp2_with fail
    go_ret2
    exact ⟨_, none, rfl, by rw [← hr.out]; exact OwnR.nil, hb1.out⟩
  | true =>
    have hr := hd hr
    have h40 : l.length ≤ 40 := by
      simp only [fieldsB, Bool.and_eq_true, decide_eq_true_eq] at hb
      exact hb.1
    have hS := hd h
    clear hb h
    go_enter Try.func47, Try.ntmps47
    go_wp2_with fail
    refine c1.out.mono ?_
    rintro e w1 ⟨rfl, hb1⟩
    replace hb1 := hd hb1
    go_wp2_with fail
    refine (clone_field l v w1 (by omega) (hS.out.mono hb1.out)).mono ?_
    rintro e w2 ⟨v2, rfl, ho2, hb2⟩
    have hs := hd (sortF_own l v2 w2 w1.heap.size 141 h40 ho2 w.heap.size w hb1.out.size (hb1.out.next hb2))
    have hz := hb1.out.size
    clear ho2 hb2
    go_wp2_with fail
    refine hs.out.mono ?_
    rintro e w3 ⟨rfl, ho3, hb3⟩
    replace ho3 := hd ho3
    replace hb3 := hd hb3
    go_wp2_with fail
    go_ret2
    have hfin := hd (show Own w3 w.heap.size 141 4 v2 (r.map DField.enc) by rw [← hr.out]; exact ho3.out.weaken hz)
    exact ⟨v2, v2.ownBlock, rfl, hfin.out.r, hb3.out⟩
end Go.Proofs.Ytbjilpemckoioaa

/- PutView, of the program and of the reference. -/
import Derived.Test.YtbjilpemckoioaaPutM
import Derived.Test.YtbjilpemckoioaaPutL
import Derived.Test.YtbjilpemckoioaaSortF
import Derived.Shelf.SlSortCmp.NoneTotal
import Derived.Laws.OwnMore
namespace Go.Proofs.Ytbjilpemckoioaa
open Go.RowKit Go.Sort Go.Proofs
set_option linter.unusedVariables false
set_option maxRecDepth 100000
theorem wpList_appNil {P : Program} {w : World} {ops : Array Oper} {rest : List Oper} {o : Oper} {a : Act} {Q : Exit → Act → World → Prop} (hgd : o.guard = none) (s x : Operand) (t : TypeId)
    (ho : o.op = .call { callee := .builtin .append, args := #[s, x], argTypes := #[t, t] })
    (base : Nat) (e : TypeId) (i : TypeInfo) (size : Nat) (ht : P.underlying t = some (.slice e)) (hi : P.info? e = some i)
    (v : Value) (rows : List (List Value)) (hs : a.eval s = v) (hown : Own w base e size v rows) (hx : a.eval x = .slice none 0 0)
    (h : wpList P ops Q rest (a.put o.dst v) w) : wpList P ops Q (o :: rest) a w :=
  wpList_plain hgd fun _ hK => by
    have hr := run_append_owned_none (P := P) (w := w) base t o.type e i size ht hi v rows.length rows.flatten (own_flat hown)
    unfold Oper.wp execOp
    simp only [ho, resolve, invoke, builtin, Sem.run_bind, Sem.run_pure, Result.andThen_ok, List.map_toArray, List.map_cons, List.map_nil, hs, hx, hr]
    exact hK _ _ h
/-- A slice of the call's own put behind another one. -/
theorem wpList_appTwo {P : Program} {w : World} {ops : Array Oper} {rest : List Oper} {o : Oper} {a : Act} {Q : Exit → Act → World → Prop} (hgd : o.guard = none) (s x : Operand) (t : TypeId)
    (ho : o.op = .call { callee := .builtin .append, args := #[s, x], argTypes := #[t, t] })
    (base base2 : Nat) (e : TypeId) (i : TypeInfo) (z : Value) (size bytes : Nat) (ht : P.underlying t = some (.slice e)) (hi : P.info? e = some i) (hz : i.zero = some z)
    (hsize : i.size = size) (hby : i.bytes = bytes) (hzs : z.cells.size = size) (hsz : 0 < size)
    (v vx : Value) (rows rows2 : List (List Value)) (hs : a.eval s = v) (hown : Own w base e size v rows) (hx : a.eval x = vx) (hown2 : Own w base2 e size vx rows2) (h1 : ∀ u ∈ rows2.flatten, u.oneCell' = true)
    (hbytes : (rows.length + rows2.length) * bytes ≤ 140737488355328) (hb0 : 0 < bytes) (hbase : base ≤ w.heap.size)
    (h : ∀ v' w', Own w' base e size v' (rows ++ rows2) → w.grownBy w' v.ownBlock → (v'.ownBlock = v.ownBlock ∨ v'.ownBlock = some w.heap.size) → wpList P ops Q rest (a.put o.dst v') w') : wpList P ops Q (o :: rest) a w := by
  rcases (own_flat hown2).2 with ⟨e0, hn⟩ | ⟨g, cap, cur, e0, _⟩
  · have hr : rows2 = [] := List.eq_nil_of_length_eq_zero hn
    subst hr
    exact wpList_appNil hgd s x t ho base e i size ht hi v rows hs hown (hx.trans e0) (h v w (by simpa using hown) (grownBy_refl _ _) (.inl rfl))
  · subst e0
    have hg : g < w.heap.size := (hown2.lt g rfl).2
    exact wpList_appOwn hgd s x t ho base e i z size bytes ht hi hz hsize hby hzs hsz v rows rows2 hs hown ⟨g, 0, none⟩ rows2.length cap rfl hx hown2.1 ((hown2.cells0 hg).flat hown2.1) h1 hbytes hb0 hbase h
set_option maxHeartbeats 1000000 in
theorem putCl (x y : DPlaced) (w : World) : Calls Try.prog 94 #[.agg #[.int .i64 x.f.no, .int .i64 x.f.kind, .int .i64 x.f.num, .string x.f.data, .int .i64 x.at_], .agg #[.int .i64 y.f.no, .int .i64 y.f.kind, .int .i64 y.f.num, .string y.f.data, .int .i64 y.at_]] w (fun e w' => e = .returned (.int .i64 (Lib.compareInt x.f.no y.f.no)) ∧ ∃ q os', w' = grow (w.drewN q) os') := by
  have hcon := hd (fun w' => cmpInt_i x.f.no y.f.no w')
  generalize Lib.compareInt x.f.no y.f.no = r at hcon ⊢
  go_enter Try.func94, Try.ntmps94
  go_wp2_with (go_at_call 95; refine (hcon.out _).mono ?_; rintro e w' ⟨rfl, rfl⟩)
  go_ret
  exact ⟨rfl, 0, _, by rw [alloc_eq_grow, alloc_eq_grow, grow_grow]; rfl⟩
theorem putLays (blk off size : Nat) (w : World) : CmpLays Try.prog 94 #[] DPlaced.enc 5 (fun x y => Lib.compareInt x.f.no y.f.no) blk off size w :=
  fun _ _ _ _ x y => putCl x y _
theorem placed_cells (x : DPlaced) : ∀ v ∈ x.enc, v.oneCell' = true := by
  intro v hv
  simp only [DPlaced.enc, List.mem_cons, List.not_mem_nil, or_false] at hv
  rcases hv with rfl | rfl | rfl | rfl | rfl <;> rfl
/-- What the library's sort leaves of a slice of placed fields. -/
def SortPPost (E : TypeId) (l : List DPlaced) (v : Value) (B b0 : Nat) (w0 : World) (e : Ending) (w' : World) : Prop := e = .returned (.tuple #[]) ∧ ∃ Q : List DPlaced, l.Perm Q ∧ Q.Pairwise (fun x y => x.f.no ≤ y.f.no) ∧ Own w' B E 5 v (Q.map DPlaced.enc) ∧ Below b0 w0 w'
theorem sortP_own (l : List DPlaced) (v : Value) (w : World) (B E : Nat) (hlen : l.length ≤ 1000) (h : Own w B E 5 v (l.map DPlaced.enc)) (b0 : Nat) (w0 : World) (hb0 : b0 ≤ B) (hb : Below b0 w0 w) :
    Calls Try.prog 93 #[v, .func (.func 94) #[] #[]] w (SortPPost E l v B b0 w0) := by
  by_cases hl : l = []
  · subst hl
    obtain ⟨a, c, rfl, _⟩ := h.sl
    have hn := AnyF.slices_SortFunc_none (P := Try.prog) (ρ := renPut) laysPut a c (.func (.func 94) #[] #[]) w
    refine Calls.mono hn ?_
    rintro e w' ⟨rfl, rfl⟩
    exact ⟨rfl, [], .nil, .nil, h, hb⟩
  · obtain ⟨g, c, rfl, hBg, hg⟩ := h.addr (by simpa using hl)
    have hH := own_holdsK (enc := DPlaced.enc) (k := 5) (fun _ => rfl) h
    have eg : ∀ args w, (callFunc 94 args).run Try.prog w = .ok (.enter 94 args) w := enters_of Try.func94 (by kernel_rfl) rfl
    have hlt : ∀ x y : DPlaced, ltOf (fun x y : DPlaced => Lib.compareInt x.f.no y.f.no) x y = decide (x.f.no < y.f.no) := fun x y => by unfold ltOf; exact decide_eq_decide.2 (cmp_lt _ _)
    have hc := AnyQ.slices_SortFunc (P := Try.prog) (ρ := renPut) laysPut 5 Try.isAgg143 Try.sizeOf143 DPlaced.enc (fun _ => rfl) placed_cells (fun x y => Lib.compareInt x.f.no y.f.no) (swo_of (kf := fun x : DPlaced => x.f.no) hlt) 94 #[] g 0 c l.toArray w eg (putLays g 0 _ w) hH hg (by simp; omega)
    rw [List.length_map] at h ⊢
    have hsz : l.toArray.size = l.length := by simp
    rw [hsz] at hc
    refine Calls.mono hc ?_
    rintro e w' ⟨rfl, d, m, os, hp, hs, rfl⟩
    have hz : d.size = l.length := by rw [hp.1, hsz]
    have h2 := own_sortK (enc := DPlaced.enc) (k := 5) (m := m) (os := os) (fun _ => rfl) h hz
    refine ⟨rfl, d.toList, ?_, ?_, h2, below_sortK hb (Nat.le_trans hb0 hBg) hg⟩
    · have h3 := hp.2.2
      rw [← hsz, Array.extract_size] at h3
      rw [show l.toArray.size = d.size by rw [hz, hsz], Array.extract_size] at h3
      exact h3.symm
    · have : Rise (fun x : DPlaced => x.f.no) d.toList := Srt.rise (fun i j h1 h2 h3 => by
        have := hs i j h1 h2 (by omega)
        rw [hlt] at this
        simpa using this)
      exact this
theorem perm_sort {l Q : List DPlaced} {A : List DField} (hA : l.map (·.f) = A) (hd : DPk A) (hp : l.Perm Q) (hs : Q.Pairwise (fun x y => x.f.no ≤ y.f.no)) : Q.map (·.f) = sortS fnoF A := by
  subst hA
  refine sortS_eq ?_ (hd.sp (hp.map _))
  unfold Rise fnoF
  rw [List.pairwise_map]
  exact hs
end Go.Proofs.Ytbjilpemckoioaa

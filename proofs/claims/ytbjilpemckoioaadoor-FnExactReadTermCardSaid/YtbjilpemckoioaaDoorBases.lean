/- Small laws on memory and endings, of no program: an append to a slice that the call itself owns (and where the result lies), bytes of an owned slice as a string (with Sl, Open, LawKit, App, Gr, WireM, Wire, Num, Int, Common, MapB, Wire2, VarS, Take). -/
import Derived.Test.YtbjilpemckoioaaDoorRows
import Derived.WalkKit
import Derived.WalkSpells
import Derived.WalkLawsBesides
import Derived.ProofKit
import Derived.Deep.Slices
import Derived.Laws.BitsAllLaws
import Derived.IntWalk
import Derived.Laws.BitsLemmas
import Derived.Outline
import Derived.Deep.RegionHeld3
import Derived.Deep.Cut
import Derived.Maps.OwnOps
import Derived.Maps.Views
import Derived.StringKeys
/- Small laws on memory and endings, of no program: an append to a slice that the call itself owns (and where the result lies), bytes of an owned slice as a string. -/
namespace Go.Proofs.YtbjilpemckoioaaDoor
open Go.RowKit
set_option linter.unusedVariables false

/-- A fact kept out of the walk's sight. -/
def Hd (p : Prop) : Prop := p
theorem hd {p : Prop} (h : p) : Hd p := h
theorem Hd.out {p : Prop} (h : Hd p) : p := h

theorem ret_int {k : IntKind} {a b : Int} (h : a = b) : Ending.returned (.int k a) = .returned (.int k b) := by rw [h]
theorem ret_bool {a b : Bool} (h : a = b) : Ending.returned (.bool a) = .returned (.bool b) := by rw [h]
theorem ret_str {a b : ByteArray} (h : a = b) : Ending.returned (.string a) = .returned (.string b) := by rw [h]
theorem ret_ib {k : IntKind} {a a' : Int} {b b' : Bool} (h : a = a') (h' : b = b') : Ending.returned (.tuple #[.int k a, .bool b]) = .returned (.tuple #[.int k a', .bool b']) := by rw [h, h']
theorem ret_sb {a a' : ByteArray} {b b' : Bool} (h : a = a') (h' : b = b') : Ending.returned (.tuple #[.string a, .bool b]) = .returned (.tuple #[.string a', .bool b']) := by rw [h, h']
theorem ret_bb {a a' b b' : Bool} (h : a = a') (h' : b = b') : Ending.returned (.tuple #[.bool a, .bool b]) = .returned (.tuple #[.bool a', .bool b']) := by rw [h, h']
theorem ret_iib {k l : IntKind} {a a' c c' : Int} {b b' : Bool} (h : a = a') (h2 : c = c') (h' : b = b') :
    Ending.returned (.tuple #[.int k a, .int l c, .bool b]) = .returned (.tuple #[.int k a', .int l c', .bool b']) := by rw [h, h2, h']

/-- A string made of a list of bytes. -/
abbrev mkS (l : List UInt8) : ByteArray := ⟨l.toArray⟩
theorem mkS_toList (s : ByteArray) : mkS s.data.toList = s := rfl
theorem mkS_size (l : List UInt8) : (mkS l).size = l.length := rfl
theorem mkS_inj {l m : List UInt8} (h : mkS l = mkS m) : l = m := by
  have := congrArg (fun x : ByteArray => x.data.toList) h; exact this
theorem mkS_append (l m : List UInt8) : mkS l ++ mkS m = mkS (l ++ m) := by
  rw [ByteArray.ext_iff]; simp [ByteArray.data_append]
def byteV (b : UInt8) : Value := .int .u8 (b.toNat : Int)
theorem byteV_cell (l : List UInt8) : ∀ u ∈ l.map byteV, u.oneCell' = true := by
  intro u hu; obtain ⟨b, _, rfl⟩ := List.mem_map.1 hu; rfl

theorem grownBy_refl (w : World) (r : Option Nat) : w.grownBy w r := ⟨rfl, rfl, rfl, Nat.le_refl _, fun _ _ _ => rfl⟩
theorem grownBy_trans {w w1 w2 : World} {r r1 : Option Nat} (h : w.grownBy w1 r) (h1 : w1.grownBy w2 r1) (hr : r1 = r ∨ ∀ g, r1 = some g → w.heap.size ≤ g) : w.grownBy w2 r := by
  refine ⟨h1.os.trans h.os, h1.tape.trans h.tape, h1.output.trans h.output, Nat.le_trans h.size h1.size, fun k hk hne => ?_⟩
  rw [h1.block k (Nat.lt_of_lt_of_le hk h.size) ?_, h.block k hk hne]
  rcases hr with rfl | hr
  · exact hne
  · intro e; have := hr k e.symm; omega
theorem grownBy_below {w w1 : World} (h : w.grownBy w1 none) : Below w.heap.size w w1 :=
  ⟨h.os, h.tape, h.output, h.size, fun k hk => h.block k hk (by simp)⟩
theorem below_grownBy {w w1 : World} (h : Below w.heap.size w w1) (r : Option Nat) : w.grownBy w1 r :=
  ⟨h.os, h.tape, h.output, h.size, fun k hk _ => h.block k hk⟩

/-- An append to an owned slice; where the result lies: in the old row or in a new block. -/
theorem app_own {P : Program} (w : World) (base : Nat) (t ty e : TypeId) (i : TypeInfo) (z : Value) (size bytes : Nat) (ht : P.underlying t = some (.slice e)) (hi : P.info? e = some i) (hz : i.zero = some z)
    (hsize : i.size = size) (hby : i.bytes = bytes) (hzs : z.cells.size = size) (hsz : 0 < size)
    (v : Value) (n : Nat) (xs : List Value) (hown : w.ownsRow base e size v n xs)
    (a : Addr) (m c : Nat) (news : List Value) (hl : news.length = m * size) (hnews : ∀ j u, news[j]? = some u → w.cell? (a.add j) = some u) (h1 : ∀ u ∈ news, u.oneCell' = true)
    (hbytes : (n + m) * bytes ≤ 140737488355328) (hb0 : 0 < bytes) (hbase : base ≤ w.heap.size) :
    ∃ v' w', (Builtin.append_ #[t, t] ty #[v, .slice (some a) m c]).run P w = .ok v' w' ∧ w'.ownsRow base e size v' (n + m) (xs ++ news) ∧ w.grownBy w' v.ownBlock ∧
      (v'.ownBlock = v.ownBlock ∨ v'.ownBlock = some w.heap.size) := by
  have hnm : n + m ≤ (n + m) * bytes := Nat.le_mul_of_pos_right _ hb0
  have h63 : n + m ≤ maxLen := by unfold maxLen; omega
  obtain ⟨v', w', hr, h2, h3, h4⟩ := run_append_own (P := P) w base t ty e i z size bytes ht hi hz hsize hby hzs hsz v n xs hown a m c news hl hnews h1 h63 hbytes hbase
  refine ⟨v', w', hr, h2, h3, ?_⟩
  subst hsize; subst hby
  rcases hown.2 with ⟨rfl, rfl⟩ | ⟨g, cap, cur, rfl, hbg, hg, hnc, hcm, hcs, htake⟩
  · by_cases hm : m = 0
    · exact .inl (by rw [(h4.2 ⟨rfl, hm⟩)])
    · have hr' := run_append_nil (P := P) w t ty e i z ht hi hz a m c news hl hnews (by omega) (by omega) (by rw [Nat.zero_add] at hbytes; omega)
      rw [hr] at hr'
      injection hr' with e1 e2
      subst e1
      exact .inr rfl
  · by_cases hroom : n + m ≤ cap
    · have hfit : n * i.size + news.length ≤ cur.size := by rw [hl, hcs, ← Nat.add_mul]; exact Nat.mul_le_mul_right _ hroom
      have hr' := run_append_room (P := P) w t ty e i ht hi g n cap cur hg a m c news hl hnews h1 hroom hfit
      rw [hr] at hr'
      injection hr' with e1 e2
      subst e1
      exact .inl rfl
    · have holds : ∀ j u, xs[j]? = some u → w.cell? ((⟨g, 0, none⟩ : Addr).add j) = some u := hown.cells (g := g) rfl
      have hr' := run_append_grow (P := P) w t ty e i z ht hi hz ⟨g, 0, none⟩ n cap xs hown.1 holds a m c news hl hnews (by omega) (by omega) (growslice_fits (by omega) hbytes)
      rw [hr] at hr'
      injection hr' with e1 e2
      subst e1
      exact .inr rfl

theorem wpList_app {P : Program} {w : World} {ops : Array Oper} {rest : List Oper} {o : Oper} {a : Act} {Q : Exit → Act → World → Prop} (hgd : o.guard = none) (s x : Operand) (t : TypeId)
    (ho : o.op = .call { callee := .builtin .append, args := #[s, x], argTypes := #[t, t] })
    (base : Nat) (e : TypeId) (i : TypeInfo) (z : Value) (size bytes : Nat) (ht : P.underlying t = some (.slice e)) (hi : P.info? e = some i) (hz : i.zero = some z)
    (hsize : i.size = size) (hby : i.bytes = bytes) (hzs : z.cells.size = size) (hsz : 0 < size)
    (v : Value) (n : Nat) (xs : List Value) (hs : a.eval s = v) (hown : w.ownsRow base e size v n xs)
    (ad : Addr) (m c : Nat) (news : List Value) (hx : a.eval x = .slice (some ad) m c) (hl : news.length = m * size) (hnews : ∀ j u, news[j]? = some u → w.cell? (ad.add j) = some u) (h1 : ∀ u ∈ news, u.oneCell' = true)
    (hbytes : (n + m) * bytes ≤ 140737488355328) (hb0 : 0 < bytes) (hbase : base ≤ w.heap.size)
    (h : ∀ v' w', w'.ownsRow base e size v' (n + m) (xs ++ news) → w.grownBy w' v.ownBlock → (v'.ownBlock = v.ownBlock ∨ v'.ownBlock = some w.heap.size) → wpList P ops Q rest (a.put o.dst v') w') : wpList P ops Q (o :: rest) a w :=
  wpList_plain hgd fun _ hK => by
    obtain ⟨v', w', hr, h2, h3, h4⟩ := app_own (P := P) w base t o.type e i z size bytes ht hi hz hsize hby hzs hsz v n xs hown ad m c news hl hnews h1 hbytes hb0 hbase
    unfold Oper.wp execOp
    simp only [ho, resolve, invoke, builtin, Sem.run_bind, Sem.run_pure, Result.andThen_ok, List.map_toArray, List.map_cons, List.map_nil, hs, hx, hr]
    exact hK _ _ (h v' w' h2 h3 h4)

/-- The cells of a slice of one-cell elements, whoever owns it: it reads as 'xs'. -/
def rowIs (w : World) (v : Value) (xs : List Value) : Prop :=
  (xs = [] ∧ v = .slice none 0 0) ∨ ∃ a c, v = .slice (some a) xs.length c ∧ ∀ j u, xs[j]? = some u → w.cell? (a.add j) = some u
theorem rowIs_own {w : World} {base : Nat} {e : TypeId} {v : Value} {n : Nat} {xs : List Value} (h : w.ownsRow base e 1 v n xs) : rowIs w v xs := by
  have hl : xs.length = n := by simpa using h.1
  rcases h.2 with ⟨rfl, rfl⟩ | ⟨g, cap, cur, rfl, r⟩
  · exact .inl ⟨List.eq_nil_of_length_eq_zero hl, rfl⟩
  · exact .inr ⟨⟨g, 0, none⟩, cap, by rw [hl], fun j u hu => h.cells (g := g) rfl j u hu⟩

theorem foldl_push (l : List UInt8) : ∀ s : ByteArray, (l.map (fun b => ((b.toNat : Nat) : Int))).foldl (fun (r : ByteArray) (n : Int) => r.push (UInt8.ofNat n.toNat)) s = ⟨s.data ++ l.toArray⟩ := by
  induction l with
  | nil => intro s; simp
  | cons b l ih =>
    intro s
    simp only [List.map_cons, List.foldl_cons]
    rw [ih]
    simp [ByteArray.push]

/-- 'string(b)' of a slice of bytes. -/
theorem run_str_row {P : Program} (w : World) (src dst e : TypeId) (v : Value) (l : List UInt8)
    (hs : P.underlying src = some (.slice e)) (he : P.underlying e = some (.int .u8)) (hd : P.underlying dst = some .string) (h : rowIs w v (l.map byteV)) :
    (convert src dst v).run P w = .ok (.string (mkS l)) w := by
  rcases h with ⟨hx, rfl⟩ | ⟨a, c, rfl, hc⟩
  · have : l = [] := by simpa using hx
    subst this
    rw [run_convert_bytes_string w src dst e _ _ _ hs he hd]
    simp [Conv.bytesToString, mkS]; rfl
  · rw [run_convert_bytes_string w src dst e _ _ _ hs he hd]
    have hm : l.map byteV = (l.map (fun b => ((b.toNat : Nat) : Int))).map (Value.int .u8) := by simp [byteV]
    have hld := run_loadCells_list (P := P) (w := w) a (l.map byteV) hc
    rw [hm] at hld ⊢
    rw [run_bytesToString w a _ c _ hld, foldl_push]
    simp [ByteArray.empty, ByteArray.emptyWithCapacity, mkS]
    rfl
end Go.Proofs.YtbjilpemckoioaaDoor
/- Slices of structs: what it is that a slice reads as a list of rows of cells; laws of no program. -/
namespace Go.Proofs.YtbjilpemckoioaaDoor
open Go.RowKit
set_option linter.unusedVariables false

/-- A slice that reads as these rows (each the cells of one element). -/
def Sl (w : World) (v : Value) (sz : Nat) (rows : List (List Value)) : Prop :=
  ∃ a c, v = .slice a rows.length c ∧ (rows = [] ∨ ∃ b o, a = some ⟨b, o, none⟩ ∧ b < w.heap.size ∧ ∀ i r, rows[i]? = some r → ∀ j u, r[j]? = some u → w.cell? ⟨b, o + i * sz + j, none⟩ = some u)
theorem Sl.mono {w w' : World} {v : Value} {sz : Nat} {rows : List (List Value)} (h : Sl w v sz rows) (hb : Below w.heap.size w w') : Sl w' v sz rows := by
  obtain ⟨a, c, hv, h⟩ := h
  refine ⟨a, c, hv, h.imp id ?_⟩
  rintro ⟨b, o, ha, hlt, hc⟩
  exact ⟨b, o, ha, Nat.lt_of_lt_of_le hlt hb.size, fun i r hr j u hu => by rw [hb.cell hlt]; exact hc i r hr j u hu⟩
/-- What a slice's cells are, in one block. -/
def Cells (w : World) (b o sz : Nat) (rows : List (List Value)) : Prop := b < w.heap.size ∧ ∀ i r, rows[i]? = some r → ∀ j u, r[j]? = some u → w.cell? ⟨b, o + i * sz + j, none⟩ = some u
theorem Cells.mono {w w' : World} {b o sz : Nat} {rows : List (List Value)} (h : Cells w b o sz rows) (hb : Below w.heap.size w w') : Cells w' b o sz rows :=
  ⟨Nat.lt_of_lt_of_le h.1 hb.size, fun i r hr j u hu => by rw [hb.cell h.1]; exact h.2 i r hr j u hu⟩
theorem Sl.open {w : World} {v : Value} {sz : Nat} {rows : List (List Value)} (h : Sl w v sz rows) :
    (∃ a c, v = .slice a rows.length c ∧ rows = []) ∨ (∃ b o c, v = .slice (some ⟨b, o, none⟩) rows.length c ∧ rows ≠ [] ∧ Cells w b o sz rows) := by
  obtain ⟨a, c, hv, h⟩ := h
  by_cases hr : rows = []
  · exact .inl ⟨a, c, hv, hr⟩
  · rcases h with h | ⟨b, o, rfl, h⟩
    · exact absurd h hr
    · exact .inr ⟨b, o, c, hv, hr, h⟩
theorem keepCell {w w' : World} (hb : Below w.heap.size w w') {a : Addr} {v : Value} (h : w.cell? a = some v) : w'.cell? a = some v := by
  rw [hb.cell (World.block_lt_of_cell? w a h)]; exact h
theorem _root_.Go.RowKit.Below.drewL {w w' : World} (h : Below w.drew.heap.size w.drew w') : Below w.heap.size w w' := (Below.refl _ w).drew.trans h
theorem _root_.Go.RowKit.Below.allocL {w w' : World} {o : Obj} (h : Below (w.alloc o).heap.size (w.alloc o) w') : Below w.heap.size w w' :=
  ((Below.refl _ w).alloc (Nat.le_refl _) o).trans (h.mono (by simp))
/-- Two steps, each of which leaves alone what it found. -/
theorem _root_.Go.RowKit.Below.next {w w1 w2 : World} (h : Below w.heap.size w w1) (h2 : Below w1.heap.size w1 w2) : Below w.heap.size w w2 := h.trans (h2.mono h.size)
theorem below_a1 (w : World) {a : Obj} : Below w.heap.size w (w.alloc a) := (Below.refl _ _).alloc (Nat.le_refl _) _
theorem below_a2 (w : World) {a b : Obj} : Below w.heap.size w ((w.alloc a).alloc b) := (below_a1 w).next (below_a1 _)
theorem below_a3 (w : World) {a b c : Obj} : Below w.heap.size w (((w.alloc a).alloc b).alloc c) := (below_a2 w).next (below_a1 _)
theorem below_a4 (w : World) {a b c d : Obj} : Below w.heap.size w ((((w.alloc a).alloc b).alloc c).alloc d) := (below_a3 w).next (below_a1 _)
theorem below_a5 (w : World) {a b c d e : Obj} : Below w.heap.size w (((((w.alloc a).alloc b).alloc c).alloc d).alloc e) := (below_a4 w).next (below_a1 _)
/-- What a law's walk says: it returns true and writes nothing that was there. -/
def LawTrue (w : World) (e : Ending) (w' : World) : Prop := e = .returned (.bool true) ∧ Below w.heap.size w w'

/-- The first k rows lie in the cells xs. -/
def Pre (sz k : Nat) (rows : List (List Value)) (xs : List Value) : Prop := ∀ i r, i < k → rows[i]? = some r → ∀ j u, r[j]? = some u → xs[i * sz + j]? = some u
def setL (xs : List Value) (p : Nat) : List Value → List Value
  | [] => xs
  | u :: us => setL (xs.set p u) (p + 1) us
theorem setL_len (us : List Value) : ∀ xs p, (setL xs p us).length = xs.length := by
  induction us with
  | nil => intro xs p; rfl
  | cons u us ih => intro xs p; rw [setL, ih, List.length_set]
theorem setL_lt (us : List Value) : ∀ xs p i, i < p → (setL xs p us)[i]? = xs[i]? := by
  induction us with
  | nil => intro xs p i h; rfl
  | cons u us ih => intro xs p i h; rw [setL, ih _ _ _ (by omega), List.getElem?_set_ne (by omega)]
theorem setL_at (us : List Value) : ∀ xs p j, p + us.length ≤ xs.length → j < us.length → (setL xs p us)[p + j]? = us[j]? := by
  induction us with
  | nil => intro xs p j h hj; simp at hj
  | cons u us ih =>
    intro xs p j h hj
    rw [List.length_cons] at h hj
    rw [setL]
    cases j with
    | zero => rw [setL_lt _ _ _ _ (by omega), Nat.add_zero, List.getElem?_set_self (by omega)]; rfl
    | succ j =>
      rw [show p + (j + 1) = p + 1 + j by omega, ih _ _ _ (by rw [List.length_set]; omega) (by omega)]; rfl
theorem Pre.step {sz k : Nat} {rows : List (List Value)} {xs : List Value} {r : List Value} (h : Pre sz k rows xs) (hls : ∀ r ∈ rows, r.length = sz) (hr : rows[k]? = some r) (hx : k * sz + sz ≤ xs.length) :
    Pre sz (k + 1) rows (setL xs (k * sz) r) := by
  have hl := hls r (List.mem_of_getElem? hr)
  intro i r' hi hr' j u hu
  by_cases hik : i = k
  · subst hik
    rw [hr] at hr'; cases hr'
    have hj : j < r.length := (List.getElem?_eq_some_iff.1 hu).1
    rw [setL_at _ _ _ _ (by omega) hj]; exact hu
  · have hlt : i < k := by omega
    have h1 := h i r' hlt hr' j u hu
    have hj : j < r'.length := (List.getElem?_eq_some_iff.1 hu).1
    rw [hls r' (List.mem_of_getElem? hr')] at hj
    have h2 : (i + 1) * sz ≤ k * sz := Nat.mul_le_mul_right sz hlt
    rw [Nat.add_mul] at h2
    rw [setL_lt _ _ _ _ (by omega)]; exact h1
theorem Pre.zero {sz : Nat} {rows : List (List Value)} {xs : List Value} : Pre sz 0 rows xs := fun i r h => absurd h (by omega)

def setCells (w : World) (g p : Nat) : List Value → World
  | [] => w
  | u :: us => setCells (w.setCell ⟨g, p, none⟩ u) g (p + 1) us
theorem ownsRow_setCells {base e size g n cap : Nat} (us : List Value) : ∀ (w : World) (xs : List Value) (p : Nat), w.ownsRow base e size (.slice (some ⟨g, 0, none⟩) n cap) n xs →
    (setCells w g p us).ownsRow base e size (.slice (some ⟨g, 0, none⟩) n cap) n (setL xs p us) ∧ w.grownBy (setCells w g p us) (some g) := by
  induction us with
  | nil => intro w xs p h; exact ⟨h, grownBy_refl _ _⟩
  | cons u us ih =>
    intro w xs p h
    obtain ⟨h1, h2⟩ := h.stored p u
    obtain ⟨h3, h4⟩ := ih _ _ (p + 1) h1
    exact ⟨h3, grownBy_trans h2 h4 (.inl rfl)⟩

/-- A slice of the call's own (from block B on) that reads as these rows. -/
def Own (w : World) (B : Nat) (E : TypeId) (sz : Nat) (v : Value) (rows : List (List Value)) : Prop :=
  (∀ r ∈ rows, r.length = sz) ∧ ∃ xs, w.ownsRow B E sz v rows.length xs ∧ Pre sz rows.length rows xs
theorem Own.sl {w : World} {B E sz : Nat} {v : Value} {rows : List (List Value)} (h : Own w B E sz v rows) : Sl w v sz rows := by
  obtain ⟨hl, xs, ho, hp⟩ := h
  rcases ho.2 with ⟨rfl, hn⟩ | ⟨g, cap, cur, rfl, hb, hg, r⟩
  · exact ⟨none, 0, by rw [hn], .inl (List.eq_nil_of_length_eq_zero hn)⟩
  · refine ⟨_, cap, rfl, .inr ⟨g, 0, rfl, (Array.getElem?_eq_some_iff.1 hg).1, fun i r hr j u hu => ?_⟩⟩
    have hi : i < rows.length := (List.getElem?_eq_some_iff.1 hr).1
    have hj : j < r.length := (List.getElem?_eq_some_iff.1 hu).1
    have hr' : r.length = sz := hl r (List.mem_of_getElem? hr)
    have h2 : (i + 1) * sz ≤ rows.length * sz := Nat.mul_le_mul_right sz hi
    rw [Nat.add_mul] at h2
    rw [show 0 + i * sz + j = i * sz + j by omega, ho.cellAt _ (by omega)]
    exact hp i r hi hr j u hu
theorem Own.kept {w w' : World} {B E sz : Nat} {v : Value} {rows : List (List Value)} {row : Option Nat} (h : Own w B E sz v rows) (hg : w.grownBy w' row) (hne : v.ownBlock = none ∨ v.ownBlock ≠ row) : Own w' B E sz v rows := by
  obtain ⟨hl, xs, ho, hp⟩ := h
  exact ⟨hl, xs, ho.kept hg hne, hp⟩
theorem Own.below {w w' : World} {B E sz : Nat} {v : Value} {rows : List (List Value)} (h : Own w B E sz v rows) (hb : Below w.heap.size w w') : Own w' B E sz v rows :=
  h.kept (below_grownBy hb none) (by cases v.ownBlock <;> simp)
theorem Own.weaken {w : World} {B B' E sz : Nat} {v : Value} {rows : List (List Value)} (h : Own w B E sz v rows) (hB : B' ≤ B) : Own w B' E sz v rows := by
  obtain ⟨hl, xs, ho, hp⟩ := h
  refine ⟨hl, xs, ⟨ho.1, ?_⟩, hp⟩
  rcases ho.2 with h2 | ⟨g, cap, cur, h1, h2, h3⟩
  · exact .inl h2
  · exact .inr ⟨g, cap, cur, h1, Nat.le_trans hB h2, h3⟩
theorem grownBy_setCell (w : World) (a : Addr) (u : Value) : w.grownBy (w.setCell a u) (some a.block) :=
  ⟨rfl, rfl, rfl, by simp [World.setCell], fun k _ hk => Below.heap_setCell _ _ _ _ (fun e => hk (by rw [e]))⟩
theorem own_ne {v : Value} {B : Nat} {g : Nat} (h : ∀ k, v.ownBlock = some k → B < k) (hg : g ≤ B) : v.ownBlock = none ∨ v.ownBlock ≠ some g := by
  refine .inr fun e => ?_
  have := h g e; omega
theorem Own.lt {w : World} {B E sz : Nat} {v : Value} {rows : List (List Value)} (h : Own w B E sz v rows) : ∀ k, v.ownBlock = some k → B ≤ k ∧ k < w.heap.size := by
  obtain ⟨hl, xs, ho, hp⟩ := h; exact ho.lt
theorem Cells.at2 {w : World} {b o sz : Nat} {rows : List (List Value)} (h : Cells w b o sz rows) {i : Nat} {x0 x1 : Value} (hi : rows[i]? = some [x0, x1]) :
    w.cell? ⟨b, o + i * sz, none⟩ = some x0 ∧ w.cell? ⟨b, o + i * sz + 1, none⟩ = some x1 :=
  ⟨h.2 i _ hi 0 _ rfl, h.2 i _ hi 1 _ rfl⟩
def BoolPost (b : Bool) (w : World) (e : Ending) (w' : World) : Prop := e = .returned (.bool b) ∧ Below w.heap.size w w'
def IntPost (n : Int) (w : World) (e : Ending) (w' : World) : Prop := e = .returned (.int .i64 n) ∧ Below w.heap.size w w'
def encI (n : Int) : List Value := [.int .i64 n]
theorem Cells.rowI {w : World} {b o : Nat} (l : List Int) (k : Nat) (h : k < l.length) (C : Cells w b o 1 (l.map encI)) :
    w.cell? ⟨b, o + k, none⟩ = some (.int .i64 l[k]) := by
  have := C.2 k (encI l[k]) (by simp [h]) 0 _ rfl
  rw [Nat.mul_one, Nat.add_zero] at this; exact this
theorem encI_len (l : List Int) : ∀ r ∈ l.map encI, r.length = 1 := by
  intro r hr; obtain ⟨x, _, rfl⟩ := List.mem_map.1 hr; rfl

/-- The first place where p holds; -1 without one. -/
def fidx {α : Type} (p : α → Bool) (l : List α) : Int := if l.findIdx p < l.length then (l.findIdx p : Int) else -1
def fidx_from {α : Type} (p : α → Bool) (l : List α) (k : Nat) : Prop := ∀ i (h : i < l.length), i < k → p l[i] = false
theorem fidx_zero {α : Type} (p : α → Bool) (l : List α) : fidx_from p l 0 := fun i _ h0 => absurd h0 (by omega)
theorem fidx_step {α : Type} {p : α → Bool} {l : List α} {k : Nat} (hk : k < l.length) (h : fidx_from p l k) (hp : p l[k] = false) : fidx_from p l (k + 1) := by
  intro i hi hik
  by_cases e : i = k
  · subst e; exact hp
  · exact h i hi (by omega)
theorem fidx_hit {α : Type} {p : α → Bool} {l : List α} {k : Nat} (hk : k < l.length) (h : fidx_from p l k) (hp : p l[k] = true) : fidx p l = (k : Int) := by
  have : l.findIdx p = k := by
    rw [List.findIdx_eq hk]
    exact ⟨hp, fun j hj => h j (by omega) hj⟩
  rw [fidx, this, if_pos hk]
theorem fidx_none {α : Type} {p : α → Bool} {l : List α} {k : Nat} (hk : l.length ≤ k) (h : fidx_from p l k) : fidx p l = -1 := by
  rw [fidx, if_neg]
  intro hlt
  have h1 := List.findIdx_getElem (w := hlt)
  rw [h _ hlt (by omega)] at h1
  cases h1
theorem fidx_any {α : Type} (p : α → Bool) (l : List α) : 0 ≤ fidx p l ↔ l.any p = true := by
  rw [fidx, List.any_eq_true]
  constructor
  · intro h
    split at h
    · rename_i hlt; exact ⟨_, List.getElem_mem hlt, List.findIdx_getElem (w := hlt)⟩
    · omega
  · rintro ⟨x, hx, hp⟩
    rw [if_pos (List.findIdx_lt_length_of_exists ⟨x, hx, hp⟩)]
    omega
end Go.Proofs.YtbjilpemckoioaaDoor
/- From the form's reading of a slice of structs to 'Sl': what the frame of a law hands to its walk. -/
namespace Go.Proofs.YtbjilpemckoioaaDoor
open Go.ChangeShapes Go.WideShapes Go.RowKit
set_option linter.unusedVariables false
set_option maxRecDepth 100000

theorem add_spot {a : Addr} (h : a.spot = none) (k : Nat) : a.add k = ⟨a.block, a.off + k, none⟩ := by
  obtain ⟨b, o, s⟩ := a
  cases h
  unfold Addr.add; split <;> simp_all
section
variable {H : Type} {enc : TypeId × Value → H} {P : Program} {w : World} {base : Nat} {spare : Nat → Bool} {held : Bool}

theorem open_rows {α : Type} [Inhabited α] (encα : α → List Value) (okα : α → Prop) (sz : Nat) (hpos : 0 < sz) {t e : TypeId} (ht : P.underlying t = some (.slice e)) (hsz : P.cellsOf e = sz)
    (hel : ∀ n cs y, DataW.trod enc P w base spare held n e cs = some y → ∃ d : α, cs = encα d ∧ okα d)
    {fuel : Nat} {cs : List Value} {x : DataW H × List MemPlace} (h : DataW.trod enc P w base spare held fuel t cs = some x) :
    ∃ (l : List α) (v : Value), cs = [v] ∧ l.length ≤ maxLen ∧ Sl w v sz (l.map encα) ∧ ∀ d ∈ l, okα d := by
  subst hsz
  rcases Go.Deep.open_slice ht h with ⟨rfl, _⟩ | ⟨a, len, cap, m, n, D, Pl, rfl, hb, hl, hm, hmm, _, hi⟩
  · exact ⟨[], _, rfl, Nat.zero_le _, ⟨none, 0, rfl, .inl rfl⟩, by simp⟩
  · have hlm : len ≤ m := by rw [hmm]; split <;> omega
    have hex : ∀ i, i < len → ∃ d : α, w.cells? base (a.add (i * P.cellsOf e)) (P.cellsOf e) = some (encα d) ∧ okα d := by
      intro i hilt
      obtain ⟨cs', h1, h2⟩ := hi i (by omega)
      obtain ⟨d, rfl, hd⟩ := hel _ _ _ h2
      exact ⟨d, h1, hd⟩
    obtain ⟨f, hf⟩ := Go.Deep.choose_lt hex
    refine ⟨(List.range len).map f, _, rfl, by simp; omega, ⟨some a, cap, by simp, ?_⟩, ?_⟩
    · by_cases h0 : len = 0
      · subst h0; exact .inl rfl
      · have c0 := (hf 0 (by omega)).1
        rw [World.cells?] at c0
        obtain ⟨b, o, s⟩ := a
        have key : ∀ i, i < len → ∀ j u, (encα (f i))[j]? = some u → w.cell? ((Addr.mk b o s).add (i * P.cellsOf e + j)) = some u := by
          intro i hilt j u hu
          obtain ⟨h1, h2⟩ := World.cells?_some (hf i hilt).1
          have hj : j < P.cellsOf e := by rw [← h2.1]; exact (List.getElem?_eq_some_iff.1 hu).1
          have := h2.2 j hj
          rw [hu, Go.Deep.add_add] at this
          exact this
        have hlen0 : (encα (f 0)).length = P.cellsOf e := (World.cells?_some (hf 0 (by omega)).1).2.1
        have hc := key 0 (by omega) 0 _ (List.getElem?_eq_getElem (by omega))
        rw [Nat.zero_mul, Nat.add_zero, Addr.add, if_pos rfl] at hc
        have hs : s = none := World.cell?_spot hc
        subst hs
        refine .inr ⟨b, o, rfl, World.block_lt_of_cell? w _ hc, ?_⟩
        intro i r hr j u hu
        have hilt : i < len := by
          have := (List.getElem?_eq_some_iff.1 hr).1; simpa using this
        rw [List.getElem?_map, List.getElem?_map, List.getElem?_range hilt] at hr
        simp at hr
        subst hr
        have := key i hilt j u hu
        rw [add_spot rfl] at this
        rw [Nat.add_assoc]; exact this
    · intro d hd
      obtain ⟨i, hi2, rfl⟩ := List.mem_map.1 hd
      exact (hf i (by simpa using hi2)).2

/-- A field of one cell, by its place. -/
theorem field_one {t : TypeId} {n : Nat} {c : Value} {cs : List Value} {k off : Nat} {y : Option (DataW H × List MemPlace)} (hk : P.cellsOf t = k) (h1 : k = 1) (hcs : cs[off]? = some c)
    (h : DataW.trod enc P w base spare held n t ((cs.drop off).take (P.cellsOf t)) = y) : DataW.trod enc P w base spare held n t [c] = y := by
  rw [hk, h1] at h
  have : (cs.drop off).take 1 = [c] := by
    have hlt := (List.getElem?_eq_some_iff.1 hcs).1
    rw [List.drop_eq_getElem_cons hlt]
    have := (List.getElem?_eq_some_iff.1 hcs).2
    simp [this]
  rw [this] at h; exact h
theorem list_len2 {cs : List Value} (h : cs.length = 2) : ∃ a b, cs = [a, b] := by
  match cs, h with | [a, b], _ => exact ⟨a, b, rfl⟩
theorem list_len3 {cs : List Value} (h : cs.length = 3) : ∃ a b c, cs = [a, b, c] := by
  match cs, h with | [a, b, c], _ => exact ⟨a, b, c, rfl⟩
theorem list_len4 {cs : List Value} (h : cs.length = 4) : ∃ a b c d, cs = [a, b, c, d] := by
  match cs, h with | [a, b, c, d], _ => exact ⟨a, b, c, d, rfl⟩
theorem list_len5 {cs : List Value} (h : cs.length = 5) : ∃ a b c d e, cs = [a, b, c, d, e] := by
  match cs, h with | [a, b, c, d, e], _ => exact ⟨a, b, c, d, e, rfl⟩
theorem list_len6 {cs : List Value} (h : cs.length = 6) : ∃ a b c d e f, cs = [a, b, c, d, e, f] := by
  match cs, h with | [a, b, c, d, e, f], _ => exact ⟨a, b, c, d, e, f, rfl⟩
theorem int_cell {t : TypeId} {n : Nat} {c : Value} {y : DataW H × List MemPlace} (ht : P.underlying t = some (.int .i64)) (h : DataW.trod enc P w base spare held n t [c] = some y) : ∃ k : Int, c = .int .i64 k := by
  obtain ⟨k, h1, _⟩ := DataW.trod_int ht h; exact ⟨k, by simpa using h1⟩
theorem string_cell {t : TypeId} {n : Nat} {c : Value} {y : DataW H × List MemPlace} (ht : P.underlying t = some .string) (h : DataW.trod enc P w base spare held n t [c] = some y) : ∃ s : ByteArray, c = .string s ∧ s.size ≤ maxLen := by
  obtain ⟨k, h1, _, h2⟩ := DataW.trod_string ht h; exact ⟨k, by simpa using h1, h2⟩
theorem bool_cell {t : TypeId} {n : Nat} {c : Value} {y : DataW H × List MemPlace} (ht : P.underlying t = some .bool) (h : DataW.trod enc P w base spare held n t [c] = some y) : ∃ b : Bool, c = .bool b := by
  obtain ⟨k, h1, _⟩ := DataW.trod_bool ht h; exact ⟨k, by simpa using h1⟩
theorem okWide_struct1 {r : Reach} {t : TypeId} {fs : Array Go.Field} {v : Value} (ht : P.underlying t = some (.struct fs)) (h1 : P.cellsOf t = 1) (h : Value.okWide P w r base t v) : ∃ s, v = .agg #[s] := by
  obtain ⟨cs, rfl, hc⟩ := okWide_struct ht h
  rw [h1] at hc
  obtain ⟨l⟩ := cs
  match l, hc with | [s], _ => exact ⟨s, rfl⟩
end
section
variable {H : Type} {enc : TypeId × Value → H} {w : World} {spare : Nat → Bool} {held : Bool}
theorem elI (n : Nat) (cs : List Value) (y : DataW H × List MemPlace) (h : DataW.trod enc Tryd.prog w 0 spare held n 3 cs = some y) : ∃ d : Int, cs = encI d ∧ True := by
  obtain ⟨k, rfl, _⟩ := DataW.trod_int Tryd.underlying3 h
  exact ⟨k, rfl, trivial⟩
end
end Go.Proofs.YtbjilpemckoioaaDoor
/- What the laws' walks need on memory of the call's own: results that are slices, what lies apart. -/
namespace Go.Proofs.YtbjilpemckoioaaDoor
open Go.RowKit
set_option linter.unusedVariables false

/-- A slice of the call's own in the block rb; or one without elements, wherever it points. -/
def OwnR (w : World) (B : Nat) (E : TypeId) (sz : Nat) (v : Value) (rows : List (List Value)) (rb : Option Nat) : Prop :=
  (rb = v.ownBlock ∧ Own w B E sz v rows) ∨ (rb = none ∧ rows = [] ∧ ∃ a c, v = .slice a 0 c)
theorem Own.r {w : World} {B E sz : Nat} {v : Value} {rows : List (List Value)} (h : Own w B E sz v rows) : OwnR w B E sz v rows v.ownBlock := .inl ⟨rfl, h⟩
theorem OwnR.sl {w : World} {B E sz : Nat} {v : Value} {rows : List (List Value)} {rb : Option Nat} (h : OwnR w B E sz v rows rb) : Sl w v sz rows := by
  rcases h with ⟨_, h⟩ | ⟨_, rfl, a, c, rfl⟩
  · exact h.sl
  · exact ⟨a, c, rfl, .inl rfl⟩
theorem OwnR.lt {w : World} {B E sz : Nat} {v : Value} {rows : List (List Value)} {rb : Option Nat} (h : OwnR w B E sz v rows rb) : ∀ g, rb = some g → B ≤ g ∧ g < w.heap.size := by
  intro g hg
  rcases h with ⟨rfl, h⟩ | ⟨rfl, _⟩
  · exact h.lt g hg
  · cases hg
theorem OwnR.kept {w w' : World} {B E sz : Nat} {v : Value} {rows : List (List Value)} {rb row : Option Nat} (h : OwnR w B E sz v rows rb) (hg : w.grownBy w' row) (hne : rb = none ∨ rb ≠ row) : OwnR w' B E sz v rows rb := by
  rcases h with ⟨rfl, h⟩ | h
  · exact .inl ⟨rfl, h.kept hg hne⟩
  · exact .inr h
theorem OwnR.below {w w' : World} {B E sz : Nat} {v : Value} {rows : List (List Value)} {rb : Option Nat} (h : OwnR w B E sz v rows rb) (hb : Below w.heap.size w w') : OwnR w' B E sz v rows rb :=
  h.kept (below_grownBy hb none) (by cases rb <;> simp)
/-- A slice of the call's own, and a bool. -/
def SlbPost (E : TypeId) (sz : Nat) (rows : List (List Value)) (b : Bool) (w : World) (e : Ending) (w' : World) : Prop :=
  ∃ v rb, e = .returned (.tuple #[v, .bool b]) ∧ OwnR w' w.heap.size E sz v rows rb ∧ Below w.heap.size w w'
/-- A struct of one slice of the call's own, and a bool. -/
def AggbPost (E : TypeId) (sz : Nat) (rows : List (List Value)) (b : Bool) (w : World) (e : Ending) (w' : World) : Prop :=
  ∃ v rb, e = .returned (.tuple #[.agg #[v], .bool b]) ∧ OwnR w' w.heap.size E sz v rows rb ∧ Below w.heap.size w w'
theorem apart {r1 r2 : Option Nat} {a b c d : Nat} (h1 : ∀ g, r1 = some g → a ≤ g ∧ g < b) (h2 : ∀ g, r2 = some g → c ≤ g ∧ g < d) (h : b ≤ c ∨ d ≤ a) : r1 = none ∨ r1 ≠ r2 := by
  cases hv : r1 with
  | none => exact .inl rfl
  | some g =>
    refine .inr fun e => ?_
    have := h1 g hv
    have := h2 g e.symm
    omega
theorem keepG {w w' : World} {r : Option Nat} {b lo hi : Nat} {v : Value} (hg : w.grownBy w' r) (h : w.cell? ⟨b, 0, none⟩ = some v) (n : ∀ g, r = some g → lo ≤ g ∧ g < hi) (hne : b < lo ∨ hi ≤ b) : w'.cell? ⟨b, 0, none⟩ = some v :=
  hg.cell h (fun e => by have := n b e.symm; omega)
theorem ownsRow_below0 {w w' : World} {B E sz n : Nat} {v : Value} {xs : List Value} (h : w.ownsRow B E sz v n xs) (hb : Below w.heap.size w w') : w'.ownsRow B E sz v n xs :=
  h.kept (below_grownBy hb none) (by cases v.ownBlock <;> simp)
theorem Own.nil {w : World} {B E sz : Nat} : Own w B E sz (.slice none 0 0) [] := ⟨by simp, [], World.ownsRow_nil _ _ _ _, Pre.zero⟩
theorem OwnR.nil {w : World} {B E sz : Nat} : OwnR w B E sz (.slice none 0 0) [] none := .inr ⟨rfl, rfl, none, 0, rfl⟩
end Go.Proofs.YtbjilpemckoioaaDoor
/- Appends to slices of structs of the call's own; laws of no program. -/
namespace Go.Proofs.YtbjilpemckoioaaDoor
open Go.RowKit
set_option linter.unusedVariables false

theorem flatten_at {sz : Nat} : ∀ {rows : List (List Value)}, (∀ r ∈ rows, r.length = sz) → ∀ i r, rows[i]? = some r → ∀ j u, r[j]? = some u → rows.flatten[i * sz + j]? = some u := by
  intro rows
  induction rows with
  | nil => intro _ i r h; simp at h
  | cons r0 rows ih =>
    intro hl i r hr j u hu
    rw [List.flatten_cons]
    have h0 : r0.length = sz := hl r0 (by simp)
    cases i with
    | zero =>
      simp at hr; subst hr
      have hj := (List.getElem?_eq_some_iff.1 hu).1
      rw [Nat.zero_mul, Nat.zero_add, List.getElem?_append_left hj]; exact hu
    | succ i =>
      rw [List.getElem?_cons_succ] at hr
      have := ih (fun r h => hl r (by simp [h])) i r hr j u hu
      rw [Nat.add_mul, Nat.one_mul, List.getElem?_append_right (by omega), h0, show i * sz + sz + j - sz = i * sz + j by omega]; exact this
theorem flatten_len {sz : Nat} : ∀ {rows : List (List Value)}, (∀ r ∈ rows, r.length = sz) → rows.flatten.length = rows.length * sz := by
  intro rows
  induction rows with
  | nil => intro _; simp
  | cons r0 rows ih =>
    intro hl
    rw [List.flatten_cons, List.length_append, ih (fun r h => hl r (by simp [h])), hl r0 (by simp), List.length_cons, Nat.add_mul]; omega
theorem flatten_inv {sz : Nat} : ∀ {rows : List (List Value)}, (∀ r ∈ rows, r.length = sz) → ∀ p u, rows.flatten[p]? = some u → ∃ i r j, rows[i]? = some r ∧ r[j]? = some u ∧ p = i * sz + j := by
  intro rows
  induction rows with
  | nil => intro _ p u h; simp at h
  | cons r0 rows ih =>
    intro hl p u h
    rw [List.flatten_cons] at h
    have h0 : r0.length = sz := hl r0 (by simp)
    by_cases hp : p < r0.length
    · rw [List.getElem?_append_left hp] at h
      exact ⟨0, r0, p, by simp, h, by omega⟩
    · rw [List.getElem?_append_right (by omega)] at h
      obtain ⟨i, r, j, h1, h2, h3⟩ := ih (fun r h => hl r (by simp [h])) _ _ h
      exact ⟨i + 1, r, j, by simpa using h1, h2, by rw [Nat.add_mul]; omega⟩
theorem addr_add (b o k : Nat) : (⟨b, o, none⟩ : Addr).add k = ⟨b, o + k, none⟩ := by
  unfold Addr.add; split <;> simp_all
theorem Cells.flat {w : World} {b o sz : Nat} {rows : List (List Value)} (h : Cells w b o sz rows) (hl : ∀ r ∈ rows, r.length = sz) : ∀ p u, rows.flatten[p]? = some u → w.cell? ((⟨b, o, none⟩ : Addr).add p) = some u := by
  intro p u hp
  obtain ⟨i, r, j, h1, h2, rfl⟩ := flatten_inv hl p u hp
  rw [addr_add, ← Nat.add_assoc]
  exact h.2 i r h1 j u h2
theorem own_flat {w : World} {B E sz : Nat} {v : Value} {rows : List (List Value)} (h : Own w B E sz v rows) : w.ownsRow B E sz v rows.length rows.flatten := by
  obtain ⟨hl, xs, ho, hp⟩ := h
  have hlen : xs.length = rows.length * sz := ho.1
  have hx : xs = rows.flatten := by
    apply List.ext_getElem?
    intro p
    by_cases hlt : p < rows.length * sz
    · have h2 : p < rows.flatten.length := by rw [flatten_len hl]; exact hlt
      obtain ⟨u, hu⟩ : ∃ u, rows.flatten[p]? = some u := ⟨_, List.getElem?_eq_getElem h2⟩
      obtain ⟨i, r, j, h3, h4, h5⟩ := flatten_inv hl p u hu
      rw [hu, h5]
      exact hp i r (List.getElem?_eq_some_iff.1 h3).1 h3 j _ h4
    · rw [List.getElem?_eq_none (by omega), List.getElem?_eq_none (by rw [flatten_len hl]; omega)]
  rw [← hx]; exact ho
theorem own_mk {w : World} {B E sz : Nat} {v : Value} {rows : List (List Value)} (hl : ∀ r ∈ rows, r.length = sz) (h : w.ownsRow B E sz v rows.length rows.flatten) : Own w B E sz v rows :=
  ⟨hl, rows.flatten, h, fun i r _ hr j u hu => flatten_at hl i r hr j u hu⟩
theorem wpList_appOwn {P : Program} {w : World} {ops : Array Oper} {rest : List Oper} {o : Oper} {a : Act} {Q : Exit → Act → World → Prop} (hgd : o.guard = none) (s x : Operand) (t : TypeId)
    (ho : o.op = .call { callee := .builtin .append, args := #[s, x], argTypes := #[t, t] })
    (base : Nat) (e : TypeId) (i : TypeInfo) (z : Value) (size bytes : Nat) (ht : P.underlying t = some (.slice e)) (hi : P.info? e = some i) (hz : i.zero = some z)
    (hsize : i.size = size) (hby : i.bytes = bytes) (hzs : z.cells.size = size) (hsz : 0 < size)
    (v : Value) (rows rows2 : List (List Value)) (hs : a.eval s = v) (hown : Own w base e size v rows)
    (ad : Addr) (m c : Nat) (hm : rows2.length = m) (hx : a.eval x = .slice (some ad) m c) (hl2 : ∀ r ∈ rows2, r.length = size) (hnews : ∀ j u, rows2.flatten[j]? = some u → w.cell? (ad.add j) = some u) (h1 : ∀ u ∈ rows2.flatten, u.oneCell' = true)
    (hbytes : (rows.length + m) * bytes ≤ 140737488355328) (hb0 : 0 < bytes) (hbase : base ≤ w.heap.size)
    (h : ∀ v' w', Own w' base e size v' (rows ++ rows2) → w.grownBy w' v.ownBlock → (v'.ownBlock = v.ownBlock ∨ v'.ownBlock = some w.heap.size) → wpList P ops Q rest (a.put o.dst v') w') : wpList P ops Q (o :: rest) a w := by
  subst hm
  refine wpList_app hgd s x t ho base e i z size bytes ht hi hz hsize hby hzs hsz v rows.length rows.flatten hs (own_flat hown) ad rows2.length c rows2.flatten hx (flatten_len hl2) hnews h1 hbytes hb0 hbase ?_
  intro v' w' ho' hg hb
  refine h v' w' (own_mk ?_ ?_) hg hb
  · intro r hr
    rcases List.mem_append.1 hr with hr | hr
    · exact hown.1 r hr
    · exact hl2 r hr
  · rw [List.flatten_append, List.length_append]; exact ho'
/-- The same in a region that draws its order. -/
theorem step_appOwn {P : Program} {w : World} {ops : Array Oper} {o : Oper} {a : Act} {K : Act → World → Prop} {Q : Exit → Act → World → Prop} {E : Prop} (hgd : o.guard = none) (s x : Operand) (t : TypeId)
    (ho : o.op = .call { callee := .builtin .append, args := #[s, x], argTypes := #[t, t] })
    (base : Nat) (e : TypeId) (i : TypeInfo) (z : Value) (size bytes : Nat) (ht : P.underlying t = some (.slice e)) (hi : P.info? e = some i) (hz : i.zero = some z)
    (hsize : i.size = size) (hby : i.bytes = bytes) (hzs : z.cells.size = size) (hsz : 0 < size)
    (v : Value) (rows rows2 : List (List Value)) (hs : a.eval s = v) (hown : Own w base e size v rows)
    (ad : Addr) (m c : Nat) (hm : rows2.length = m) (hx : a.eval x = .slice (some ad) m c) (hl2 : ∀ r ∈ rows2, r.length = size) (hnews : ∀ j u, rows2.flatten[j]? = some u → w.cell? (ad.add j) = some u) (h1 : ∀ u ∈ rows2.flatten, u.oneCell' = true)
    (hbytes : (rows.length + m) * bytes ≤ 140737488355328) (hb0 : 0 < bytes) (hbase : base ≤ w.heap.size)
    (h : ∀ v' w', Own w' base e size v' (rows ++ rows2) → w.grownBy w' v.ownBlock → (v'.ownBlock = v.ownBlock ∨ v'.ownBlock = some w.heap.size) → K (a.put o.dst v') w') :
    if Region.wanted o (yielded ops a.tmps) = true then Oper.wp P o a w K Q else E := by
  have hw : Region.wanted o (yielded ops a.tmps) = true := by simp [Region.wanted, hgd]
  rw [if_pos hw]
  subst hm
  obtain ⟨v', w', hr, h2, h3, h4⟩ := app_own (P := P) w base t o.type e i z size bytes ht hi hz hsize hby hzs hsz v rows.length rows.flatten (own_flat hown) ad rows2.length c rows2.flatten (flatten_len hl2) hnews h1 hbytes hb0 hbase
  unfold Oper.wp execOp
  simp only [ho, resolve, invoke, builtin, Sem.run_bind, Sem.run_pure, Result.andThen_ok, List.map_toArray, List.map_cons, List.map_nil, hs, hx, hr]
  refine h v' w' (own_mk ?_ ?_) h3 h4
  · intro r hr
    rcases List.mem_append.1 hr with hr | hr
    · exact hown.1 r hr
    · exact hl2 r hr
  · rw [List.flatten_append, List.length_append]; exact h2
/-- The block that 'buildSlice' lays for one element. -/
theorem cells_new (W : World) (r : List Value) (E : TypeId) : ∀ j u, [r].flatten[j]? = some u → (W.alloc (.cells r.toArray E)).cell? ((⟨W.heap.size, 0, none⟩ : Addr).add j) = some u := by
  intro j u hu
  rw [addr_add]
  simp at hu
  rw [World.cell?, heap_alloc_new]
  simp [hu]
theorem one_row {r : List Value} {sz : Nat} (h : r.length = sz) : ∀ x ∈ [r], x.length = sz := by
  intro x hx; simp at hx; subst hx; exact h
theorem Own.grow {w w1 w2 : World} {B E sz : Nat} {v : Value} {rows : List (List Value)} (h : Own w2 B E sz v rows) : ∀ g, v.ownBlock = some g → B ≤ g := fun g hg => (h.lt g hg).1
/-- A slice of the call's own. -/
def OwnVPost (E : TypeId) (sz : Nat) (rows : List (List Value)) (w : World) (e : Ending) (w' : World) : Prop :=
  ∃ v, e = .returned v ∧ Own w' w.heap.size E sz v rows ∧ Below w.heap.size w w'
theorem own_made (w : World) (E sz : Nat) : Own (w.alloc (.cells #[] E)) w.heap.size E sz (.slice (some ⟨w.heap.size, 0, none⟩) 0 0) [] :=
  own_mk (by simp) (World.ownsRow_made w #[] 0 (Nat.le_refl _) (Nat.zero_le _) (by simp))
theorem below_made {w w' : World} {r : Option Nat} {o : Obj} (hg : (w.alloc o).grownBy w' r) (hr : ∀ g, r = some g → w.heap.size ≤ g) : Below w.heap.size w w' :=
  (below_a1 w).grown hg (by simp) hr
theorem ne_own {b g n c : Nat} (h : b ≠ g) : some b ≠ (Value.slice (some ⟨g, 0, none⟩) n c).ownBlock := fun e => h (Option.some.inj e)
theorem own_ge {B g n c : Nat} (h : B ≤ g) : ∀ k, (Value.slice (some ⟨g, 0, none⟩) n c).ownBlock = some k → B ≤ k := fun k hk => by cases hk; exact h
theorem own_snoc {α : Type} {enc : α → List Value} {w : World} {B E sz : Nat} {v : Value} {l : List α} {x : α} (h : Own w B E sz v (l.map enc ++ [enc x])) : Own w B E sz v ((l ++ [x]).map enc) := by
  rw [List.map_append]; exact h
/-- A block of one cell that can be written: a result's box. -/
def Box1 (w : World) (b : Nat) (v : Value) : Prop := w.cell? ⟨b, 0, none⟩ = some v ∧ w.frozen? ⟨b, 0, none⟩ = false
theorem Box1.lt {w : World} {b : Nat} {v : Value} (h : Box1 w b v) : b < w.heap.size := World.block_lt_of_cell? w _ h.1
theorem Box1.below {w w' : World} {b : Nat} {v : Value} (h : Box1 w b v) (hb : Below w.heap.size w w') : Box1 w' b v :=
  ⟨keepCell hb h.1, by rw [hb.frozen (p := ⟨b, 0, none⟩) h.lt]; exact h.2⟩
theorem Box1.grown {w w' : World} {b : Nat} {v : Value} {r : Option Nat} (h : Box1 w b v) (hg : w.grownBy w' r) (hne : some b ≠ r) : Box1 w' b v :=
  ⟨hg.cell h.1 hne, by rw [World.frozen?_of_block (hg.block b h.lt hne)]; exact h.2⟩
/-- A block of these cells that can be written. -/
def BoxN (w : World) (b : Nat) (cs : List Value) : Prop := (∀ j u, cs[j]? = some u → w.cell? ⟨b, j, none⟩ = some u) ∧ (∀ j, w.frozen? ⟨b, j, none⟩ = false) ∧ b < w.heap.size
theorem BoxN.below {w w' : World} {b : Nat} {cs : List Value} (h : BoxN w b cs) (hb : Below w.heap.size w w') : BoxN w' b cs :=
  ⟨fun j u hu => keepCell hb (h.1 j u hu), fun j => by rw [hb.frozen (p := ⟨b, j, none⟩) h.2.2]; exact h.2.1 j, Nat.lt_of_lt_of_le h.2.2 hb.size⟩
theorem BoxN.grown {w w' : World} {b : Nat} {cs : List Value} {r : Option Nat} (h : BoxN w b cs) (hg : w.grownBy w' r) (hne : some b ≠ r) : BoxN w' b cs :=
  ⟨fun j u hu => hg.cell (h.1 j u hu) hne, fun j => by rw [World.frozen?_of_block (hg.block b h.2.2 hne)]; exact h.2.1 j, Nat.lt_of_lt_of_le h.2.2 hg.size⟩
theorem BoxN.new (w : World) (r : List Value) (E : TypeId) : BoxN (w.alloc (.cells r.toArray E)) w.heap.size r := by
  refine ⟨fun j u hu => ?_, fun j => ?_, by simp⟩
  · have := cells_new w r E j u (by simpa using hu)
    rwa [addr_add, Nat.zero_add] at this
  · rw [World.frozen?, heap_alloc_new]; rfl
theorem BoxN.drew {w : World} {b : Nat} {cs : List Value} (h : BoxN w b cs) : BoxN w.drew b cs := h
theorem Box1.drew {w : World} {b : Nat} {v : Value} (h : Box1 w b v) : Box1 w.drew b v := h
end Go.Proofs.YtbjilpemckoioaaDoor
/- Slices of the call's own that grow from call to call; a store into one; laws of no program. -/
namespace Go.Proofs.YtbjilpemckoioaaDoor
open Go.RowKit
set_option linter.unusedVariables false

theorem flatten_set {sz : Nat} (u : Value) (j : Nat) (hj : j < sz) : ∀ (rows : List (List Value)) (i : Nat) (r : List Value), (∀ r ∈ rows, r.length = sz) → rows[i]? = some r → rows.flatten.set (i * sz + j) u = (rows.set i (r.set j u)).flatten := by
  intro rows
  induction rows with
  | nil => intro i r _ h; simp at h
  | cons r0 rows ih =>
    intro i r hl h
    have h0 : r0.length = sz := hl r0 (by simp)
    cases i with
    | zero =>
      simp at h; subst h
      rw [List.flatten_cons, List.set_append_left _ _ (by omega), List.set_cons_zero, List.flatten_cons, Nat.zero_mul, Nat.zero_add]
    | succ i =>
      rw [List.getElem?_cons_succ] at h
      have := ih i r (fun r h => hl r (by simp [h])) h
      rw [List.flatten_cons, List.set_append_right _ _ (by rw [Nat.add_mul]; omega), List.set_cons_succ, List.flatten_cons, ← this]
      congr 2
      rw [Nat.add_mul, h0]; omega
/-- A store into one cell of a slice of the call's own. -/
theorem Own.store {w : World} {B E sz g n cap i j : Nat} {rows : List (List Value)} {r : List Value} (h : Own w B E sz (.slice (some ⟨g, 0, none⟩) n cap) rows) (hr : rows[i]? = some r) (hj : j < sz) (u : Value) :
    Own (w.setCell ⟨g, i * sz + j, none⟩ u) B E sz (.slice (some ⟨g, 0, none⟩) n cap) (rows.set i (r.set j u)) ∧ w.grownBy (w.setCell ⟨g, i * sz + j, none⟩ u) (some g) := by
  have hn : rows.length = n := by
    obtain ⟨a, c, hv, _⟩ := h.sl
    injection hv with _ h2 _; exact h2.symm
  have ho := own_flat h
  rw [hn] at ho
  obtain ⟨h1, h2⟩ := ho.stored (i * sz + j) u
  refine ⟨?_, h2⟩
  rw [flatten_set u j hj rows i r h.1 hr] at h1
  refine own_mk ?_ (by rw [List.length_set, hn]; exact h1)
  intro x hx
  rcases List.mem_or_eq_of_mem_set hx with hx | rfl
  · exact h.1 x hx
  · rw [List.length_set]; exact h.1 r (List.mem_of_getElem? hr)
/-- The same, told by what the cell held. -/
theorem Own.cell {w : World} {B E sz g n cap i j : Nat} {rows : List (List Value)} {r : List Value} {u : Value} (h : Own w B E sz (.slice (some ⟨g, 0, none⟩) n cap) rows) (hr : rows[i]? = some r) (hu : r[j]? = some u) :
    w.cell? ⟨g, i * sz + j, none⟩ = some u ∧ w.frozen? ⟨g, i * sz + j, none⟩ = false := by
  have hn : rows.length = n := by
    obtain ⟨a, c, hv, _⟩ := h.sl
    injection hv with _ h2 _; exact h2.symm
  have ho := own_flat h
  rw [hn] at ho
  have hfl := flatten_at h.1 i r hr j u hu
  have hlt := (List.getElem?_eq_some_iff.1 hfl).1
  rw [flatten_len h.1, hn] at hlt
  exact ⟨by rw [ho.cellAt _ hlt]; exact hfl, ho.frozenAt _⟩
theorem Own.addr {w : World} {B E sz : Nat} {v : Value} {rows : List (List Value)} (h : Own w B E sz v rows) (hne : rows ≠ []) : ∃ g c, v = .slice (some ⟨g, 0, none⟩) rows.length c ∧ B ≤ g ∧ g < w.heap.size := by
  obtain ⟨hl, xs, ho, hp⟩ := h
  rcases ho.2 with ⟨rfl, hn⟩ | ⟨g, cap, cur, rfl, hb, hg, r⟩
  · exact absurd (List.eq_nil_of_length_eq_zero hn) hne
  · exact ⟨g, cap, rfl, hb, (Array.getElem?_eq_some_iff.1 hg).1⟩
/-- From a slice of the call's own to another: in its row, or in a new block. -/
def Gr (w : World) (v : Value) (w' : World) (v' : Value) : Prop := w.grownBy w' v.ownBlock ∧ (v'.ownBlock = v.ownBlock ∨ ∀ g, v'.ownBlock = some g → w.heap.size ≤ g)
theorem Gr.refl (w : World) (v : Value) : Gr w v w v := ⟨grownBy_refl _ _, .inl rfl⟩
theorem Gr.trans {w w1 w2 : World} {v v1 v2 : Value} (h : Gr w v w1 v1) (h2 : Gr w1 v1 w2 v2) : Gr w v w2 v2 := by
  refine ⟨grownBy_trans h.1 h2.1 h.2, ?_⟩
  rcases h2.2 with e | e
  · rw [e]; exact h.2
  · exact .inr fun g hg => Nat.le_trans h.1.size (e g hg)
theorem Gr.of_below {w w1 : World} {v : Value} (h : Below w.heap.size w w1) : Gr w v w1 v := ⟨below_grownBy h _, .inl rfl⟩
theorem Gr.app {w w1 : World} {v v1 : Value} (hg : w.grownBy w1 v.ownBlock) (hv : v1.ownBlock = v.ownBlock ∨ v1.ownBlock = some w.heap.size) : Gr w v w1 v1 :=
  ⟨hg, hv.imp id fun e g hg => by rw [e] at hg; cases hg; exact Nat.le_refl _⟩
theorem Gr.kept {w w1 : World} {v v1 : Value} (h : Gr w v w1 v1) {a : Addr} {u : Value} (hc : w.cell? a = some u) (hne : v.ownBlock ≠ some a.block) : w1.cell? a = some u :=
  h.1.cell hc (fun e => hne e.symm)
theorem Gr.ne {w w1 : World} {v v1 : Value} (h : Gr w v w1 v1) {b : Nat} (hb : b < w.heap.size) (hne : v.ownBlock ≠ some b) : v1.ownBlock ≠ some b := by
  rcases h.2 with e | e
  · rw [e]; exact hne
  · intro hg; have := e b hg; omega
theorem Gr.below {w w1 : World} {v v1 : Value} {B : Nat} (h : Gr w v w1 v1) (hB : B ≤ w.heap.size) (hv : ∀ g, v.ownBlock = some g → B ≤ g) : Below B w w1 :=
  ⟨h.1.os, h.1.tape, h.1.output, h.1.size, fun k hk => h.1.block k (by omega) (fun e => by have := hv k e.symm; omega)⟩
theorem Own.no {w : World} {B E sz : Nat} {v : Value} {rows : List (List Value)} (h : Own w B E sz v rows) {b : Nat} (hb : b < B ∨ w.heap.size ≤ b) : v.ownBlock ≠ some b := by
  intro e; have := h.lt b e; omega
/-- The block that 'buildSlice' lays for two elements. -/
theorem cells_new2 (W : World) (r1 r2 : List Value) (E : TypeId) : ∀ j u, [r1, r2].flatten[j]? = some u → (W.alloc (.cells (r1 ++ r2).toArray E)).cell? ((⟨W.heap.size, 0, none⟩ : Addr).add j) = some u := by
  intro j u hu
  exact cells_new W (r1 ++ r2) E j u (by simpa using hu)
/-- A grown slice of the call's own. -/
def GrPost (B E sz : Nat) (rows : List (List Value)) (v : Value) (w : World) (e : Ending) (w' : World) : Prop :=
  ∃ v', e = .returned v' ∧ Own w' B E sz v' rows ∧ Gr w v w' v'
end Go.Proofs.YtbjilpemckoioaaDoor
/- The plain mathematics of wire numbers: what the varint functions compute, said of lists of bytes and natural numbers. No program stands here. -/
namespace Go.Proofs.YtbjilpemckoioaaDoor

def contB (n : Nat) : UInt8 := UInt8.ofNat (128 + n % 128)
/-- The bytes of a number: seven bits a byte, the least first, the top bit says that more follow. -/
def varB (n : Nat) : List UInt8 :=
  if h : 128 ≤ n then contB n :: varB (n / 128) else [UInt8.ofNat n]
termination_by n
decreasing_by omega

theorem varB_big (n : Nat) (h : 128 ≤ n) : varB n = contB n :: varB (n / 128) := by
  rw [varB]; simp [h]
theorem varB_small (n : Nat) (h : n < 128) : varB n = [UInt8.ofNat n] := by
  rw [varB]; simp [Nat.not_le.2 h]
theorem varB_len_pos (n : Nat) : 0 < (varB n).length := by
  rw [varB]; split <;> simp
theorem varB_len (k : Nat) : ∀ n, n < 128 ^ (k + 1) → (varB n).length ≤ k + 1 := by
  induction k with
  | zero => intro n h; rw [varB_small n (by simpa using h)]; simp
  | succ k ih =>
    intro n h
    by_cases hb : 128 ≤ n
    · rw [varB_big n hb]
      have := ih (n / 128) (by rw [Nat.div_lt_iff_lt_mul (by omega)]; rw [Nat.pow_succ] at h; exact h)
      simp; omega
    · rw [varB_small n (by omega)]; simp
theorem varB_len10 (n : Nat) (h : n < 9223372036854775808) : (varB n).length ≤ 10 :=
  varB_len 9 n (Nat.lt_of_lt_of_le h (by decide))

/-- Reading a number: at most 'f' bytes more, 'k' were read, 'acc' is what they came to. The number, how many bytes it took, its last byte. -/
def scan : Nat → List UInt8 → Nat → Nat → Option (Nat × Nat × UInt8)
  | 0, _, _, _ => none
  | _ + 1, [], _, _ => none
  | f + 1, b :: l, k, acc => if b.toNat < 128 then some (acc + b.toNat % 128 * 2 ^ (7 * k), k + 1, b) else scan f l (k + 1) (acc + b.toNat % 128 * 2 ^ (7 * k))

theorem scan_len : ∀ f l k acc n e b, scan f l k acc = some (n, e, b) → k < e ∧ e ≤ k + l.length ∧ e ≤ k + f := by
  intro f
  induction f with
  | zero => intro l k acc n e b h; simp [scan] at h
  | succ f ih =>
    intro l k acc n e b h
    cases l with
    | nil => simp [scan] at h
    | cons c l =>
      rw [scan] at h
      split at h
      · simp at h; obtain ⟨_, rfl, _⟩ := h; rw [List.length_cons]; omega
      · have := ih _ _ _ _ _ _ h; rw [List.length_cons]; omega

theorem scan_bound : ∀ f l k acc n e b, scan f l k acc = some (n, e, b) → acc < 2 ^ (7 * k) → n < 2 ^ (7 * (k + f)) := by
  intro f
  induction f with
  | zero => intro l k acc n e b h; simp [scan] at h
  | succ f ih =>
    intro l k acc n e b h ha
    cases l with
    | nil => simp [scan] at h
    | cons c l =>
      have step : acc + c.toNat % 128 * 2 ^ (7 * k) < 2 ^ (7 * (k + 1)) := by
        have h1 : c.toNat % 128 ≤ 127 := by omega
        have h2 := Nat.mul_le_mul_right (2 ^ (7 * k)) h1
        have h3 : 2 ^ (7 * (k + 1)) = 128 * 2 ^ (7 * k) := by rw [show 7 * (k + 1) = 7 * k + 7 by omega, Nat.pow_add]; omega
        omega
      rw [scan] at h
      split at h
      · simp at h
        obtain ⟨rfl, _, _⟩ := h
        exact Nat.lt_of_lt_of_le step (Nat.pow_le_pow_right (by omega) (by omega))
      · have := ih _ _ _ _ _ _ h step
        rw [show k + (f + 1) = k + 1 + f by omega]; exact this

theorem scan_bound0 {l : List UInt8} {n e : Nat} {b : UInt8} (h : scan 5 l 0 0 = some (n, e, b)) : n < 34359738368 ∧ 0 < e ∧ e ≤ l.length ∧ e ≤ 5 := by
  have h1 := scan_bound 5 l 0 0 n e b h (by simp)
  have h2 := scan_len 5 l 0 0 n e b h
  simp at h1 h2
  omega

/-- The step of the Go text's own accumulation, in natural numbers. -/
theorem acc_step (acc k : Nat) (b : Nat) (hk : k < 5) (ha : acc < 2 ^ (7 * k)) (hb : b < 128) :
    bits .or .i64 (acc : Int) ((b * 2 ^ (7 * k) : Nat) : Int) = ((acc + b * 2 ^ (7 * k) : Nat) : Int) := by
  have hw : ∀ n : Int, 0 ≤ n → n < 2 ^ 63 → IntKind.i64.wrap n = n := fun n h0 h1 => by rw [IntKind.wrap_i64]; omega
  have hp : 2 ^ (7 * k) ≤ 2 ^ 28 := Nat.pow_le_pow_right (by omega) (by omega)
  have hm := Nat.mul_le_mul (Nat.le_of_lt_succ hb) hp
  have hn := (bits_nat .i64 63 (by decide) hw acc (b * 2 ^ (7 * k)) (by omega) (by omega)).2
  rw [hn]
  congr 1
  rw [Nat.or_comm, ← Nat.shiftLeft_eq, ← Nat.shiftLeft_add_eq_or_of_lt ha]
  omega
end Go.Proofs.YtbjilpemckoioaaDoor
/- The walks of the wire numbers: within, fold, unfold, varint, takeVarint, of the program and of the reference. -/
namespace Go.Proofs.YtbjilpemckoioaaDoor
open Go.RowKit
set_option linter.unusedVariables false
set_option maxRecDepth 100000

def unf (n : Int) : Int := if n % 2 = 1 then -((n+1)/2) else n / 2
def fld (n : Int) : Int := if n < 0 then -2 * n - 1 else 2 * n
theorem unf1 (n : Int) (h0 : 0 ≤ n) (h1 : n ≤ 1000000000000) (h : (n % 2 == 1) = true) : wrap64 (-(n + 1).tdiv 2) = unf n := by
  have : n % 2 = 1 := by simpa using h
  have e : (n+1).tdiv 2 = (n+1)/2 := Int.tdiv_eq_ediv_of_nonneg (by omega)
  rw [e, IntWalk.wrap64_in _ (by omega), unf, if_pos this]
theorem unf0 (n : Int) (h : (n % 2 == 1) = false) : n / 2 = unf n := by
  have : ¬ n % 2 = 1 := by simpa using h
  rw [unf, if_neg this]
theorem unf1' (n : Int) (h0 : 0 ≤ n) (h1 : n ≤ 1000000000000) (h : (n % 2 == 0) = false) : wrap64 (-(n + 1).tdiv 2) = unf n :=
  unf1 n h0 h1 (by simp at h ⊢; omega)
theorem unf0' (n : Int) (h : (n % 2 == 0) = true) : n / 2 = unf n := unf0 n (by simp at h ⊢; omega)
theorem unf_bd (n : Int) (h0 : 0 ≤ n) (h1 : n ≤ 1000000000000) : -500000000000 ≤ unf n ∧ unf n ≤ 500000000000 := by
  unfold unf; split <;> omega

/-- 'within', with its answer as a name of its own. -/
theorem within_i (n lo hi : Int) (w : World) (b : Bool) (hb : decide (lo ≤ n ∧ n ≤ hi) = b) :
    Calls Tryd.prog 43 #[.int .i64 n, .int .i64 lo, .int .i64 hi] w fun e w' => e = .returned (.bool b) ∧ w = w' := by
  by_cases h1 : lo ≤ n
  · by_cases h2 : n ≤ hi
    · obtain rfl : b = true := by rw [← hb]; simp [h1, h2]
      go_enter Tryd.func43, Tryd.ntmps43
      go_wp2
      go_ret
      exact ⟨rfl, rfl⟩
    · obtain rfl : b = false := by rw [← hb]; simp [h2]
      go_enter Tryd.func43, Tryd.ntmps43
      go_wp2
      go_ret
      exact ⟨rfl, rfl⟩
  · obtain rfl : b = false := by rw [← hb]; simp [h1]
    go_enter Tryd.func43, Tryd.ntmps43
    go_wp2
    go_ret
    exact ⟨rfl, rfl⟩
theorem within_s (n lo hi : Int) (w : World) (b : Bool) (hb : decide (lo ≤ n ∧ n ≤ hi) = b) :
    Calls Tryd.prog 41 #[.int .i64 n, .int .i64 lo, .int .i64 hi] w fun e w' => e = .returned (.bool b) ∧ w = w' := by
  by_cases h1 : lo ≤ n
  · by_cases h2 : n ≤ hi
    · obtain rfl : b = true := by rw [← hb]; simp [h1, h2]
      go_enter Tryd.func41, Tryd.ntmps41
      go_wp2
      go_ret
      exact ⟨rfl, rfl⟩
    · obtain rfl : b = false := by rw [← hb]; simp [h2]
      go_enter Tryd.func41, Tryd.ntmps41
      go_wp2
      go_ret
      exact ⟨rfl, rfl⟩
  · obtain rfl : b = false := by rw [← hb]; simp [h1]
    go_enter Tryd.func41, Tryd.ntmps41
    go_wp2
    go_ret
    exact ⟨rfl, rfl⟩
end Go.Proofs.YtbjilpemckoioaaDoor
/- The bounds of numbers. -/
namespace Go.Proofs.YtbjilpemckoioaaDoor
open Go.RowKit
set_option linter.unusedVariables false
set_option maxRecDepth 100000
def numB (n : Int) : Bool := decide (-1000000000 ≤ n ∧ n ≤ 1000000000)
end Go.Proofs.YtbjilpemckoioaaDoor
/- The laws' helpers on []int: toIntS, eqIntS. -/
namespace Go.Proofs.YtbjilpemckoioaaDoor
open Go.RowKit
set_option linter.unusedVariables false
set_option maxRecDepth 100000
theorem infoInt : (Tryd.prog.info? 3).map (fun i => (i.zero, i.size, i.bytes)) = some (some (.int .i64 0), 1, 8) := by kernel_rfl
def ToIntPost (l : List Int) (w : World) (e : Ending) (w' : World) : Prop := ∃ v, e = .returned v ∧ Own w' w.heap.size 3 1 v (l.map encI) ∧ Below w.heap.size w w'
end Go.Proofs.YtbjilpemckoioaaDoor
/- Small laws on memory that several groups share; of no program. -/
namespace Go.Proofs.YtbjilpemckoioaaDoor
open Go.RowKit
set_option linter.unusedVariables false
theorem Cells.kept {w w' : World} {b o sz : Nat} {rows : List (List Value)} {row : Option Nat} (h : Cells w b o sz rows) (hg : w.grownBy w' row) (hne : some b ≠ row) : Cells w' b o sz rows :=
  ⟨Nat.lt_of_lt_of_le h.1 hg.size, fun i r hr j u hu => by rw [World.cell?_of_block (w := w) (hg.block b h.1 hne)]; exact h.2 i r hr j u hu⟩
theorem ownsRow_below {w w' : World} {B E sz n : Nat} {v : Value} {xs : List Value} (h : w.ownsRow B E sz v n xs) (hb : Below w.heap.size w w') : w'.ownsRow B E sz v n xs :=
  h.kept (below_grownBy hb none) (by cases v.ownBlock <;> simp)
def iV (n : Int) : Value := .int .i64 n
theorem iV_cell {us : List Int} {p : Nat} (h : p < us.length) : (us.map iV)[p]? = some (.int .i64 us[p]) := by simp [h, iV]
/-- A row of integers of the call's own, read to a length. -/
theorem Sl_prefix {w : World} {B E g n cap m c : Nat} {us : List Int} (h : w.ownsRow B E 1 (.slice (some ⟨g, 0, none⟩) n cap) n (us.map iV)) (hm : m ≤ us.length) : Sl w (.slice (some ⟨g, 0, none⟩) m c) 1 ((us.take m).map encI) := by
  have hl : us.length = n := by have := h.1; simpa using this
  refine ⟨_, c, by rw [List.length_map, List.length_take, Nat.min_eq_left hm], ?_⟩
  by_cases h0 : m = 0
  · left; subst h0; simp
  refine .inr ⟨g, 0, rfl, ?_, ?_⟩
  · exact (h.lt g rfl).2
  intro i r hr j u hu
  have hi : i < m := by have := (List.getElem?_eq_some_iff.1 hr).1; simp at this; omega
  rw [List.getElem?_map, List.getElem?_take_of_lt hi, List.getElem?_eq_getElem (by omega)] at hr
  simp at hr
  subst hr
  have hj : j = 0 := by have := (List.getElem?_eq_some_iff.1 hu).1; simp [encI] at this; exact this
  subst hj
  simp [encI] at hu
  subst hu
  rw [show 0 + i * 1 + 0 = i by omega, h.cellAt i (by omega), iV_cell (by omega)]
def IBPost (a : Int) (b : Bool) (w : World) (e : Ending) (w' : World) : Prop := e = .returned (.tuple #[.int .i64 a, .bool b]) ∧ Below w.heap.size w w'
end Go.Proofs.YtbjilpemckoioaaDoor
/- A map from strings to bools that the call makes: which names it holds; laws of no program. -/
namespace Go.Proofs.YtbjilpemckoioaaDoor
open Go.RowKit Go.Maps Go.WideMaps
set_option linter.unusedVariables false

theorem plainElem_bool_inv {H : Type} {P : Program} {e : TypeId} (he : P.underlying e = some .bool) {v : Value} {z : DataW H × List MemPlace} (h : plainElem P e v = some z) : ∃ x, v = .bool x ∧ z = (.lit (.bool x), []) := by
  unfold plainElem at h
  rw [he] at h
  cases v <;> simp at h
  obtain rfl := h
  exact ⟨_, rfl, rfl⟩
/-- Block b is a map, of at most n entries, that holds true at these names. -/
def HasMap (P : Program) (k e : TypeId) (w : World) (b n : Nat) (names : List (List UInt8)) : Prop :=
  ∃ D : DataW Nat, w.ownsMap P k (plainElem P e) b n D ∧ IsMap D ∧ ∀ s : ByteArray, D.atKey (.string s.data.toList) (.lit (.bool false)) = .lit (.bool (decide (s.data.toList ∈ names)))
theorem HasMap.made (P : Program) (k e : TypeId) (w : World) : HasMap P k e (w.alloc (.map #[] 0)) w.heap.size 0 [] :=
  ⟨_, World.ownsMap_made w P k _, isMap_empty, fun s => by simp [DataW.atKey]⟩
theorem HasMap.kept {P : Program} {k e : TypeId} {w w' : World} {b n : Nat} {names : List (List UInt8)} {row : Option Nat} (h : HasMap P k e w b n names) (hg : w.grownBy w' row) (hne : some b ≠ row) : HasMap P k e w' b n names := by
  obtain ⟨D, h1, h2⟩ := h
  exact ⟨D, h1.kept hg hne, h2⟩
theorem HasMap.drew {P : Program} {k e : TypeId} {w : World} {b n : Nat} {names : List (List UInt8)} (h : HasMap P k e w b n names) : HasMap P k e w.drew b n names := by
  obtain ⟨D, h1, h2⟩ := h
  exact ⟨D, h1.drew, h2⟩
theorem HasMap.drewN {P : Program} {k e : TypeId} {b m : Nat} {names : List (List UInt8)} : ∀ (n : Nat) {w : World}, HasMap P k e w b m names → HasMap P k e (w.drewN n) b m names := by
  intro n
  induction n with
  | zero => intro w h; exact h
  | succ n ih => intro w h; first | exact ih h.drew | exact (ih h).drew
theorem HasMap.look {P : Program} {k e t : TypeId} {w : World} {b n : Nat} {names : List (List UInt8)} (h : HasMap P k e w b n names) (hk : P.underlying k = some .string) (he : P.underlying e = some .bool) (ht : P.underlying t = some (.map k e)) (hz : (zeroValue e).run P w = .ok (.bool false) w) {s : ByteArray} (hs : s.size ≤ maxLen) (c : Bool) (hc : decide (s.data.toList ∈ names) = c) :
    (Instr.lookup t (.map (some b)) (.string s) false).run P w = .ok (.bool c) w := by
  obtain ⟨D, h1, h2, h3⟩ := h
  obtain ⟨v, ps, hrun, hv⟩ := h1.lookup (string_keyed hk) ht hz (plainElem_bool he false) (keyOf_string_mk hk hs)
  obtain ⟨x, rfl, hx⟩ := plainElem_bool_inv he hv
  simp only [Prod.mk.injEq] at hx
  rw [h3 s] at hx
  have : x = c := by rw [← hc]; simpa using hx.1.symm
  rw [hrun, this]
theorem HasMap.put {P : Program} {k e : TypeId} {w : World} {b n : Nat} {names : List (List UInt8)} {D : DataW Nat} {s : ByteArray} (h : w.ownsMap P k (plainElem P e) b n (D.put (.string s.data.toList) (.lit (.bool true)))) (hD : IsMap D)
    (h3 : ∀ s : ByteArray, D.atKey (.string s.data.toList) (.lit (.bool false)) = .lit (.bool (decide (s.data.toList ∈ names)))) : HasMap P k e w b n (names ++ [s.data.toList]) := by
  refine ⟨_, h, hD.put _ _, fun u => ?_⟩
  by_cases hu : u.data.toList = s.data.toList
  · rw [hu, atKey_put_same hD (by trivial)]; simp
  · rw [atKey_put_other (by intro e; apply hu; simpa using e), h3 u]
    simp [hu]
end Go.Proofs.YtbjilpemckoioaaDoor
/- The walks of varint (the program's, which appends; the reference's, which joins strings). -/
namespace Go.Proofs.YtbjilpemckoioaaDoor
open Go.RowKit
set_option linter.unusedVariables false
set_option maxRecDepth 100000

theorem infoU8 : (Tryd.prog.info? 5).map (fun i => (i.zero, i.size, i.bytes)) = some (some (.int .u8 0), 1, 1) := by kernel_rfl

/-- Where a grown slice lies: where the old one did, or in a block that is new since w. -/
def FR (w : World) (v v' : Value) : Prop := v'.ownBlock = v.ownBlock ∨ ∃ g, v'.ownBlock = some g ∧ w.heap.size ≤ g
theorem FR.refl (w : World) (v : Value) : FR w v v := .inl rfl
theorem FR.step {w w1 : World} {v v1 v2 : Value} (h : FR w v v1) (hw : w.heap.size ≤ w1.heap.size) (h2 : v2.ownBlock = v1.ownBlock ∨ v2.ownBlock = some w1.heap.size) : FR w v v2 := by
  rcases h2 with h2 | h2
  · rcases h with h | h
    · exact .inl (h2.trans h)
    · rw [← h2] at h; exact .inr h
  · exact .inr ⟨_, h2, hw⟩
theorem FR.trans {w w1 : World} {v v1 v2 : Value} (h : FR w v v1) (hw : w.heap.size ≤ w1.heap.size) (h2 : FR w1 v1 v2) : FR w v v2 := by
  rcases h2 with h2 | ⟨g, h2, hg⟩
  · exact h.step hw (.inl h2)
  · exact .inr ⟨g, h2, Nat.le_trans hw hg⟩
theorem FR.grow {w w1 w2 : World} {v v1 : Value} (h : FR w v v1) (hg : w.grownBy w1 v.ownBlock) (h2 : w1.grownBy w2 v1.ownBlock) : w.grownBy w2 v.ownBlock := by
  refine grownBy_trans hg h2 ?_
  rcases h with h | ⟨g, h, hs⟩
  · exact .inl h
  · exact .inr fun k hk => by rw [h] at hk; cases hk; exact hs

def BytesAt (w : World) (v : Value) (xs : List UInt8) : Prop := w.ownsRow 0 5 1 v xs.length (xs.map byteV)
/-- 'xs' were appended to an owned slice of bytes. -/
def AppB (w : World) (v : Value) (xs : List UInt8) (e : Ending) (w' : World) : Prop :=
  ∃ v', e = .returned v' ∧ BytesAt w' v' xs ∧ w.grownBy w' v.ownBlock ∧ FR w v v'

theorem byte_cont (m : Nat) : Value.int .u8 (bits .or .u8 ((m : Int) % 256) 128) = byteV (contB m) := by
  unfold contB
  have h : ∀ x, x < 256 → (x ||| 128) = 128 + x % 128 := by decide +kernel
  have e : ((m : Int) % 256) = ((m % 256 : Nat) : Int) := by omega
  have e2 : (UInt8.ofNat (128 + m % 128)).toNat = 128 + m % 128 := by simp; omega
  rw [byteV, e, e2, show (128 : Int) = ((128 : Nat) : Int) from rfl, u8_or_nat _ _ (by omega) (by omega), h _ (by omega)]
  congr 2; omega
theorem byte_last (m : Nat) (h : m < 128) : Value.int .u8 (m : Int) = byteV (UInt8.ofNat m) := by
  have e2 : (UInt8.ofNat m).toNat = m := by simp; omega
  rw [byteV, e2]

theorem FR.stepA {w w1 : World} {v v1 v2 : Value} {o : Obj} (h : FR w v v1) (hw : w.heap.size ≤ w1.heap.size) (h2 : v2.ownBlock = v1.ownBlock ∨ v2.ownBlock = some (w1.alloc o).heap.size) : FR w v v2 :=
  h.step (w1 := w1.alloc o) (by simp; omega) h2
theorem grownBy_alloc_l {w w2 : World} {o : Obj} {r : Option Nat} (h : (w.alloc o).grownBy w2 r) : w.grownBy w2 r := grownBy_trans (World.grownBy_alloc w o r) h (.inl rfl)
theorem one1 {v : Value} (h : v.oneCell' = true) : ∀ u ∈ [v], u.oneCell' = true := by simpa using h
theorem own_len {w : World} {b e n : Nat} {v : Value} {xs ys : List Value} {m : Nat} (h : w.ownsRow b e 1 v n xs) (hx : xs = ys) (hn : n = m) : w.ownsRow b e 1 v m ys := by rw [← hx, ← hn]; exact h

end Go.Proofs.YtbjilpemckoioaaDoor
/- The walks of the reference's l1Varint and of the two VarintOf, and of the two takeVarint. -/
namespace Go.Proofs.YtbjilpemckoioaaDoor
open Go.RowKit
set_option linter.unusedVariables false
set_option maxRecDepth 100000

theorem and127_i64 (m : Nat) (h : m < 9223372036854775808) : bits .and .i64 (m : Int) 127 = ((m % 128 : Nat) : Int) := by
  have hw : ∀ n : Int, 0 ≤ n → n < 2 ^ 63 → IntKind.i64.wrap n = n := fun n h0 h1 => by rw [IntKind.wrap_i64]; omega
  have := bits_mask .i64 63 (by decide) hw 7 (by decide) (m : Int) (by omega) (by omega)
  rw [show (2 : Int) ^ 7 - 1 = 127 by decide] at this
  rw [this]; omega
theorem byte_cont2 (m : Nat) (h : m < 9223372036854775808) : Value.int .u8 (bits .or .u8 (bits .and .i64 (m : Int) 127 % 256) 128) = byteV (contB m) := by
  rw [and127_i64 m h, byte_cont, contB, contB, Nat.mod_mod]

/-- 'string([]byte{x})'. -/
theorem conv1 (W : World) (x : Int) (b : UInt8) (hx : Value.int .u8 x = byteV b) :
    (convert 78 9 (.slice (some ⟨W.heap.size, 0, none⟩) 1 1)).run Tryd.prog (W.alloc (.cells #[.int .u8 x] 5)) = .ok (.string (mkS [b])) (W.alloc (.cells #[.int .u8 x] 5)) := by
  refine run_str_row _ _ _ 5 _ [b] Tryd.underlying78 Tryd.underlying5 Tryd.underlying9 (.inr ⟨_, _, rfl, ?_⟩)
  rw [hx]
  exact cell_one_new _ _ _

end Go.Proofs.YtbjilpemckoioaaDoor
/- The walks of the two takeVarint. -/
namespace Go.Proofs.YtbjilpemckoioaaDoor
open Go.RowKit
set_option linter.unusedVariables false
set_option maxRecDepth 100000

/-- What the program's takeVarint answers at place a. -/
def tkI (l : List UInt8) (a : Nat) : Nat × Nat × Bool :=
  match scan 5 (l.drop a) 0 0 with
  | none => (0, 0, false)
  | some (n, e, b) => (n, a + e, decide (n ≤ 2000000001) && (decide (0 < b.toNat) || e == 1))
/-- What the reference's l1Take answers. -/
def tkS (l : List UInt8) (a : Nat) : Nat × Nat × Bool := if (tkI l a).2.2 then tkI l a else (0, 0, false)

theorem tkI_none {l : List UInt8} {a : Nat} (h : scan 5 (l.drop a) 0 0 = none) : tkI l a = (0, 0, false) := by rw [tkI, h]
theorem tkI_some {l : List UInt8} {a n e : Nat} {b : UInt8} (h : scan 5 (l.drop a) 0 0 = some (n, e, b)) :
    tkI l a = (n, a + e, decide (n ≤ 2000000001) && (decide (0 < b.toNat) || e == 1)) := by rw [tkI, h]
theorem tkI_bd (l : List UInt8) (a : Nat) : (tkI l a).1 < 34359738368 ∧ ((tkI l a).2.2 = true → (tkI l a).1 ≤ 2000000001 ∧ a < (tkI l a).2.1 ∧ (tkI l a).2.1 ≤ l.length) := by
  cases h : scan 5 (l.drop a) 0 0 with
  | none => rw [tkI_none h]; simp
  | some x =>
    obtain ⟨n, e, b⟩ := x
    have := scan_bound0 h
    rw [tkI_some h]
    simp only [List.length_drop] at this
    refine ⟨by simp; omega, fun hh => ?_⟩
    simp at hh ⊢
    omega
theorem tkS_bd (l : List UInt8) (a : Nat) : (tkS l a).1 ≤ 2000000001 ∧ ((tkS l a).2.2 = true → a < (tkS l a).2.1 ∧ (tkS l a).2.1 ≤ l.length) := by
  have := tkI_bd l a
  unfold tkS; split
  · rename_i h; exact ⟨(this.2 h).1, fun _ => (this.2 h).2⟩
  · simp
theorem tkS_ok (l : List UInt8) (a : Nat) : (tkS l a).2.2 = (tkI l a).2.2 := by
  unfold tkS; split <;> simp_all

theorem scan_step {l : List UInt8} {i f k acc : Nat} (h : i < l.length) :
    scan (f + 1) (l.drop i) k acc = if (l[i]).toNat < 128 then some (acc + (l[i]).toNat % 128 * 2 ^ (7 * k), k + 1, l[i]) else scan f (l.drop (i + 1)) (k + 1) (acc + (l[i]).toNat % 128 * 2 ^ (7 * k)) := by
  rw [List.drop_eq_getElem_cons h, scan]
theorem scan_end {l : List UInt8} {i f k acc : Nat} (h : l.length ≤ i) : scan f (l.drop i) k acc = none := by
  rw [List.drop_eq_nil_of_le h]; cases f <;> rfl

/-- The step as the walk spells it. -/
theorem step_i (acc k : Nat) (b : UInt8) (hk : k < 5) (ha : acc < 2 ^ (7 * k)) :
    bits .or .i64 (acc : Int) (wrap64 (wrap64 (bits .and .u8 (b.toNat : Int) 127) * 2 ^ (7 * k))) = ((acc + b.toNat % 128 * 2 ^ (7 * k) : Nat) : Int) := by
  have hb := b.toNat_lt
  have e1 : bits .and .u8 (b.toNat : Int) 127 = ((b.toNat % 128 : Nat) : Int) := by
    have := bits_mask .u8 8 (by decide) wraps_u8 7 (by decide) (b.toNat : Int) (by omega) (by omega)
    rw [show (2 : Int) ^ 7 - 1 = 127 by decide] at this
    rw [this]; omega
  have hp : 2 ^ (7 * k) ≤ 2 ^ 28 := Nat.pow_le_pow_right (by omega) (by omega)
  have hm := Nat.mul_le_mul (show b.toNat % 128 ≤ 127 by omega) hp
  rw [e1, IntWalk.wrap64_in ((b.toNat % 128 : Nat) : Int) (by omega)]
  have e2 : ((b.toNat % 128 : Nat) : Int) * 2 ^ (7 * k) = ((b.toNat % 128 * 2 ^ (7 * k) : Nat) : Int) := by simp
  rw [e2, IntWalk.wrap64_in _ (by omega)]
  exact acc_step acc k _ hk ha (by omega)
theorem acc_lt (acc k : Nat) (b : Nat) (ha : acc < 2 ^ (7 * k)) : acc + b % 128 * 2 ^ (7 * k) < 2 ^ (7 * (k + 1)) := by
  have h1 : b % 128 ≤ 127 := by omega
  have h2 := Nat.mul_le_mul_right (2 ^ (7 * k)) h1
  have h3 : 2 ^ (7 * (k + 1)) = 128 * 2 ^ (7 * k) := by rw [show 7 * (k + 1) = 7 * k + 7 by omega, Nat.pow_add]; omega
  omega

def TkPost (w : World) (r : Nat × Nat × Bool) (e : Ending) (w' : World) : Prop :=
  e = .returned (.tuple #[.int .i64 (r.1 : Nat), .int .i64 (r.2.1 : Nat), .bool r.2.2]) ∧ w = w'

theorem getB (s : ByteArray) (i : Nat) (h : i < s.size) (h' : i < s.data.toList.length) : s.data.toList[i] = s[i] := rfl

/-- One round's facts, hidden: 'N' is what has been read behind this byte. -/
theorem tk_round (s : ByteArray) (a k acc : Nat) (hk : k < 5) (h : a + k < s.size) (hacc : acc < 2 ^ (7 * k)) :
    ∃ N, bits .or .i64 (acc : Int) (wrap64 (wrap64 (bits .and .u8 (s[a + k].toNat : Int) 127) * 2 ^ (7 * k))) = ((N : Nat) : Int) ∧
      N < 34359738368 ∧ Hd (N < 2 ^ (7 * (k + 1))) ∧
      Hd (scan (5 - k) (s.data.toList.drop (a + k)) k acc = if s[a + k].toNat < 128 then some (N, k + 1, s[a + k]) else scan (5 - (k + 1)) (s.data.toList.drop (a + (k + 1))) (k + 1) N) ∧
      bits .or .i64 (acc : Int) (wrap64 (bits .and .i64 (s[a + k].toNat : Int) 127 * 2 ^ (7 * k))) = ((N : Nat) : Int) := by
  have hl : a + k < s.data.toList.length := h
  have hlt := acc_lt acc k s[a + k].toNat hacc
  refine ⟨_, step_i acc k s[a + k] hk hacc, Nat.lt_of_lt_of_le hlt (Nat.pow_le_pow_right (n := 2) (j := 35) (by omega) (by omega)), hlt, ?_, ?_⟩
  · have := scan_step (f := 4 - k) (k := k) (acc := acc) hl
    rw [getB s (a + k) h hl, show 4 - k + 1 = 5 - k by omega, show 4 - k = 5 - (k + 1) by omega] at this
    exact this
  · have hb := s[a + k].toNat_lt
    have := step_i acc k s[a + k] hk hacc
    have e1 : bits .and .u8 (s[a + k].toNat : Int) 127 = ((s[a + k].toNat % 128 : Nat) : Int) := by
      have := bits_mask .u8 8 (by decide) wraps_u8 7 (by decide) (s[a + k].toNat : Int) (by omega) (by omega)
      rw [show (2 : Int) ^ 7 - 1 = 127 by decide] at this
      rw [this]; omega
    rw [e1, IntWalk.wrap64_in ((s[a + k].toNat % 128 : Nat) : Int) (by omega)] at this
    rw [and127_i64 _ (by omega)]
    exact this

theorem tk_out {s : ByteArray} {a k acc : Nat} (hk : k ≤ 5) (hsc : Hd (scan (5 - k) (s.data.toList.drop (a + k)) k acc = scan 5 (s.data.toList.drop a) 0 0)) (h : k = 5 ∨ s.size ≤ a + k) : tkI s.data.toList a = (0, 0, false) := by
  refine tkI_none ?_
  rw [← hsc.out]
  rcases h with rfl | h
  · rfl
  · exact scan_end h
theorem tk_hit {s : ByteArray} {a k acc N : Nat} {b : UInt8} (hsc : Hd (scan (5 - k) (s.data.toList.drop (a + k)) k acc = scan 5 (s.data.toList.drop a) 0 0))
    (hss : Hd (scan (5 - k) (s.data.toList.drop (a + k)) k acc = if b.toNat < 128 then some (N, k + 1, b) else scan (5 - (k + 1)) (s.data.toList.drop (a + (k + 1))) (k + 1) N)) (hb : b.toNat < 128) :
    tkI s.data.toList a = (N, a + (k + 1), decide (N ≤ 2000000001) && (decide (0 < b.toNat) || k + 1 == 1)) := by
  refine tkI_some ?_
  rw [← hsc.out, hss.out, if_pos hb]
theorem tk_next {s : ByteArray} {a k acc N : Nat} {b : UInt8} (hsc : Hd (scan (5 - k) (s.data.toList.drop (a + k)) k acc = scan 5 (s.data.toList.drop a) 0 0))
    (hss : Hd (scan (5 - k) (s.data.toList.drop (a + k)) k acc = if b.toNat < 128 then some (N, k + 1, b) else scan (5 - (k + 1)) (s.data.toList.drop (a + (k + 1))) (k + 1) N)) (hb : ¬ b.toNat < 128) :
    Hd (scan (5 - (k + 1)) (s.data.toList.drop (a + (k + 1))) (k + 1) N = scan 5 (s.data.toList.drop a) 0 0) := by
  show _ = _
  rw [← hsc.out, hss.out, if_neg hb]

theorem tkS_bad {l : List UInt8} {a k N : Nat} {b : UInt8} (h : tkI l a = (N, a + (k + 1), decide (N ≤ 2000000001) && (decide (0 < b.toNat) || k + 1 == 1))) (hb : (0 < k ∧ b.toNat = 0) ∨ 2000000001 < N) : tkS l a = (0, 0, false) := by
  rw [tkS, h, if_neg]
  simp; omega
theorem tkS_good {l : List UInt8} {a k N : Nat} {b : UInt8} (h : tkI l a = (N, a + (k + 1), decide (N ≤ 2000000001) && (decide (0 < b.toNat) || k + 1 == 1))) (hb : ¬ ((0 < k ∧ b.toNat = 0) ∨ 2000000001 < N)) : tkS l a = (N, a + (k + 1), true) := by
  have e : (decide (N ≤ 2000000001) && (decide (0 < b.toNat) || k + 1 == 1)) = true := by simp; omega
  rw [tkS, h, e]; rfl
end Go.Proofs.YtbjilpemckoioaaDoor

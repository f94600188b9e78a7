/- What bytes of a type tell, as a tree: by parts and by fields; plain (with EncM, DecW, Fold). -/
import Derived.Test.YtobahkjbadamhaaFitMM
import Derived.Test.YtobahkjbadamhaaReads
import Derived.Test.YtobahkjbadamhaaFieldsW
/- What bytes of a type tell, as a tree: by parts and by fields; plain. -/
namespace Go.Proofs.Ytobahkjbadamhaa
open Go.RowKit
set_option linter.unusedVariables false
def foldB (o : Int) : Bool := o == 1 || o == 3
def leafV (n : Int) (s : ByteArray) (no : Int) : K := .mk 1 s no false n []
def numV (o mo n : Int) : Bool := numB n && (o == 1 || decide (0 ≤ n ∧ n ≤ mo))
/-- One item of a list, and where it ends. -/
def itemAt (o mo : Int) (g : ByteArray → Option K) (b : List UInt8) (a : Nat) : Option (K × Nat) :=
  if foldB o = true then (if (tkI b a).2.2 = true ∧ numV o mo (unf (tkI b a).1) = true then some (leafV (unf (tkI b a).1) ⟨#[]⟩ 0, (tkI b a).2.1) else none)
  else (if (tb b a).2.2 = true then (g (mkS (tb b a).1)).map (fun v => (v, (tb b a).2.1)) else none)
def itemsF (h : Nat → Option (K × Nat)) (n : Nat) : Nat → Nat → Option (List K)
  | 0, _ => none
  | f + 1, a => if a < n then (match h a with
    | none => none
    | some (v, e) => (itemsF h n f e).map (fun vs => v :: vs)) else some []
/-- What a field of a part tells. -/
def partV (o mo : Int) (g : ByteArray → Option K) (f : DField) : Option K :=
  if foldB o = true then (if f.kind = 0 ∧ numV o mo f.num = true then some (leafV f.num ⟨#[]⟩ f.no) else none) else (if f.kind = 0 then none else g f.data)
mutual
def decK : K → Int → ByteArray → Option K
  | .mk o _ _ _ mo ps => fun no b =>
    if o = 2 then (if b.size ≤ 30 then some (leafV 0 b no) else none)
    else if o = 4 then (decH ps b).map (fun vs => .mk 5 ⟨#[]⟩ no true 0 vs)
    else if rfB b.data.toList = true then (decL ps (rfF b.data.toList)).map (fun vs => .mk 5 ⟨#[]⟩ no true 0 vs) else none
def decH : List K → ByteArray → Option (List K)
  | [] => fun _ => none
  | p :: _ => fun b => itemsF (itemAt p.of p.most (fun d => decK p 0 d) b.data.toList) b.data.toList.length (b.data.toList.length + 1) 0
def decL : List K → List DField → Option (List K)
  | [] => fun _ => some []
  | p :: ps => fun l => match l.find? (fun f => f.no == p.no) with
    | none => if p.must then none else decL ps l
    | some f => match partV p.of p.most (fun d => decK p p.no d) f with
      | none => none
      | some v => (decL ps l).map (fun vs => v :: vs)
end
def fieldV (p : K) (f : DField) : Option K := partV p.of p.most (fun d => decK p f.no d) f
/-- By fields. -/
def decF (ps : List K) : List DField → Option (List K)
  | [] => some []
  | f :: l => match ps.find? (byNo f.no) with
    | none => decF ps l
    | some p => match fieldV p f with
      | none => none
      | some v => (decF ps l).map (fun vs => v :: vs)
theorem decK_eq (t : K) (no : Int) (b : ByteArray) : decK t no b = if t.of = 2 then (if b.size ≤ 30 then some (leafV 0 b no) else none) else if t.of = 4 then (decH t.parts b).map (fun vs => .mk 5 ⟨#[]⟩ no true 0 vs)
    else if rfB b.data.toList = true then (decL t.parts (rfF b.data.toList)).map (fun vs => .mk 5 ⟨#[]⟩ no true 0 vs) else none := by
  cases t; rw [decK]; rfl
theorem dec_no {t v : K} {no : Int} {b : ByteArray} (h : decK t no b = some v) : v.no = no := by
  rw [decK_eq] at h
  split at h
  · split at h
    · cases h; rfl
    · cases h
  · split at h
    · obtain ⟨vs, _, rfl⟩ := Option.map_eq_some_iff.1 h; rfl
    · split at h
      · obtain ⟨vs, _, rfl⟩ := Option.map_eq_some_iff.1 h; rfl
      · cases h
theorem partV_no {o mo : Int} {p v : K} {no : Int} {f : DField} (hf : f.no = no) (h : partV o mo (fun d => decK p no d) f = some v) : v.no = no := by
  rw [partV] at h
  split at h
  · split at h
    · cases h; exact hf
    · cases h
  · split at h
    · cases h
    · exact dec_no h
theorem fieldV_no {p v : K} {f : DField} (h : fieldV p f = some v) : v.no = f.no := partV_no rfl h
def risesF (l : List DField) : Prop := l.Pairwise (fun x y => x.no < y.no)
theorem decF_nos {ps : List K} : ∀ {l : List DField} {vs : List K}, decF ps l = some vs → ∀ v ∈ vs, ∃ f ∈ l, f.no = v.no := by
  intro l
  induction l with
  | nil => intro vs h v hv; rw [decF] at h; cases h; cases hv
  | cons f l ih =>
    intro vs h v hv
    rw [decF] at h
    split at h
    · obtain ⟨g, hg, e⟩ := ih h v hv; exact ⟨g, by simp [hg], e⟩
    · split at h
      · cases h
      · rename_i p _ _ x hx
        obtain ⟨ws, hws, rfl⟩ := Option.map_eq_some_iff.1 h
        rcases List.mem_cons.1 hv with rfl | hv
        · exact ⟨f, by simp, (fieldV_no hx).symm⟩
        · obtain ⟨g, hg, e⟩ := ih hws v hv; exact ⟨g, by simp [hg], e⟩
theorem decF_skip {ps : List K} : ∀ {l1 : List DField} (l2 : List DField), (∀ f ∈ l1, ∀ y ∈ ps, y.no ≠ f.no) → decF ps (l1 ++ l2) = decF ps l2 := by
  intro l1
  induction l1 with
  | nil => intro l2 _; rfl
  | cons f l1 ih =>
    intro l2 h
    rw [List.cons_append, decF]
    have : ps.find? (byNo f.no) = none := by
      rw [List.find?_eq_none]; intro y hy; have := h f (by simp) y hy; simpa [byNo] using this
    rw [this]
    exact ih l2 (fun g hg => h g (by simp [hg]))
/-- A part that no field has. -/
theorem decF_none {p : K} {ps : List K} : ∀ {l : List DField}, (∀ f ∈ l, f.no ≠ p.no) → decF (p :: ps) l = decF ps l := by
  intro l
  induction l with
  | nil => intro _; rfl
  | cons f l ih =>
    intro h
    have hne := h f (by simp)
    have : (p :: ps).find? (byNo f.no) = ps.find? (byNo f.no) := by
      rw [List.find?_cons_of_neg]; simp [byNo]; exact fun e => hne e.symm
    rw [decF, decF, this, ih (fun g hg => h g (by simp [hg]))]
theorem musts_cons_ne {p : K} {ps : List K} {vs : List K} (h : p.must = false) : mustsB (p :: ps) vs = mustsB ps vs := by simp [mustsB, h]
theorem musts_cons_eq {p v : K} {ps : List K} {vs : List K} (h : v.no = p.no) (hp : ∀ y ∈ ps, p.no < y.no) : mustsB (p :: ps) (v :: vs) = mustsB ps vs := by
  rw [Bool.eq_iff_iff, musts_iff, musts_iff]
  constructor
  · intro g y hy hm
    obtain ⟨x, hx, e⟩ := g y (by simp [hy]) hm
    rcases List.mem_cons.1 hx with rfl | hx
    · have := hp y hy; omega
    · exact ⟨x, hx, e⟩
  · intro g y hy hm
    rcases List.mem_cons.1 hy with rfl | hy
    · exact ⟨v, by simp, h⟩
    · obtain ⟨x, hx, e⟩ := g y hy hm; exact ⟨x, by simp [hx], e⟩
/-- By parts and by fields are one. -/
theorem dec_same : ∀ (ps : List K) (l : List DField), risesK ps → risesF l → decL ps l = (decF ps l).bind (fun vs => if mustsB ps vs = true then some vs else none) := by
  intro ps
  induction ps with
  | nil =>
    intro l _ _
    have : decF [] l = some [] := by
      have := decF_skip (ps := []) (l1 := l) [] (fun _ _ y hy => by cases hy)
      rw [List.append_nil] at this; rw [this, decF]
    rw [this, decL]; rfl
  | cons p ps ih =>
    intro l hp hl
    obtain ⟨hp1, hp2⟩ := List.pairwise_cons.1 hp
    rw [decL]
    dsimp only
    split
    · rename_i hnone
      rw [List.find?_eq_none] at hnone
      have hne : ∀ f ∈ l, f.no ≠ p.no := fun f hf => by have := hnone f hf; simpa using this
      rw [decF_none hne]
      cases hm : p.must with
      | true =>
        rw [if_pos rfl]
        cases hd : decF ps l with
        | none => rfl
        | some vs =>
          have : mustsB (p :: ps) vs = false := by
            rw [← Bool.not_eq_true, musts_iff]
            intro g
            obtain ⟨x, hx, e⟩ := g p (by simp) hm
            obtain ⟨f, hf, e2⟩ := decF_nos hd x hx
            exact hne f hf (by omega)
          simp [this]
      | false =>
        rw [if_neg (by simp), ih l hp2 hl]
        congr 1; funext vs; rw [musts_cons_ne hm]
    · rename_i f hsome
      obtain ⟨hfe, l1, l2, rfl, hl1⟩ := List.find?_eq_some_iff_append.1 hsome
      have hfe : f.no = p.no := by simpa using hfe
      have hpw := List.pairwise_append.1 hl
      have hlt1 : ∀ g ∈ l1, g.no < p.no := fun g hg => by have := hpw.2.2 g hg f (by simp); omega
      have hlt2 : ∀ g ∈ l2, p.no < g.no := fun g hg => by have := (List.pairwise_cons.1 hpw.2.1).1 g hg; omega
      rw [ih _ hp2 hl, decF_skip (ps := p :: ps) _ (fun g hg y hy => by
          have := hlt1 g hg
          rcases List.mem_cons.1 hy with rfl | hy
          · omega
          · have := hp1 y hy; omega),
        decF_skip (ps := ps) _ (fun g hg y hy => by have := hlt1 g hg; have := hp1 y hy; omega)]
      rw [decF, decF]
      have e1 : (p :: ps).find? (byNo f.no) = some p := by rw [List.find?_cons_of_pos]; simp [byNo, hfe]
      have e2 : ps.find? (byNo f.no) = none := by
        rw [List.find?_eq_none]; intro y hy; have := hp1 y hy; simp [byNo]; omega
      rw [e1, e2, decF_none (fun g hg => by have := hlt2 g hg; omega)]
      dsimp only
      rw [show fieldV p f = partV p.of p.most (fun d => decK p p.no d) f by rw [fieldV, hfe]]
      cases hv : partV p.of p.most (fun d => decK p p.no d) f with
      | none => rfl
      | some v =>
        have hvn := partV_no hfe hv
        cases hd : decF ps l2 with
        | none => rfl
        | some vs =>
          simp only [Option.bind_some, Option.map_some]
          rw [musts_cons_eq hvn hp1]
          split <;> rfl
end Go.Proofs.Ytobahkjbadamhaa
/- The bytes of a value of a type: plain. -/
namespace Go.Proofs.Ytobahkjbadamhaa
open Go.RowKit
set_option linter.unusedVariables false
/-- The bytes of a part, of which its type tells how they are laid: with their length, if they are no number. -/
def sized (o : Int) (d : List UInt8) : List UInt8 := if foldB o = true then d else varB d.length ++ d
def kindN (o : Int) : Int := if foldB o = true then 0 else 2
def tagB (o no : Int) : List UInt8 := varB (8 * no + kindN o).toNat
mutual
def encB : K → K → List UInt8
  | .mk o _ _ _ _ ps => fun v => if o = 2 then v.name.data.toList else if foldB o = true then varB (fld v.most).toNat else if o = 4 then v.parts.flatMap (fun x => encH ps x) else v.parts.flatMap (fun x => encL1 ps x)
def encH : List K → K → List UInt8
  | [] => fun _ => []
  | p :: _ => fun x => sized p.of (encB p x)
def encL1 : List K → K → List UInt8
  | [] => fun _ => []
  | p :: ps => fun x => if p.no = x.no then tagB p.of p.no ++ sized p.of (encB p x) else encL1 ps x
end
theorem encB_eq (t v : K) : encB t v = if t.of = 2 then v.name.data.toList else if foldB t.of = true then varB (fld v.most).toNat else if t.of = 4 then v.parts.flatMap (fun x => encH t.parts x) else v.parts.flatMap (fun x => encL1 t.parts x) := by
  cases t; rw [encB]; rfl
theorem encH_one (p x : K) : encH [p] x = sized p.of (encB p x) := by rw [encH]
theorem encL1_first {x : K} : ∀ {ps : List K} {j : Nat} (h : firstP ps x.no j), encL1 ps x = tagB (ps[j]'h.1).of (ps[j]'h.1).no ++ sized (ps[j]'h.1).of (encB (ps[j]'h.1) x) := by
  intro ps
  induction ps with
  | nil => intro j h; have := h.1; simp at this
  | cons p ps ih =>
    intro j h
    obtain ⟨hj, h1, h2⟩ := h
    rw [encL1]
    dsimp only
    cases j with
    | zero => rw [if_pos (show p.no = x.no from h1)]; rfl
    | succ j =>
      rw [if_neg (show ¬ p.no = x.no from by have := h2 0 (by omega); simpa using this)]
      exact ih ⟨by simpa using hj, by simpa using h1, fun i hi => by have := h2 (i + 1) (by omega); simpa using this⟩
/-- A value's parts fit their types. -/
theorem fits_parts4 {t v : K} (h : fitsB t v = true) (h4 : t.of = 4) (hr : rightK t) : ∃ p, t.parts = [p] ∧ rightK p ∧ ∀ x ∈ v.parts, x.no = 0 ∧ fitsB p x = true := by
  obtain ⟨p, hp⟩ := right_one hr h4
  rw [fitsB_eq, if_pos (by rw [h4]; rfl), if_pos h4, hp, fitsH_one] at h
  simp only [Bool.and_eq_true, List.all_eq_true, beq_iff_eq] at h
  exact ⟨p, hp, right_part hr (by rw [hp]; simp), fun x hx => h.2 x hx⟩
theorem fits_parts5 {t v : K} (h : fitsB t v = true) (h5 : t.of = 5) (hr : rightK t) : risesK v.parts ∧ foundP t.parts v.parts ∧ mustP t.parts v.parts := by
  rw [fitsB_eq, if_pos (by rw [h5]; rfl), if_neg (by omega)] at h
  simp only [Bool.and_eq_true] at h
  exact (merge_iff _ _ (right_rises hr h5)).1 h.2
theorem foldB_iff {o : Int} : foldB o = true ↔ o = 1 ∨ o = 3 := by simp [foldB]
/-- The numbers of a value that fits. -/
theorem fits_num {t v : K} (h : fitsB t v = true) (hf : foldB t.of = true) (hr : rightK t) : numB v.most = true := by
  rw [foldB_iff] at hf
  rw [fitsB_eq, if_neg (by rcases hf with e | e <;> rw [e] <;> decide), leafB, if_neg (by omega)] at h
  simp only [Bool.and_eq_true] at h
  obtain ⟨_, h⟩ := h
  rcases hf with e | e
  · rw [if_neg (by omega)] at h; simp only [Bool.and_eq_true] at h; exact h.1
  · rw [if_pos e] at h
    simp only [Bool.and_eq_true, decide_eq_true_eq] at h
    rcases hr.ok.1 with g | g | g | g
    · omega
    · simp [numB]; omega
    · omega
    · omega
theorem fits_text {t v : K} (h : fitsB t v = true) (h2 : t.of = 2) : v.name.size ≤ 30 := by
  rw [fitsB_eq, if_neg (by rw [h2]; decide), leafB, if_pos h2] at h
  simp only [Bool.and_eq_true, decide_eq_true_eq] at h
  exact h.2.2
theorem sized_len (o : Int) (d : List UInt8) (hd : d.length ≤ 1000000) : (sized o d).length ≤ d.length + 10 := by
  have := varB_len10 d.length (by omega)
  unfold sized
  split
  · omega
  · rw [List.length_append]; omega
theorem tag_len {o no : Int} (h0 : 1 ≤ no) (h1 : no ≤ 30) : (tagB o no).length ≤ 10 := by
  unfold tagB kindN
  apply varB_len10
  split <;> omega
/-- How many bytes a value that fits has. -/
theorem enc_size (t : K) : rightK t → ∀ v, fitsB t v = true → countK v ≤ 1000 → (encB t v).length + 20 ≤ 60 * countK v := by
  refine K.ind2 (P := fun t => rightK t → ∀ v, fitsB t v = true → countK v ≤ 1000 → (encB t v).length + 20 ≤ 60 * countK v) ?_ t
  intro t ih hr v hf hc
  have hcv := countK_eq v
  rw [encB_eq]
  have hsum : ∀ (g : K → List UInt8) (vs : List K), (∀ x ∈ vs, (g x).length ≤ 60 * countK x) → (vs.flatMap g).length ≤ 60 * countL vs := by
    intro g vs
    induction vs with
    | nil => intro _; simp
    | cons x vs ihv =>
      intro h
      have h1 := h x (by simp)
      have h2 := ihv (fun y hy => h y (by simp [hy]))
      rw [List.flatMap_cons, List.length_append, countL]
      omega
  by_cases h2 : t.of = 2
  · rw [if_pos h2]
    have := fits_text hf h2
    have e : v.name.data.toList.length = v.name.size := data_len _
    omega
  · rw [if_neg h2]
    by_cases hfo : foldB t.of = true
    · rw [if_pos hfo]
      have hn := fits_num hf hfo hr
      have : (varB (fld v.most).toNat).length ≤ 10 := varB_len10 _ (by
        simp [numB] at hn
        unfold fld
        split <;> omega)
      omega
    · rw [if_neg hfo]
      by_cases h4 : t.of = 4
      · rw [if_pos h4]
        obtain ⟨p, hp, hrp, hx⟩ := fits_parts4 hf h4 hr
        have := hsum (fun x => encH t.parts x) v.parts (fun x hxm => by
          rw [hp, encH_one]
          have hcx := count_part hxm
          have h1 := ih p (by rw [hp]; simp) hrp x (hx x hxm).2 (by omega)
          have h2 := sized_len p.of (encB p x) (by omega)
          omega)
        omega
      · rw [if_neg h4]
        have h5 : t.of = 5 := by
          rw [foldB_iff] at hfo
          rcases right_holds hr with e | e | e | e | e <;> omega
        obtain ⟨_, hfd, _⟩ := fits_parts5 hf h5 hr
        have := hsum (fun x => encL1 t.parts x) v.parts (fun x hxm => by
          obtain ⟨j, hfj, hfit⟩ := found_at hfd (right_rises hr h5) hxm
          show (encL1 t.parts x).length ≤ _
          rw [encL1_first hfj, List.length_append]
          have hcx := count_part hxm
          have hmem : t.parts[j]'hfj.1 ∈ t.parts := List.getElem_mem hfj.1
          have h1 := ih _ hmem (right_part hr hmem) x hfit (by omega)
          have h2 := sized_len (t.parts[j]'hfj.1).of (encB (t.parts[j]'hfj.1) x) (by omega)
          have h3 := (hr.ok.2.1 _ hmem).1 h5
          have h4 := tag_len (o := (t.parts[j]'hfj.1).of) h3.2.1 h3.2.2
          omega)
        omega
end Go.Proofs.Ytobahkjbadamhaa
/- How many nodes bytes tell, and that they fit: plain. -/
namespace Go.Proofs.Ytobahkjbadamhaa
open Go.RowKit
set_option linter.unusedVariables false
/-- What fields weigh: their bytes of data and one each. -/
def wtA (l : List DField) : Nat := (l.map (fun f => f.data.size + 1)).sum
def wt (l : List DField) (n : Int) : Nat := wtA (l.filter (fun f => decide (f.no < n)))
theorem wtA_nil : wtA [] = 0 := rfl
theorem wtA_cons (f : DField) (l : List DField) : wtA (f :: l) = f.data.size + 1 + wtA l := by simp [wtA]
theorem wtA_append (l m : List DField) : wtA (l ++ m) = wtA l + wtA m := by simp [wtA]
theorem wt_le (l : List DField) (n : Int) : wt l n ≤ wtA l := by
  unfold wt
  induction l with
  | nil => simp [wtA]
  | cons f l ih =>
    rw [List.filter_cons]
    split
    · rw [wtA_cons, wtA_cons]; omega
    · rw [wtA_cons]; omega
theorem wt_mono {n m : Int} (h : n ≤ m) : ∀ l : List DField, wt l n ≤ wt l m := by
  intro l
  unfold wt
  induction l with
  | nil => simp
  | cons f l ih =>
    rw [List.filter_cons, List.filter_cons]
    by_cases h1 : f.no < n
    · have h2 : f.no < m := by omega
      simp only [h1, h2, decide_true, if_true, wtA_cons]; omega
    · by_cases h2 : f.no < m
      · simp only [h1, h2, decide_true, decide_false, if_true, wtA_cons]; simp; omega
      · simp only [h1, h2, decide_false]; simpa using ih
theorem wt_step {f : DField} {n : Int} (h : f.no < n) : ∀ {l : List DField}, f ∈ l → wt l f.no + (f.data.size + 1) ≤ wt l n := by
  intro l
  induction l with
  | nil => intro h; cases h
  | cons g l ih =>
    intro hm
    have hmn := wt_mono (Int.le_of_lt h) l
    unfold wt at *
    rw [List.filter_cons, List.filter_cons]
    rcases List.mem_cons.1 hm with rfl | hm
    · have h1 : ¬ f.no < f.no := by omega
      simp only [h, h1, decide_true, decide_false, if_true, wtA_cons]; simp; omega
    · have := ih hm
      by_cases h1 : g.no < f.no
      · have h2 : g.no < n := by omega
        simp only [h1, h2, decide_true, if_true, wtA_cons]; omega
      · by_cases h2 : g.no < n
        · simp only [h1, h2, decide_true, decide_false, if_true, wtA_cons]; simp; omega
        · simp only [h1, h2, decide_false]; simpa using this
theorem mkS_sz (l : List UInt8) : (mkS l).size = l.length := mkS_size l
theorem tb_len {l : List UInt8} {a : Nat} (h : (tb l a).2.2 = true) : a < (tb l a).2.1 - (tb l a).1.length ∧ (tb l a).1.length ≤ (tb l a).2.1 ∧ (tb l a).2.1 ≤ l.length := by
  obtain ⟨h1, h2, h3⟩ := tb_ok h
  have h4 := (tkI_bd l a).2 h1
  rw [h3]
  dsimp only
  rw [List.length_take, List.length_drop]
  omega
theorem fieldAt_wt {l : List UInt8} {a : Nat} (h : fieldOkAt l a = true) : (fieldAt l a).data.size + 1 + a ≤ fieldEnd l a := by
  simp only [fieldOkAt, Bool.and_eq_true] at h
  have h1 := (tkI_bd l a).2 h.1.1
  by_cases h2 : (tkI l a).1 % 8 = 2
  · have h3 := h.1.2
    rw [if_pos h2] at h3
    have h4 := tb_len h3
    rw [fieldAt, if_pos h2, fieldEnd, if_pos h2]
    show (mkS _).size + 1 + a ≤ _
    rw [mkS_sz]; omega
  · have h3 := h.1.2
    rw [if_neg h2] at h3
    have h7 := (tkI_bd l (tkI l a).2.1).2 h3
    rw [fieldAt, if_neg h2, fieldEnd, if_neg h2]
    show (0 : Nat) + 1 + a ≤ _
    omega
theorem readF_wt {l : List UInt8} : ∀ n a acc r, a ≤ l.length → wtA (acc.map (·.f)) ≤ a → readF l n a acc = some r → wtA (r.map (·.f)) ≤ l.length := by
  intro n
  induction n with
  | zero => intro a acc r _ _ h; cases h
  | succ n ih =>
    intro a acc r hl hw h
    rw [readF] at h
    split at h
    · split at h
      · rename_i h2
        refine ih _ _ _ (fieldEnd_bd h2.1).2 ?_ h
        have := fieldAt_wt h2.1
        rw [List.map_append, wtA_append]
        simp only [List.map_cons, List.map_nil, wtA_cons, wtA_nil]
        omega
      · cases h
    · cases h; omega
theorem readFs_wt (l : List UInt8) : wtA (readFs l) ≤ l.length := by
  rw [readFs, readL, readP]
  split
  · cases h : readF l (l.length + 1) 0 [] with
    | none => simp [wtA]
    | some r => exact readF_wt _ _ _ _ (Nat.zero_le _) (by simp [wtA]) h
  · simp [wtA]
theorem rfF_wt (l : List UInt8) : wtA (rfF l) ≤ l.length := by
  rw [rfF]
  split
  · exact readFs_wt l
  · simp [wtA]
theorem wtA_mem {f : DField} : ∀ {l : List DField}, f ∈ l → f.data.size + 1 ≤ wtA l := by
  intro l
  induction l with
  | nil => intro h; cases h
  | cons g l ih =>
    intro h
    rw [wtA_cons]
    rcases List.mem_cons.1 h with rfl | h
    · omega
    · have := ih h; omega
theorem rfF_data {l : List UInt8} {f : DField} (h : f ∈ rfF l) : f.data.size < l.length := by
  have h1 := rfF_wt l; have h2 := wtA_mem h; omega
/-- One item: where it ends and how many nodes it has. -/
theorem item_bd {o mo : Int} {g : ByteArray → Option K} {b : List UInt8} (hg : ∀ d v, d.size ≤ b.length → g d = some v → countK v ≤ d.size + 1) {a : Nat} {v : K} {e : Nat} (h : itemAt o mo g b a = some (v, e)) :
    a < e ∧ e ≤ b.length ∧ countK v + a ≤ e := by
  rw [itemAt] at h
  split at h
  · split at h
    · rename_i h2
      cases h
      have := (tkI_bd b a).2 h2.1
      have hc : countK (leafV (unf (tkI b a).1) ⟨#[]⟩ 0) = 1 := by rw [leafV, countK, countL]
      omega
    · cases h
  · split at h
    · rename_i h2
      obtain ⟨x, hx, e2⟩ := Option.map_eq_some_iff.1 h
      cases e2
      have h3 := tb_len h2
      have := hg _ _ (by rw [mkS_sz]; omega) hx
      rw [mkS_sz] at this
      omega
    · cases h
theorem items_bd {h : Nat → Option (K × Nat)} {n : Nat} (hh : ∀ a v e, h a = some (v, e) → a < e ∧ e ≤ n ∧ countK v + a ≤ e) : ∀ (f a : Nat) (vs : List K), a ≤ n → itemsF h n f a = some vs → countL vs + a ≤ n := by
  intro f
  induction f with
  | zero => intro a vs _ h; rw [itemsF] at h; cases h
  | succ f ih =>
    intro a vs ha h1
    rw [itemsF] at h1
    split at h1
    · split at h1
      · cases h1
      · rename_i v e h2
        obtain ⟨ws, hws, rfl⟩ := Option.map_eq_some_iff.1 h1
        obtain ⟨g1, g2, g3⟩ := hh _ _ _ h2
        have := ih _ _ g2 hws
        rw [countL]; omega
    · cases h1; rw [countL]; omega
theorem find_no {l : List DField} {n : Int} {f : DField} (h : l.find? (fun f => f.no == n) = some f) : f ∈ l ∧ f.no = n := by
  have h1 := List.mem_of_find?_eq_some h
  have h2 := List.find?_some h
  exact ⟨h1, by simpa using h2⟩
theorem part_bd {o mo : Int} {g : ByteArray → Option K} {f : DField} (hg : ∀ v, g f.data = some v → countK v ≤ f.data.size + 1) {v : K} (h : partV o mo g f = some v) : countK v ≤ f.data.size + 1 := by
  rw [partV] at h
  split at h
  · split at h
    · cases h
      have hc : countK (leafV f.num ⟨#[]⟩ f.no) = 1 := by rw [leafV, countK, countL]
      omega
    · cases h
  · split at h
    · cases h
    · exact hg _ h
theorem decL_append : ∀ (qs bs : List K) (l : List DField), decL (qs ++ bs) l = (decL qs l).bind (fun vs => (decL bs l).map (fun ws => vs ++ ws)) := by
  intro qs
  induction qs with
  | nil => intro bs l; rw [List.nil_append, decL]; simp
  | cons p qs ih =>
    intro bs l
    rw [List.cons_append, decL, decL]
    dsimp only
    split
    · split
      · rfl
      · exact ih bs l
    · split
      · rfl
      · rw [ih bs l]
        cases decL qs l with
        | none => rfl
        | some vs => cases decL bs l <;> rfl
theorem decL_bd : ∀ {ps : List K} {l : List DField} {vs : List K} {n0 n : Int}, risesK ps → n0 ≤ n → (∀ p ∈ ps, n0 ≤ p.no ∧ p.no < n) → (∀ p ∈ ps, ∀ f ∈ l, ∀ v, decK p p.no f.data = some v → countK v ≤ f.data.size + 1) → decL ps l = some vs → countL vs + wt l n0 ≤ wt l n := by
  intro ps
  induction ps with
  | nil => intro l vs n0 n _ hn _ _ h; rw [decL] at h; cases h; rw [countL]; have := wt_mono hn l; omega
  | cons p ps ih =>
    intro l vs n0 n hp hn hb hc h
    obtain ⟨hp1, hp2⟩ := List.pairwise_cons.1 hp
    have hb0 := hb p (by simp)
    rw [decL] at h
    dsimp only at h
    split at h
    · split at h
      · cases h
      · exact ih hp2 hn (fun q hq => hb q (by simp [hq])) (fun q hq => hc q (by simp [hq])) h
    · rename_i f hf
      split at h
      · cases h
      · rename_i v hv
        obtain ⟨ws, hws, rfl⟩ := Option.map_eq_some_iff.1 h
        obtain ⟨hfm, hfn⟩ := find_no hf
        have h1 := ih (n0 := p.no + 1) hp2 (by omega) (fun q hq => ⟨by have := hp1 q hq; omega, (hb q (by simp [hq])).2⟩) (fun q hq => hc q (by simp [hq])) hws
        have h2 := wt_step (n := p.no + 1) (by omega) hfm
        have h3 := part_bd (fun x hx => hc p (by simp) f hfm x hx) hv
        have h4 := wt_mono hb0.1 l
        rw [hfn] at h2
        rw [countL]; omega
/-- No more nodes than bytes, but for one. -/
theorem dec_bd (t : K) : rightK t → ∀ no b v, decK t no b = some v → countK v ≤ b.size + 1 := by
  refine K.ind2 (P := fun t => rightK t → ∀ no b v, decK t no b = some v → countK v ≤ b.size + 1) ?_ t
  intro t ih hr no b v h
  have hdl := data_len b
  rw [decK_eq] at h
  split at h
  · split at h
    · cases h; rw [leafV, countK, countL]; omega
    · cases h
  · split at h
    · rename_i h4
      obtain ⟨vs, hvs, rfl⟩ := Option.map_eq_some_iff.1 h
      obtain ⟨p, hp⟩ := right_one hr h4
      rw [hp, decH] at hvs
      dsimp only at hvs
      have := items_bd (n := b.data.toList.length) (fun a v e hi => item_bd (fun d x _ hx => ih p (by rw [hp]; simp) (right_part hr (by rw [hp]; simp)) 0 d x hx) hi) _ _ _ (Nat.zero_le _) hvs
      rw [countK]; omega
    · split at h
      · obtain ⟨vs, hvs, rfl⟩ := Option.map_eq_some_iff.1 h
        rename_i h2 h4 _
        by_cases h5 : t.of = 5
        · have := decL_bd (n0 := 0) (n := 31) (right_rises hr h5) (by omega) (fun p hp => by have := ((hr.ok.2.1 p hp).1 h5).2; omega) (fun p hp f _ v hv => ih p hp (right_part hr hp) _ _ _ hv) hvs
          have h1 := wt_le (rfF b.data.toList) 31
          have h2 := rfF_wt b.data.toList
          rw [countK]; omega
        · have hps : t.parts = [] := by
            rcases hr.ok.1 with g | g | g | g
            · exact g.2.2
            · exact g.2.2
            · omega
            · omega
          rw [hps, decL] at hvs
          cases hvs
          rw [countK, countL]; omega
      · cases h
/-- What bytes tell fits the type. -/
theorem decL_fits : ∀ {ps : List K} {l : List DField} {vs : List K}, risesK ps → (∀ p ∈ ps, ∀ f ∈ l, ∀ v, partV p.of p.most (fun d => decK p p.no d) f = some v → fitsB p v = true) → decL ps l = some vs → mergeB ps vs = true := by
  intro ps
  induction ps with
  | nil => intro l vs _ _ h; rw [decL] at h; cases h; rw [merge_nil]; rfl
  | cons p ps ih =>
    intro l vs hp hc h
    obtain ⟨hp1, hp2⟩ := List.pairwise_cons.1 hp
    rw [decL] at h
    dsimp only at h
    split at h
    · split at h
      · cases h
      · rename_i hm
        have h1 := ih hp2 (fun q hq => hc q (by simp [hq])) h
        have hmf : p.must = false := by simpa using hm
        cases vs with
        | nil => rw [merge_none, hmf]; simpa using h1
        | cons v vs =>
          have hne : v.no ≠ p.no := by
            intro e
            have h2 := ((merge_iff _ _ hp2).1 h1).2.1 v (by simp)
            obtain ⟨y, hy, e2, _⟩ := h2
            have := hp1 y hy
            omega
          rw [merge_ne hne, hmf]; simpa using h1
    · rename_i f hf
      split at h
      · cases h
      · rename_i v hv
        obtain ⟨ws, hws, rfl⟩ := Option.map_eq_some_iff.1 h
        obtain ⟨hfm, hfn⟩ := find_no hf
        rw [merge_eq (partV_no hfn hv), hc p (by simp) f hfm v hv, ih hp2 (fun q hq => hc q (by simp [hq])) hws]; rfl
theorem num_fits {o mo n no : Int} {p : K} (ho : p.of = o) (hm : p.most = mo) (hf : foldB o = true) (h : numV o mo n = true) : fitsB p (leafV n ⟨#[]⟩ no) = true := by
  rw [fitsB_eq, ho, if_neg (by rw [foldB_iff] at hf; rcases hf with e | e <;> rw [e] <;> decide), leafB, hm]
  rw [numV] at h
  simp only [Bool.and_eq_true, Bool.or_eq_true, beq_iff_eq, decide_eq_true_eq] at h
  rw [foldB_iff] at hf
  rcases hf with e | e
  · rw [if_neg (by omega), if_neg (by omega)]; simp [leafV, K.must, K.most, K.name, h.1]
  · rw [if_neg (by omega), if_pos e]
    have : 0 ≤ n ∧ n ≤ mo := h.2.resolve_left (by omega)
    simp [leafV, K.must, K.most, K.name, this]
theorem part_fits {p : K} {no : Int} {f : DField} {v : K} (hk : foldB p.of = false → ∀ b x, decK p no b = some x → fitsB p x = true) (h : partV p.of p.most (fun d => decK p no d) f = some v) : fitsB p v = true := by
  rw [partV] at h
  split at h
  · rename_i hf
    split at h
    · rename_i h2; cases h; exact num_fits rfl rfl hf h2.2
    · cases h
  · rename_i hf
    split at h
    · cases h
    · exact hk (by simpa using hf) _ _ h
theorem items_fits {h : Nat → Option (K × Nat)} {n : Nat} {q : K → Bool} (hh : ∀ a v e, h a = some (v, e) → q v = true) : ∀ (f a : Nat) (vs : List K), itemsF h n f a = some vs → vs.all q = true := by
  intro f
  induction f with
  | zero => intro a vs h; rw [itemsF] at h; cases h
  | succ f ih =>
    intro a vs h1
    rw [itemsF] at h1
    split at h1
    · split at h1
      · cases h1
      · rename_i v e h2
        obtain ⟨ws, hws, rfl⟩ := Option.map_eq_some_iff.1 h1
        rw [List.all_cons, hh _ _ _ h2, ih _ _ hws]; rfl
    · cases h1; rfl
theorem dec_fits (t : K) : rightK t → foldB t.of = false → ∀ no b v, decK t no b = some v → fitsB t v = true := by
  refine K.ind2 (P := fun t => rightK t → foldB t.of = false → ∀ no b v, decK t no b = some v → fitsB t v = true) ?_ t
  intro t ih hr hnf no b v h
  rw [decK_eq] at h
  split at h
  · rename_i h2
    split at h
    · rename_i hs
      cases h
      rw [fitsB_eq, h2, if_neg (by decide), leafB, if_pos rfl]
      simp [leafV, K.must, K.most, K.name, hs]
    · cases h
  · rename_i h2
    split at h
    · rename_i h4
      obtain ⟨vs, hvs, rfl⟩ := Option.map_eq_some_iff.1 h
      obtain ⟨p, hp⟩ := right_one hr h4
      rw [fitsB_eq, h4, if_pos (by decide), if_pos rfl, hp, fitsH_one]
      rw [hp, decH] at hvs
      dsimp only at hvs
      have := items_fits (q := fun v => (v.no == 0) && fitsB p v) (fun a v e hi => by
        rw [itemAt] at hi
        split at hi
        · rename_i hf
          split at hi
          · rename_i h3; cases hi; rw [num_fits rfl rfl hf h3.2]; rfl
          · cases hi
        · rename_i hf
          split at hi
          · obtain ⟨x, hx, e2⟩ := Option.map_eq_some_iff.1 hi
            cases e2
            rw [ih p (by rw [hp]; simp) (right_part hr (by rw [hp]; simp)) (by simpa using hf) _ _ _ hx, dec_no hx]; rfl
          · cases hi) _ _ _ hvs
      simpa [K.must, K.most, K.name, K.parts] using this
    · rename_i h4
      have h5 : t.of = 5 := by
        rcases right_holds hr with e | e | e | e | e
        · simp [foldB, e] at hnf
        · omega
        · simp [foldB, e] at hnf
        · omega
        · exact e
      split at h
      · obtain ⟨vs, hvs, rfl⟩ := Option.map_eq_some_iff.1 h
        rw [fitsB_eq, h5, if_pos (by decide), if_neg (by decide)]
        have := decL_fits (right_rises hr h5) (fun p hp f _ v hv => part_fits (fun hf b x hx => ih p hp (right_part hr hp) hf _ _ _ hx) hv) hvs
        simpa [K.must, K.most, K.name, K.parts] using this
      · cases h
end Go.Proofs.Ytobahkjbadamhaa
/- Whether values of a type are numbers: l2Folded, fieldKind. -/
namespace Go.Proofs.Ytobahkjbadamhaa
open Go.RowKit
set_option linter.unusedVariables false
set_option maxRecDepth 100000
set_option maxHeartbeats 800000 in
theorem folded_b (o : Int) (v1 v2 v3 v4 v5 : Value) (w : World) :
    Calls Try.prog 114 #[.agg #[.int .i64 o, v1, v2, v3, v4, v5]] w (BoolPost (foldB o) w) := by
  have hB := hd (below_a1 w (a := .cells #[.int .i64 o, v1, v2, v3, v4, v5] 74))
  by_cases h1 : o = 1
  · subst h1
    go_enter Try.func114, Try.ntmps114
    go_wp2_with fail
    go_ret
    exact ⟨rfl, hB.out⟩
  · have h1b : (o == 1) = false := by simpa using h1
    by_cases h3 : o = 3
    · subst h3
      go_enter Try.func114, Try.ntmps114
      go_wp2_with fail
      go_ret
      exact ⟨rfl, hB.out⟩
    · have h3b : (o == 3) = false := by simpa using h3
      have hz : foldB o = false := by simp [foldB, h1, h3]
      rw [hz]
      clear hz
      go_enter Try.func114, Try.ntmps114
      go_wp2_with fail
      go_ret
      exact ⟨rfl, hB.out⟩
set_option maxHeartbeats 800000 in
theorem fieldKind_b (o : Int) (b : Nat) (w : World) (c0 : w.cell? ⟨b, 0, none⟩ = some (.int .i64 o)) :
    Calls Try.prog 139 #[.pointer (some ⟨b, 0, none⟩)] w (fun e w' => e = .returned (.int .i64 (kindN o)) ∧ w = w') := by
  by_cases h1 : o = 1
  · subst h1
    go_enter Try.func139, Try.ntmps139
    go_wp2_with fail
    go_ret
    exact ⟨rfl, rfl⟩
  · have h1b : (o == 1) = false := by simpa using h1
    by_cases h3 : o = 3
    · subst h3
      go_enter Try.func139, Try.ntmps139
      go_wp2_with fail
      go_ret
      exact ⟨rfl, rfl⟩
    · have h3b : (o == 3) = false := by simpa using h3
      have hz : kindN o = 2 := by simp [kindN, foldB, h1, h3]
      rw [hz]
      clear hz
      go_enter Try.func139, Try.ntmps139
      go_wp2_with fail
      go_ret
      exact ⟨rfl, rfl⟩
end Go.Proofs.Ytobahkjbadamhaa

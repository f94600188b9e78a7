/- PutView: what it does to fields, in plain words. -/
import Derived.Test.YtbjilpemckoioaaViewM
import Derived.Test.YtbjilpemckoioaaView3
import Derived.Test.YtbjilpemckoioaaSortS
namespace Go.Proofs.Ytbjilpemckoioaa
open Go.RowKit
set_option linter.unusedVariables false
/-- No number twice. -/
def DPk (l : List DField) : Prop := ∀ k : Int, (l.filter (fun x => fnoF x == k)).length ≤ 1
theorem dp_pw {l : List DField} (h : l.Pairwise (fun x y => x.no < y.no)) : DPk l := by
  intro k
  have h2 := h.filter (fun x => fnoF x == k)
  have h3 : ∀ x ∈ l.filter (fun x => fnoF x == k), x.no = k := fun x hx => by simpa [fnoF] using (List.mem_filter.1 hx).2
  match hq : l.filter (fun x => fnoF x == k) with
  | [] => simp
  | [x] => simp
  | x :: y :: r =>
    rw [hq] at h2 h3
    have := (List.pairwise_cons.1 h2).1 y (by simp)
    have e1 := h3 x (by simp)
    have e2 := h3 y (by simp)
    omega
theorem pw_dp {l : List DField} (h : Rise fnoF l) (hd : DPk l) : l.Pairwise (fun x y => x.no < y.no) := by
  induction l with
  | nil => exact .nil
  | cons x l ih =>
    have h1 := List.pairwise_cons.1 h
    refine List.pairwise_cons.2 ⟨fun y hy => ?_, ih h1.2 fun k => Nat.le_trans ?_ (hd k)⟩
    · have h2 := h1.1 y hy
      have h3 := hd (fnoF x)
      rw [List.filter_cons_of_pos (by simp)] at h3
      rcases Int.lt_or_eq_of_le h2 with h4 | h4
      · exact h4
      · exfalso
        have h5 : y ∈ l.filter (fun z => fnoF z == fnoF x) := List.mem_filter.2 ⟨hy, by simp [h4]⟩
        have h6 := List.length_pos_of_mem h5
        rw [List.length_cons] at h3
        omega
    · rw [List.filter_cons]; split <;> simp
theorem pw_len {l : List DField} (h : l.Pairwise (fun x y => x.no < y.no)) (hb : ∀ x ∈ l, 1 ≤ x.no ∧ x.no ≤ 30) : l.length ≤ 30 := by
  have key : ∀ i (hi : i < l.length), (i : Int) + 1 ≤ l[i].no := by
    intro i
    induction i with
    | zero => intro hi; exact (hb _ (List.getElem_mem hi)).1
    | succ i ih =>
      intro hi
      have h1 := ih (by omega)
      have h2 := (List.pairwise_iff_getElem.1 h) i (i + 1) (by omega) hi (by omega)
      omega
  by_cases h0 : l.length = 0
  · omega
  · have h1 := key (l.length - 1) (by omega)
    have h2 := (hb _ (List.getElem_mem (show l.length - 1 < l.length by omega))).2
    omega
theorem DPk.sp {a b : List DField} (ha : DPk a) (h : a.Perm b) : SP fnoF a b := by
  intro k
  have h1 := h.filter (fun x => fnoF x == k)
  have h2 := ha k
  match hq : a.filter (fun x => fnoF x == k) with
  | [] => rw [hq] at h1; exact (List.nil_perm.1 h1).symm
  | [x] => rw [hq] at h1; exact List.singleton_perm.1 h1
  | x :: y :: r => rw [hq] at h2; simp at h2
theorem DPk.of_sp {a b : List DField} (ha : DPk a) (h : SP fnoF a b) : DPk b := fun k => by rw [← h k]; exact ha k
theorem risN_at {ns : List Int} (h : risNB ns = true) : ∀ i, i < ns.length → nBad ns i = false := by
  intro i hi
  cases e : nBad ns i with
  | false => rfl
  | true => rw [risN_false hi e] at h; cases h
theorem risN_pw {ns : List Int} (h : risNB ns = true) : ns.Pairwise (· < ·) := by
  have h1 := risN_at h
  rw [List.pairwise_iff_getElem]
  intro i j hi hj hij
  induction j with
  | zero => omega
  | succ j ih =>
    have h2 := h1 (j + 1) hj
    rw [nBad_succ hj] at h2
    simp at h2
    by_cases e : i = j
    · subst e; exact h2
    · have := ih (by omega) (by omega); omega
theorem rfF_pw (l : List UInt8) : (rfF l).Pairwise (fun x y => x.no < y.no) := by
  rw [rfF]
  split
  · rename_i h
    rw [rfB, Bool.and_eq_true] at h
    have := risN_pw h.2
    rw [nosF, List.pairwise_map] at this
    exact this
  · exact .nil
theorem field_no {x : DField} (h : fieldB x = true) : 1 ≤ x.no ∧ x.no ≤ 30 := (field_kinds h).1
def putG (bl vl : List UInt8) (nos : List Int) : Bool := rfB bl && (rfB vl && (risB nos && decide ((pick nos false (rfF vl)).length = 0)))
def putA (bl vl : List UInt8) (nos : List Int) : List DField := pick nos false (rfF bl) ++ rfF vl
def putS (bl vl : List UInt8) (nos : List Int) : List DField := sortS fnoF (putA bl vl nos)
def putB (bl vl : List UInt8) (nos : List Int) : Bool := putG bl vl nos && decide ((flat (putS bl vl nos)).length ≤ 400)
def putR (bl vl : List UInt8) (nos : List Int) : List UInt8 := if putB bl vl nos then flat (putS bl vl nos) else []
theorem put_dp {bl vl : List UInt8} {nos : List Int} (h : (pick nos false (rfF vl)).length = 0) : DPk (putA bl vl nos) := by
  intro k
  have h0 : pick nos false (rfF vl) = [] := List.eq_nil_of_length_eq_zero h
  rw [putA, List.filter_append, List.length_append]
  have h1 := dp_pw ((rfF_pw bl).filter (fun f => hasB nos f.no == false)) k
  have h2 := dp_pw (rfF_pw vl) k
  change ((pick nos false (rfF bl)).filter (fun x => fnoF x == k)).length ≤ 1 at h1
  cases hk : hasB nos k with
  | true =>
    have : (pick nos false (rfF bl)).filter (fun x => fnoF x == k) = [] := by
      rw [List.filter_eq_nil_iff]
      intro x hx hxk
      have h3 := (List.mem_filter.1 hx).2
      simp only [fnoF, beq_iff_eq] at hxk
      rw [hxk, hk] at h3
      simp at h3
    rw [this]; simpa using h2
  | false =>
    have : (rfF vl).filter (fun x => fnoF x == k) = [] := by
      rw [List.filter_eq_nil_iff]
      intro x hx hxk
      simp only [fnoF, beq_iff_eq] at hxk
      have h3 : x ∈ pick nos false (rfF vl) := List.mem_filter.2 ⟨hx, by rw [hxk, hk]; rfl⟩
      rw [h0] at h3
      simp at h3
    rw [this]; simpa using h1
theorem put_mem {bl vl : List UInt8} {nos : List Int} : ∀ x ∈ putA bl vl nos, fieldB x = true := by
  intro x hx
  rcases List.mem_append.1 hx with h | h
  · exact pick_ok (rfF_ok bl) x h
  · exact rfF_ok vl x h
theorem put_flat {bl vl : List UInt8} {nos : List Int} : ∀ x ∈ putA bl vl nos, x.data.size ≤ 1048576 := by
  intro x hx
  rcases List.mem_append.1 hx with h | h
  · exact small_of (pick_ok (rfF_ok bl)) (pick_flat _ nos false) x h
  · exact small_of (rfF_ok vl) (rfF_flat vl) x h
theorem putS_mem {bl vl : List UInt8} {nos : List Int} {x : DField} : x ∈ putS bl vl nos ↔ x ∈ putA bl vl nos := ((sortS_ok (kf := fnoF) (putA bl vl nos)).2.1.mem).symm
theorem put_len {bl vl : List UInt8} {nos : List Int} (h : (pick nos false (rfF vl)).length = 0) : (putA bl vl nos).length ≤ 30 := by
  have h1 := sortS_ok (kf := fnoF) (putA bl vl nos)
  have h2 := pw_len (pw_dp h1.1 ((put_dp h).of_sp h1.2.1)) (fun x hx => field_no (put_mem x (h1.2.1.mem.2 hx)))
  rw [h1.2.2] at h2
  exact h2
theorem put_good {bl vl : List UInt8} {nos : List Int} (h : (pick nos false (rfF vl)).length = 0) : fieldsB (putA bl vl nos) = true ∧ fieldsB (putS bl vl nos) = true := by
  have h1 := put_len (bl := bl) h
  constructor
  · exact fieldsB_all (by omega) (fun i hi => put_mem _ (List.getElem_mem hi))
  · exact fieldsB_all (by rw [putS, (sortS_ok (kf := fnoF) _).2.2]; omega) (fun i hi => put_mem _ (putS_mem.1 (List.getElem_mem hi)))
end Go.Proofs.Ytbjilpemckoioaa

/- Terms out of their text: plain. -/
import Derived.Test.YtbjilpemckoioaaDoorFlatC
import Derived.Test.YtbjilpemckoioaaDoorTxtM
namespace Go.Proofs.YtbjilpemckoioaaDoor
open Go.RowKit
set_option linter.unusedVariables false
def az (c : UInt8) : Bool := decide (97 ≤ c.toNat) && decide (c.toNat ≤ 122)
def dgt (c : UInt8) : Bool := decide (49 ≤ c.toNat) && decide (c.toNat ≤ 57)
mutual
/-- The lenient reader of a text: a term and what is left. -/
def lrd : Nat → List UInt8 → K × List UInt8
  | 0, s => (tmK 0 ⟨#[]⟩ [], s)
  | f + 1, s => if Lib.hasPrefix s [36] = true ∧ 1 < s.length then (tmK (((s.getD 1 0).toNat : Int) - 48) ⟨#[]⟩ [], s.drop 2)
    else if s.takeWhile az = [] ∨ Lib.hasPrefix (s.dropWhile az) [40] = false then (tmK 0 (mkS (s.takeWhile az)) [], s.dropWhile az)
    else (tmK 0 (mkS (s.takeWhile az)) (lks f 40 (s.dropWhile az)).1, Lib.trimPrefix (lks f 40 (s.dropWhile az)).2 [41])
def lks : Nat → UInt8 → List UInt8 → List K × List UInt8
  | 0, _, s => ([], s)
  | f + 1, m, s => if Lib.hasPrefix s [m] = true then ((lrd f (s.drop 1)).1 :: (lks f 44 (lrd f (s.drop 1)).2).1, (lks f 44 (lrd f (s.drop 1)).2).2) else ([], s)
end
mutual
/-- The strict reader of a text. -/
def prs : Nat → Nat → List UInt8 → Option (K × List UInt8)
  | 0, _, _ => none
  | f + 1, d, s => if 1 < s.length ∧ Lib.hasPrefix s [36] = true ∧ dgt (s.getD 1 0) = true then some (tmK (((s.getD 1 0).toNat : Int) - 48) ⟨#[]⟩ [], s.drop 2)
    else if s.takeWhile az = [] ∨ 40 < d then none
    else if Lib.hasPrefix (s.dropWhile az) [40] = false then some (tmK 0 (mkS (s.takeWhile az)) [], s.dropWhile az)
    else (pks f d 40 (s.dropWhile az)).bind (fun q => if Lib.hasPrefix q.2 [41] = true then some (tmK 0 (mkS (s.takeWhile az)) q.1, q.2.drop 1) else none)
def pks : Nat → Nat → UInt8 → List UInt8 → Option (List K × List UInt8)
  | 0, _, _, s => some ([], s)
  | f + 1, d, m, s => if Lib.hasPrefix s [m] = true then (prs f (d + 1) (s.drop 1)).bind (fun p => (pks f d 44 p.2).map (fun q => (p.1 :: q.1, q.2))) else some ([], s)
end
theorem hasP1 {s : List UInt8} {m : UInt8} : Lib.hasPrefix s [m] = true ↔ ∃ r, s = m :: r := by
  cases s with
  | nil => simp [Lib.hasPrefix]
  | cons c r =>
    rw [Lib.hasPrefix, List.isPrefixOf, List.isPrefixOf, Bool.and_true, beq_iff_eq]
    constructor
    · rintro rfl; exact ⟨r, rfl⟩
    · rintro ⟨r', e⟩; cases e; rfl
theorem hasP1_not {s : List UInt8} {m : UInt8} (h : ∀ r, s ≠ m :: r) : Lib.hasPrefix s [m] = false := by
  rw [← Bool.not_eq_true, hasP1]; rintro ⟨r, e⟩; exact h r e
/-- Texts behind one another, each behind a mark: the first behind m, the others behind a comma. -/
def tlx : UInt8 → List (List UInt8) → List UInt8
  | _, [] => []
  | m, x :: r => m :: (x ++ tlx 44 r)
theorem tlx_join : ∀ xs : List (List UInt8), tlx 44 xs = Lib.joinTail [44] xs := by
  intro xs
  induction xs with
  | nil => simp [tlx, Lib.joinTail]
  | cons x r ih => rw [tlx, ih]; simp [Lib.joinTail]
theorem tlx_all {xs : List (List UInt8)} (h : xs ≠ []) : tlx 40 xs = 40 :: Lib.join xs [44] := by
  cases xs with
  | nil => exact absurd rfl h
  | cons x r => rw [tlx, Lib.join_cons, tlx_join]
theorem txK_app {nm : ByteArray} {ks : List K} : txK (tmK 0 nm ks) = if ks = [] then nm.data.toList else nm.data.toList ++ tlx 40 (ks.map txK) ++ [41] := by
  rw [txK_eq, if_neg (show ¬ 0 < (tmK 0 nm ks).of from by show ¬ (0 : Int) < 0; omega)]
  show (if ks = [] then nm.data.toList else nm.data.toList ++ [40] ++ Lib.join (ks.map txK) [44] ++ [41]) = _
  by_cases h : ks = []
  · rw [if_pos h, if_pos h]
  · rw [if_neg h, if_neg h, tlx_all (by simpa using h)]; simp
theorem txK_v {v : Int} (h : 0 < v) : txK (tmK v ⟨#[]⟩ []) = [36, 48 + UInt8.ofNat v.toNat] := by
  rw [txK_eq, if_pos (show 0 < (tmK v ⟨#[]⟩ []).of from h)]; rfl
theorem dgt_back {c : UInt8} (h : dgt c = true) : 0 < (c.toNat : Int) - 48 ∧ 48 + UInt8.ofNat ((c.toNat : Int) - 48).toNat = c := by
  rw [dgt, Bool.and_eq_true, decide_eq_true_eq, decide_eq_true_eq] at h
  refine ⟨by omega, ?_⟩
  apply UInt8.toNat_inj.1
  rw [UInt8.toNat_add, UInt8.toNat_ofNat']
  have : ((c.toNat : Int) - 48).toNat = c.toNat - 48 := by omega
  rw [this]
  have h48 : (48 : UInt8).toNat = 48 := rfl
  rw [h48]; omega
/-- Trees of names and variables alone. -/
inductive Cn : K → Prop
  | mk (v : Int) (nm : ByteArray) (ks : List K) (hk : ∀ k ∈ ks, Cn k) : Cn (tmK v nm ks)
theorem tk_cat (s : List UInt8) : s.takeWhile az ++ s.dropWhile az = s := List.takeWhile_append_dropWhile
theorem two_of {s : List UInt8} (h1 : 1 < s.length) (h2 : Lib.hasPrefix s [36] = true) : s = 36 :: s.getD 1 0 :: s.drop 2 := by
  obtain ⟨r, rfl⟩ := hasP1.1 h2
  cases r with
  | nil => simp at h1
  | cons c r => rfl
/-- What the strict reader reads is the text of its term. -/
theorem prs_text : ∀ f, (∀ d s t r, prs f d s = some (t, r) → s = txK t ++ r ∧ Cn t ∧ countK t + r.length ≤ s.length) ∧ (∀ d m s ks r, pks f d m s = some (ks, r) → s = tlx m (ks.map txK) ++ r ∧ (∀ k ∈ ks, Cn k) ∧ countL ks + r.length ≤ s.length) := by
  intro f
  induction f with
  | zero =>
    refine ⟨fun d s t r h => ?_, fun d m s ks r h => ?_⟩
    · rw [prs] at h; cases h
    · rw [pks] at h; cases h; exact ⟨rfl, by simp, by simp [countL]⟩
  | succ f ih =>
    refine ⟨fun d s t r h => ?_, fun d m s ks r h => ?_⟩
    · rw [prs] at h
      split at h
      · rename_i hv
        cases h
        obtain ⟨h1, h2⟩ := dgt_back hv.2.2
        have e := two_of hv.1 hv.2.1
        refine ⟨?_, .mk _ _ _ (by simp), ?_⟩
        · rw [txK_v h1, h2]; exact e
        · rw [List.length_drop, tmK, countK, countL]; have := hv.1; omega
      · split at h
        · cases h
        · rename_i hn
          have hlen := congrArg List.length (tk_cat s)
          rw [List.length_append] at hlen
          have h0 : 0 < (s.takeWhile az).length := List.length_pos_iff.2 (fun e => hn (.inl e))
          split at h
          · cases h
            refine ⟨?_, .mk _ _ _ (by simp), ?_⟩
            · rw [txK_app, if_pos rfl]; exact (tk_cat s).symm
            · rw [tmK, countK, countL]; omega
          · rename_i hp
            obtain ⟨q, hq, h⟩ := Option.bind_eq_some_iff.1 h
            split at h
            · rename_i hp2
              cases h
              obtain ⟨e1, e2, e3⟩ := ih.2 _ _ _ q.1 q.2 hq
              obtain ⟨r2, hr2⟩ := hasP1.1 hp2
              obtain ⟨r1, hr1⟩ := hasP1.1 (by simpa using hp : Lib.hasPrefix (s.dropWhile az) [40] = true)
              refine ⟨?_, .mk _ _ _ e2, ?_⟩
              · have hne : q.1 ≠ [] := by
                  intro e
                  rw [e, hr2, hr1] at e1
                  simp [tlx] at e1
                rw [txK_app, if_neg hne, hr2, List.drop_succ_cons, List.drop_zero]
                conv => lhs; rw [← tk_cat s, e1, hr2]
                show _ = s.takeWhile az ++ _ ++ _ ++ _
                simp
              · rw [tmK, countK, List.length_drop]; omega
            · cases h
    · rw [pks] at h
      split at h
      · rename_i hp
        obtain ⟨r0, rfl⟩ := hasP1.1 hp
        rw [List.drop_succ_cons, List.drop_zero] at h
        obtain ⟨p, hp1, h⟩ := Option.bind_eq_some_iff.1 h
        obtain ⟨q, hq, h⟩ := Option.map_eq_some_iff.1 h
        cases h
        obtain ⟨e1, e2, e3⟩ := ih.1 _ _ p.1 p.2 hp1
        obtain ⟨g1, g2, g3⟩ := ih.2 _ _ _ q.1 q.2 hq
        refine ⟨?_, ?_, ?_⟩
        · rw [List.map_cons, tlx, List.cons_append, List.append_assoc, ← g1, ← e1]
        · intro k hk
          rcases List.mem_cons.1 hk with rfl | hk
          · exact e2
          · exact g2 k hk
        · rw [countL, List.length_cons]; omega
      · cases h; exact ⟨rfl, by simp, by simp [countL]⟩
/-- What may follow a term. -/
def endK (r : List UInt8) : Prop := ∀ c r', r = c :: r' → az c = false ∧ c ≠ 40
theorem endK_nil : endK [] := fun c r' h => by cases h
theorem endK_41 (r : List UInt8) : endK (41 :: r) := fun c r' h => by cases h; exact ⟨by decide, by decide⟩
theorem endK_tlx (xs : List (List UInt8)) (r : List UInt8) : endK (tlx 44 xs ++ 41 :: r) := by
  cases xs with
  | nil => exact endK_41 r
  | cons x xs => intro c r' h; rw [tlx, List.cons_append] at h; cases h; exact ⟨by decide, by decide⟩
theorem tk_of {l r : List UInt8} (hl : ∀ c ∈ l, az c = true) (hr : ∀ c r', r = c :: r' → az c = false) : (l ++ r).takeWhile az = l ∧ (l ++ r).dropWhile az = r := by
  rw [List.takeWhile_append_of_pos hl, List.dropWhile_append_of_pos hl]
  cases r with
  | nil => simp
  | cons c r => rw [List.takeWhile_cons, List.dropWhile_cons, hr c r rfl]; simp
theorem nameB_az {nm : ByteArray} (h : nameB nm = true) : (∀ c ∈ nm.data.toList, az c = true) ∧ nm.data.toList ≠ [] := by
  rw [nameB, Bool.and_eq_true, Bool.and_eq_true, List.all_eq_true] at h
  refine ⟨h.1, fun e => ?_⟩
  have h1 := of_decide_eq_true h.2.1
  have : nm.data.toList.length = nm.size := rfl
  rw [e] at this
  simp at this; omega
theorem var_of {v : Int} (h : 1 ≤ v ∧ v ≤ 6) : dgt (48 + UInt8.ofNat v.toNat) = true ∧ (((48 + UInt8.ofNat v.toNat).toNat : Int) - 48) = v := by
  obtain rfl | rfl | rfl | rfl | rfl | rfl : v = 1 ∨ v = 2 ∨ v = 3 ∨ v = 4 ∨ v = 5 ∨ v = 6 := by omega
  all_goals exact ⟨rfl, rfl⟩
theorem no36 {nm r : List UInt8} (h : ∀ c ∈ nm, az c = true) (hn : nm ≠ []) : Lib.hasPrefix (nm ++ r) [36] = false := by
  refine hasP1_not (fun r' e => ?_)
  cases nm with
  | nil => exact hn rfl
  | cons c nm =>
    rw [List.cons_append] at e
    cases e
    have := h 36 (by simp)
    exact absurd this (by decide)
theorem prs_kids {ks : List K} (ih : ∀ k ∈ ks, ∀ f d r, (txK k ++ r).length < f → d + countK k ≤ 41 → endK r → prs f d (txK k ++ r) = some (k, r)) : ∀ (f d : Nat) (m : UInt8) (r : List UInt8), (tlx m (ks.map txK) ++ 41 :: r).length < f → d + 1 + countL ks ≤ 41 → m ≠ 41 → pks f d m (tlx m (ks.map txK) ++ 41 :: r) = some (ks, 41 :: r) := by
  induction ks with
  | nil =>
    intro f d m r hf hd hm
    cases f with
    | zero => omega
    | succ f =>
      show pks (f + 1) d m (41 :: r) = _
      rw [pks, if_neg (by rw [hasP1]; rintro ⟨r', e⟩; cases e; exact hm rfl)]
  | cons k ks ih2 =>
    intro f d m r hf hd hm
    rw [countL] at hd
    cases f with
    | zero => omega
    | succ f =>
      rw [List.map_cons, tlx, List.cons_append, List.append_assoc] at hf ⊢
      rw [List.length_cons] at hf
      rw [pks, if_pos (hasP1.2 ⟨_, rfl⟩), List.drop_succ_cons, List.drop_zero, ih k (by simp) f (d + 1) _ (by omega) (by omega) (endK_tlx _ _), Option.bind_some]
      rw [ih2 (fun x hx => ih x (by simp [hx])) f d 44 r (by rw [List.length_append] at hf; omega) (by omega) (by decide)]
      rfl
/-- The strict reader reads the text of a good term. -/
theorem prs_good {t : K} (h : TmOk t) : ∀ f d r, (txK t ++ r).length < f → d + countK t ≤ 41 → endK r → prs f d (txK t ++ r) = some (t, r) := by
  induction h with
  | var v h =>
    intro f d r hf hd hr
    cases f with
    | zero => omega
    | succ f =>
      obtain ⟨h1, h2⟩ := var_of h
      rw [txK_v (by omega), List.cons_append, List.cons_append, List.nil_append, prs, if_pos ⟨by simp, hasP1.2 ⟨_, rfl⟩, h1⟩]
      show some (tmK (((48 + UInt8.ofNat v.toNat).toNat : Int) - 48) ⟨#[]⟩ [], r) = _
      rw [h2]
  | app nm ks h h4 h5 hk ih =>
    intro f d r hf hd hr
    cases f with
    | zero => omega
    | succ f =>
      obtain ⟨g1, g2⟩ := nameB_az h
      rw [tmK, countK] at hd
      have hn0 : 0 < nm.data.toList.length := List.length_pos_iff.2 g2
      by_cases hks : ks = []
      · subst hks
        rw [txK_app, if_pos rfl] at hf ⊢
        obtain ⟨e1, e2⟩ := tk_of g1 (fun c r' e => (hr c r' e).1)
        rw [prs, e1, e2, if_neg (by rintro ⟨_, e, _⟩; rw [no36 g1 g2] at e; cases e), if_neg (by rintro (e | e); exact g2 e; omega), if_pos (hasP1_not (fun r' e => (hr 40 r' e).2 rfl))]
      · rw [txK_app, if_neg hks] at hf ⊢
        rw [List.append_assoc, List.append_assoc, List.singleton_append] at hf ⊢
        have hend : ∀ c r', tlx 40 (ks.map txK) ++ 41 :: r = c :: r' → az c = false ∧ c = 40 := by
          intro c r' e
          cases ks with
          | nil => exact absurd rfl hks
          | cons k ks => rw [List.map_cons, tlx, List.cons_append] at e; cases e; exact ⟨by decide, rfl⟩
        obtain ⟨e1, e2⟩ := tk_of g1 (fun c r' e => (hend c r' e).1)
        have h40 : Lib.hasPrefix (tlx 40 (ks.map txK) ++ 41 :: r) [40] = true := by
          cases ks with
          | nil => exact absurd rfl hks
          | cons k ks => exact hasP1.2 ⟨_, by rw [List.map_cons, tlx, List.cons_append]⟩
        rw [prs, e1, e2, if_neg (by rintro ⟨_, e, _⟩; rw [no36 g1 g2] at e; cases e), if_neg (by rintro (e | e); exact g2 e; omega), if_neg (by rw [h40]; decide)]
        rw [List.length_append] at hf
        rw [prs_kids ih f d 40 r (by omega) (by omega) (by decide), Option.bind_some, if_pos (hasP1.2 ⟨_, rfl⟩)]
        rfl
theorem lrd_kids {ks : List K} (ih : ∀ k ∈ ks, ∀ f r, (txK k ++ r).length < f → endK r → lrd f (txK k ++ r) = (k, r)) : ∀ (f : Nat) (m : UInt8) (r : List UInt8), (tlx m (ks.map txK) ++ 41 :: r).length < f → m ≠ 41 → lks f m (tlx m (ks.map txK) ++ 41 :: r) = (ks, 41 :: r) := by
  induction ks with
  | nil =>
    intro f m r hf hm
    cases f with
    | zero => omega
    | succ f =>
      show lks (f + 1) m (41 :: r) = _
      rw [lks, if_neg (by rw [hasP1]; rintro ⟨r', e⟩; cases e; exact hm rfl)]
  | cons k ks ih2 =>
    intro f m r hf hm
    cases f with
    | zero => omega
    | succ f =>
      rw [List.map_cons, tlx, List.cons_append, List.append_assoc] at hf ⊢
      rw [List.length_cons] at hf
      rw [lks, if_pos (hasP1.2 ⟨_, rfl⟩), List.drop_succ_cons, List.drop_zero, ih k (by simp) f _ (by omega) (endK_tlx _ _)]
      rw [ih2 (fun x hx => ih x (by simp [hx])) f 44 r (by rw [List.length_append] at hf; omega) (by decide)]
/-- The lenient reader reads the text of a good term. -/
theorem lrd_good {t : K} (h : TmOk t) : ∀ f r, (txK t ++ r).length < f → endK r → lrd f (txK t ++ r) = (t, r) := by
  induction h with
  | var v h =>
    intro f r hf hr
    cases f with
    | zero => omega
    | succ f =>
      obtain ⟨h1, h2⟩ := var_of h
      rw [txK_v (by omega), List.cons_append, List.cons_append, List.nil_append, lrd, if_pos ⟨hasP1.2 ⟨_, rfl⟩, by simp⟩]
      show (tmK (((48 + UInt8.ofNat v.toNat).toNat : Int) - 48) ⟨#[]⟩ [], r) = _
      rw [h2]
  | app nm ks h h4 h5 hk ih =>
    intro f r hf hr
    cases f with
    | zero => omega
    | succ f =>
      obtain ⟨g1, g2⟩ := nameB_az h
      have hn0 : 0 < nm.data.toList.length := List.length_pos_iff.2 g2
      by_cases hks : ks = []
      · subst hks
        rw [txK_app, if_pos rfl] at hf ⊢
        obtain ⟨e1, e2⟩ := tk_of g1 (fun c r' e => (hr c r' e).1)
        rw [lrd, e1, e2, if_neg (by rintro ⟨e, _⟩; rw [no36 g1 g2] at e; cases e), if_pos (.inr (hasP1_not (fun r' e => (hr 40 r' e).2 rfl)))]
      · rw [txK_app, if_neg hks] at hf ⊢
        rw [List.append_assoc, List.append_assoc, List.singleton_append] at hf ⊢
        have hend : ∀ c r', tlx 40 (ks.map txK) ++ 41 :: r = c :: r' → az c = false ∧ c = 40 := by
          intro c r' e
          cases ks with
          | nil => exact absurd rfl hks
          | cons k ks => rw [List.map_cons, tlx, List.cons_append] at e; cases e; exact ⟨by decide, rfl⟩
        obtain ⟨e1, e2⟩ := tk_of g1 (fun c r' e => (hend c r' e).1)
        have h40 : Lib.hasPrefix (tlx 40 (ks.map txK) ++ 41 :: r) [40] = true := by
          cases ks with
          | nil => exact absurd rfl hks
          | cons k ks => exact hasP1.2 ⟨_, by rw [List.map_cons, tlx, List.cons_append]⟩
        rw [lrd, e1, e2, if_neg (by rintro ⟨e, _⟩; rw [no36 g1 g2] at e; cases e), if_neg (by rintro (e | e); exact g2 e; rw [h40] at e; cases e)]
        rw [List.length_append] at hf
        rw [lrd_kids ih f 40 r (by omega) (by decide)]
        show (tmK 0 nm ks, Lib.trimPrefix (41 :: r) [41]) = _
        rw [Lib.trimPrefix, if_pos (hasP1.2 ⟨_, rfl⟩)]; rfl
/-- A tree has no more cells than its text has letters and one. -/
theorem lrd_count : ∀ f, (∀ s, countK (lrd f s).1 + (lrd f s).2.length ≤ s.length + 1) ∧ (∀ m s, countL (lks f m s).1 + (lks f m s).2.length ≤ s.length) := by
  intro f
  induction f with
  | zero => exact ⟨fun s => by rw [lrd, tmK, countK, countL]; simp; omega, fun m s => by rw [lks]; simp [countL]⟩
  | succ f ih =>
    refine ⟨fun s => ?_, fun m s => ?_⟩
    · rw [lrd]
      have hlen := congrArg List.length (tk_cat s)
      rw [List.length_append] at hlen
      split
      · simp only [tmK, countK, countL, List.length_drop]; omega
      · split
        · simp only [tmK, countK, countL]; omega
        · rename_i hn
          have h0 : 0 < (s.takeWhile az).length := List.length_pos_iff.2 (fun e => hn (.inl e))
          have h1 := ih.2 40 (s.dropWhile az)
          have h2 : (Lib.trimPrefix (lks f 40 (s.dropWhile az)).2 [41]).length ≤ (lks f 40 (s.dropWhile az)).2.length := by
            rw [Lib.trimPrefix]; split
            · rw [List.length_drop]; omega
            · omega
          simp only [tmK, countK]; omega
    · rw [lks]
      split
      · rename_i hp
        obtain ⟨r0, rfl⟩ := hasP1.1 hp
        rw [List.drop_succ_cons, List.drop_zero]
        have h1 := ih.1 r0
        have h2 := ih.2 44 (lrd f r0).2
        simp only [countL, List.length_cons]; omega
      · simp [countL]
theorem flL_mem {x : DCell} : ∀ {ps : List K}, x ∈ flL ps → ∃ p ∈ ps, x ∈ flK p := by
  intro ps
  induction ps with
  | nil => intro h; rw [flL] at h; cases h
  | cons p ps ih =>
    intro h
    rw [flL, List.mem_append] at h
    rcases h with h | h
    · exact ⟨p, by simp, h⟩
    · obtain ⟨q, hq, h⟩ := ih h
      exact ⟨q, by simp [hq], h⟩
/-- Its names are no longer than the text. -/
theorem lrd_names : ∀ f, (∀ s, ∀ x ∈ flK (lrd f s).1, x.name.size ≤ s.length) ∧ (∀ m s, ∀ k ∈ (lks f m s).1, ∀ x ∈ flK k, x.name.size ≤ s.length) := by
  intro f
  induction f with
  | zero => exact ⟨fun s x hx => by rw [lrd, tmK, flK, flL, List.mem_singleton] at hx; rw [hx]; exact Nat.zero_le _, fun m s k hk => by rw [lks] at hk; cases hk⟩
  | succ f ih =>
    refine ⟨fun s x hx => ?_, fun m s k hk x hx => ?_⟩
    · have hlen := congrArg List.length (tk_cat s)
      rw [List.length_append] at hlen
      have hz : (mkS (s.takeWhile az)).size = (s.takeWhile az).length := mkS_size _
      rw [lrd] at hx
      split at hx
      · rw [tmK, flK, flL, List.mem_singleton] at hx; rw [hx]; exact Nat.zero_le _
      · split at hx
        · rw [tmK, flK, flL, List.mem_singleton] at hx; rw [hx]; show (mkS (s.takeWhile az)).size ≤ _; omega
        · rw [tmK, flK] at hx
          rcases List.mem_cons.1 hx with rfl | hx
          · show (mkS (s.takeWhile az)).size ≤ _; omega
          · obtain ⟨k, hk, hx⟩ := flL_mem hx
            have := ih.2 40 _ k hk x hx
            omega
    · rw [lks] at hk
      split at hk
      · rename_i hp
        obtain ⟨r0, rfl⟩ := hasP1.1 hp
        rw [List.drop_succ_cons, List.drop_zero] at hk
        have h1 := (lrd_count f).1 r0
        have h3 := countK_pos (lrd f r0).1
        rw [List.length_cons]
        rcases List.mem_cons.1 hk with rfl | hk
        · have := ih.1 r0 x hx; omega
        · have := ih.2 44 _ k hk x hx; omega
      · cases hk
/-- The cells that were read are the term's. -/
theorem rdL_fl {f : List DCell → Option (K × List DCell)} (hf : ∀ l t r, f l = some (t, r) → l = flK t ++ r) : ∀ m l ks r, rdL f m l = some (ks, r) → l = flL ks ++ r := by
  intro m
  induction m with
  | zero => intro l ks r h; rw [rdL] at h; cases h; rfl
  | succ m ih =>
    intro l ks r h
    rw [rdL] at h
    obtain ⟨p, hp, h⟩ := Option.bind_eq_some_iff.1 h
    obtain ⟨q, hq, h⟩ := Option.map_eq_some_iff.1 h
    cases h
    rw [flL, List.append_assoc, ← ih _ q.1 q.2 hq]
    exact hf l p.1 p.2 hp
theorem rdT_fl : ∀ n l t r, rdT n l = some (t, r) → l = flK t ++ r := by
  intro n
  induction n with
  | zero => intro l t r h; rw [rdT] at h; cases h
  | succ n ih =>
    intro l t r h
    cases l with
    | nil => rw [rdT_nil] at h; cases h
    | cons x l =>
      obtain ⟨xv, xn, xm⟩ := x
      by_cases hv : xv = 0
      · subst hv
        rw [rdT_name rfl] at h
        split at h
        · rename_i hn
          obtain ⟨q, hq, h⟩ := Option.map_eq_some_iff.1 h
          cases h
          rw [nmC, Bool.and_eq_true, Bool.and_eq_true] at hn
          have h3 := of_decide_eq_true hn.2.2
          have h4 := (rdL_drop (rdT_drop n) _ _ q.1 q.2 hq).1
          rw [tmK, flK, List.cons_append, ← rdL_fl ih _ _ q.1 q.2 hq]
          have : (xm : Int) = (q.1.length : Int) := by
            have h5 : 0 ≤ xm := h3.1
            rw [h4]; show xm = ((xm.toNat : Nat) : Int); omega
          rw [this]
        · cases h
      · rw [rdT_var hv] at h
        split at h
        · rename_i hn
          cases h
          rw [varC, Bool.and_eq_true, Bool.and_eq_true] at hn
          have h2 : xn.size = 0 := of_decide_eq_true hn.2.1
          have h3 : xm = 0 := of_decide_eq_true hn.2.2
          have h4 : xn = ⟨#[]⟩ := by
            have : xn.data.toList = [] := List.eq_nil_of_length_eq_zero (by rw [← h2]; rfl)
            rw [← mkS_toList xn, this]
          subst h3 h4
          rw [tmK, flK, flL]; rfl
        · cases h
/-- Cells tell their tree. -/
theorem rdT_cn : ∀ n t r t' r', Cn t → rdT n (flK t ++ r) = some (t', r') → t' = t := by
  have key : ∀ n, ∀ t r t' r', Cn t → rdT n (flK t ++ r) = some (t', r') → t' = t ∧ r' = r := by
    intro n
    induction n with
    | zero => intro t r t' r' hc h; rw [rdT] at h; cases h
    | succ n ih =>
      intro t r t' r' hc h
      obtain ⟨v, nm, ks, hk⟩ := hc
      rw [tmK, flK, List.cons_append] at h
      by_cases hv : v = 0
      · subst hv
        rw [rdT_name rfl] at h
        split at h
        · obtain ⟨q, hq, h⟩ := Option.map_eq_some_iff.1 h
          cases h
          have hL : ∀ (ks : List K), (∀ k ∈ ks, Cn k) → ∀ r ks' r', rdL (rdT n) ks.length (flL ks ++ r) = some (ks', r') → ks' = ks ∧ r' = r := by
            intro ks
            induction ks with
            | nil => intro _ r ks' r' h; rw [List.length_nil, rdL, flL] at h; cases h; exact ⟨rfl, rfl⟩
            | cons k ks ihk =>
              intro hk r ks' r' h
              rw [List.length_cons, rdL, flL, List.append_assoc] at h
              obtain ⟨p, hp, h⟩ := Option.bind_eq_some_iff.1 h
              obtain ⟨q, hq, h⟩ := Option.map_eq_some_iff.1 h
              cases h
              obtain ⟨e1, e2⟩ := ih k _ p.1 p.2 (hk k (by simp)) hp
              rw [e2] at hq
              obtain ⟨e3, e4⟩ := ihk (fun x hx => hk x (by simp [hx])) r q.1 q.2 hq
              exact ⟨by rw [e1, e3], e4⟩
          obtain ⟨e1, e2⟩ := hL ks hk r q.1 q.2 hq
          exact ⟨by rw [e1], e2⟩
        · cases h
      · rw [rdT_var hv] at h
        split at h
        · rename_i hn
          cases h
          rw [varC, Bool.and_eq_true, Bool.and_eq_true] at hn
          have h2 : nm.size = 0 := of_decide_eq_true hn.2.1
          have h3 : (ks.length : Int) = 0 := of_decide_eq_true hn.2.2
          have h4 : nm = ⟨#[]⟩ := by
            have : nm.data.toList = [] := List.eq_nil_of_length_eq_zero (by rw [← h2]; rfl)
            rw [← mkS_toList nm, this]
          have h5 : ks = [] := List.eq_nil_of_length_eq_zero (by omega)
          subst h4 h5
          exact ⟨rfl, by rw [flL]; rfl⟩
        · cases h
  exact fun n t r t' r' hc h => (key n t r t' r' hc h).1
/-- What the program answers. -/
def rtI (s : List UInt8) : Option (List DCell) := (termT (flK (lrd 201 s).1)).bind (fun t => if txK t = s then some (flK (lrd 201 s).1) else none)
/-- What the reference answers. -/
def rtS (s : List UInt8) : Option (List DCell) := (prs 201 0 s).bind (fun p => if p.2 = [] ∧ countK p.1 ≤ 30 ∧ (termT (flK p.1)).isSome = true then some (flK p.1) else none)
theorem termT_fl {l : List DCell} {t : K} (h : termT l = some t) : flK t = l ∧ countK t ≤ 30 ∧ TmOk t := by
  obtain ⟨h1, h2⟩ := termT_some h
  have h3 := rdT_count _ _ _ _ h2
  have h4 := rdT_fl _ _ _ _ h2
  rw [List.append_nil] at h4
  rw [List.length_nil] at h3
  exact ⟨h4.symm, by omega, rdT_ok _ _ _ _ h2⟩
theorem rt_eq {s : List UInt8} (hs : s.length ≤ 200) : rtI s = rtS s := by
  have h1 : ∀ l, rtI s = some l → rtS s = some l := by
    intro l h
    obtain ⟨t, ht, h⟩ := Option.bind_eq_some_iff.1 h
    split at h
    · rename_i e
      cases h
      obtain ⟨g1, g2, g3⟩ := termT_fl ht
      have hp := prs_good g3 201 0 [] (by rw [List.append_nil, e]; omega) (by omega) endK_nil
      rw [List.append_nil, e] at hp
      rw [rtS, hp, Option.bind_some, if_pos ⟨rfl, g2, by rw [g1, ht]; rfl⟩, g1]
    · cases h
  have h2 : ∀ l, rtS s = some l → rtI s = some l := by
    intro l h
    obtain ⟨p, hp, h⟩ := Option.bind_eq_some_iff.1 h
    split at h
    · rename_i hc
      cases h
      obtain ⟨t, r⟩ := p
      obtain ⟨rfl, hc2, hc3⟩ : r = [] ∧ countK t ≤ 30 ∧ (termT (flK t)).isSome = true := hc
      obtain ⟨e1, e2, e3⟩ := (prs_text 201).1 _ _ _ _ hp
      obtain ⟨t', ht'⟩ := Option.isSome_iff_exists.1 hc3
      have h4 := (termT_some ht').2
      obtain rfl := rdT_cn 30 t [] t' [] e2 (by rw [List.append_nil]; exact h4)
      obtain ⟨g1, g2, g3⟩ := termT_fl ht'
      have hl := lrd_good g3 201 [] (by rw [← e1]; omega) endK_nil
      rw [← e1] at hl
      rw [List.append_nil] at e1
      show (termT (flK (lrd 201 s).1)).bind _ = _
      rw [rtI.eq_1 s] at *
      rw [hl]
      show (termT (flK t')).bind _ = _
      rw [ht', Option.bind_some, if_pos e1.symm]
    · cases h
  cases hi : rtI s with
  | some l => exact (h1 l hi).symm
  | none =>
    cases hr : rtS s with
    | none => rfl
    | some l => rw [h2 l hr] at hi; cases hi
end Go.Proofs.YtbjilpemckoioaaDoor

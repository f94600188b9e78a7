/- The bindings of the program: a map from numbers to trees of its own. -/
import Derived.Test.YtbjilpemckoioaaInstM
import Derived.Maps.OwnSet
namespace Go.Proofs.Ytbjilpemckoioaa
open Go.RowKit Go.Maps Go.ChangeMaps
set_option linter.unusedVariables false
/-- How a pointer to a block's start reads: as the block's number. -/
def ptrR (v : Value) : Option (DataW Nat × List MemPlace) := match v with
  | .pointer (some ⟨b, 0, none⟩) => some (.lit (.int .i64 (b : Int)), [])
  | .pointer none => some (.lit (.int .i64 (-1)), [])
  | _ => none
theorem ptrR_inv {v : Value} {b : Nat} {ps : List MemPlace} (h : ptrR v = some (.lit (.int .i64 (b : Int)), ps)) : v = .pointer (some ⟨b, 0, none⟩) := by
  unfold ptrR at h
  split at h
  · rename_i b'
    simp only [Option.some.injEq, Prod.mk.injEq, DataW.lit.injEq, Lit.int.injEq, true_and] at h
    have : b' = b := by omega
    rw [this]
  · simp only [Option.some.injEq, Prod.mk.injEq, DataW.lit.injEq, Lit.int.injEq, true_and] at h
    omega
  · cases h
/-- A map block of the call's own that holds the bindings. -/
def EnvM (k : TypeId) (w : World) (m n : Nat) (S : Nat → Prop) (env : Int → Option K) : Prop :=
  ∃ D : DataW Nat, w.ownsMap Try.prog k ptrR m n D ∧ IsMap D ∧ ∀ o : Int, 1 ≤ o → o ≤ 6 → match env o with
    | none => Maps.has D (.int .i64 o) = false
    | some t => ∃ b : Nat, Maps.has D (.int .i64 o) = true ∧ (∀ z, D.atKey (.int .i64 o) z = .lit (.int .i64 (b : Int))) ∧ RepY HT w S t (.pointer (some ⟨b, 0, none⟩))
theorem EnvM.look {k e t : TypeId} {w : World} {m n : Nat} {S : Nat → Prop} {env : Int → Option K} (h : EnvM k w m n S env) (hk : Try.prog.underlying k = some (.int .i64)) (ht : Try.prog.underlying t = some (.map k e)) (hz : (zeroValue e).run Try.prog w = .ok (.pointer none) w) {o : Int} (h1 : 1 ≤ o) (h6 : o ≤ 6) :
    (env o = none → ∃ v, (Instr.lookup t (.map (some m)) (.int .i64 o) true).run Try.prog w = .ok (.tuple #[v, .bool false]) w) ∧ (∀ tt, env o = some tt → ∃ b : Nat, (Instr.lookup t (.map (some m)) (.int .i64 o) true).run Try.prog w = .ok (.tuple #[.pointer (some ⟨b, 0, none⟩), .bool true]) w ∧ RepY HT w S tt (.pointer (some ⟨b, 0, none⟩))) := by
  obtain ⟨D, hD, hm, hE⟩ := h
  have hw : (Lit.int .i64 o).wf = true := by
    have : o = 1 ∨ o = 2 ∨ o = 3 ∨ o = 4 ∨ o = 5 ∨ o = 6 := by omega
    rcases this with rfl | rfl | rfl | rfl | rfl | rfl <;> decide
  obtain ⟨v, ps, hrun, hv⟩ := hD.look_ok (int_keyed hk) ht hz (zd := .lit (.int .i64 (-1))) (zp := []) rfl (keyOf_int_mk hk hw)
  have hO := hE o h1 h6
  constructor
  · intro hn
    rw [hn] at hO
    exact ⟨v, by rw [hrun, hO]⟩
  · intro tt hs
    rw [hs] at hO
    obtain ⟨b, g1, g2, g3⟩ := hO
    rw [g2] at hv
    obtain rfl := ptrR_inv hv
    exact ⟨b, by rw [hrun, g1], g3⟩
theorem EnvM.put {k e t : TypeId} {w : World} {m n : Nat} {S : Nat → Prop} {env : Int → Option K} (h : EnvM k w m n S env) (hk : Try.prog.underlying k = some (.int .i64)) (ht : Try.prog.underlying t = some (.map k e)) (hn : n < maxLen) {o : Int} (h1 : 1 ≤ o) (h6 : o ≤ 6) {a : K} {b : Nat} (hS : ∀ q, S q → q < w.heap.size ∧ q ≠ m) (hR : RepY HT w S a (.pointer (some ⟨b, 0, none⟩))) :
    ∃ w', (Instr.mapUpdate t (.map (some m)) (.int .i64 o) (.pointer (some ⟨b, 0, none⟩))).run Try.prog w = .ok () w' ∧ EnvM k w' m (n + 1) S (updE env o a) ∧ w.grownBy w' (some m) := by
  obtain ⟨D, hD, hm, hE⟩ := h
  have hw : (Lit.int .i64 o).wf = true := by
    have : o = 1 ∨ o = 2 ∨ o = 3 ∨ o = 4 ∨ o = 5 ∨ o = 6 := by omega
    rcases this with rfl | rfl | rfl | rfl | rfl | rfl <;> decide
  obtain ⟨w', hrun, hD', hg⟩ := hD.update (int_keyed hk) ht hn (d := .lit (.int .i64 (b : Int))) (ps := []) (val := .pointer (some ⟨b, 0, none⟩)) (keyOf_int_mk hk hw) rfl
  have hs : SameS w w' S := SameS.grown hg (fun q hq => (hS q hq).1) (fun q hq e => (hS q hq).2 (Option.some.inj e))
  refine ⟨w', hrun, ⟨_, hD', hm.put _ _, fun i i1 i6 => ?_⟩, hg⟩
  by_cases hi : i = o
  · subst hi
    rw [updE, if_pos rfl]
    exact ⟨b, has_put_same hm (by trivial) _, fun z => atKey_put_same hm (by trivial) _ _, RepY.same hs (fun _ h => h) _ _ hR⟩
  · have hne : (Lit.int .i64 i) ≠ .int .i64 o := by intro e; apply hi; simpa using e
    rw [updE, if_neg hi]
    have hO := hE i i1 i6
    cases he : env i with
    | none => rw [he] at hO; rw [has_put_other hne]; exact hO
    | some tt =>
      rw [he] at hO
      obtain ⟨b', g1, g2, g3⟩ := hO
      exact ⟨b', by rw [has_put_other hne]; exact g1, fun z => by rw [atKey_put_other hne]; exact g2 z, RepY.same hs (fun _ h => h) _ _ g3⟩
theorem EnvM.new {k : TypeId} {w : World} {S : Nat → Prop} : EnvM k (w.alloc (.map #[] 0)) w.heap.size 0 S (fun _ => none) :=
  ⟨_, World.ownsMap_made w Try.prog k _, isMap_empty, fun o _ _ => by simp [Maps.has]⟩
theorem EnvM.below {k : TypeId} {w w' : World} {m n : Nat} {S : Nat → Prop} {env : Int → Option K} (h : EnvM k w m n S env) (hb : Below w.heap.size w w') (hS : ∀ q, S q → q < w.heap.size) : EnvM k w' m n S env := by
  obtain ⟨D, hD, hm, hE⟩ := h
  have hlt := hD.lt
  obtain ⟨es, clock, g1, g2⟩ := hD
  refine ⟨D, ⟨es, clock, by rw [hb.block m hlt]; exact g1, g2⟩, hm, fun o o1 o6 => ?_⟩
  have hO := hE o o1 o6
  cases he : env o with
  | none => rw [he] at hO; exact hO
  | some tt =>
    rw [he] at hO
    obtain ⟨b, q1, q2, q3⟩ := hO
    exact ⟨b, q1, q2, RepY.same (SameS.below hb hS) (fun _ h => h) _ _ q3⟩
end Go.Proofs.Ytbjilpemckoioaa

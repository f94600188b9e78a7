/- Whether a term is an instance of a pattern: plain; the bindings are a function. -/
import Derived.Test.YtbjilpemckoioaaSameI
namespace Go.Proofs.Ytbjilpemckoioaa
open Go.RowKit
set_option linter.unusedVariables false
def updE (env : Int → Option K) (o : Int) (a : K) : Int → Option K := fun i => if i = o then some a else env i
open Classical in
mutual
noncomputable def insK : K → K → (Int → Option K) → Bool × (Int → Option K)
  | .mk o nm no mu mo ps => fun a env => if 0 < o then (match env o with
    | some t => (decide (t = a), env)
    | none => (true, updE env o a)) else if a.of = 0 ∧ a.name = nm ∧ a.parts.length = ps.length then insL ps a.parts env else (false, env)
noncomputable def insL : List K → List K → (Int → Option K) → Bool × (Int → Option K)
  | [] => fun _ env => (true, env)
  | p :: ps => fun xs env => match xs with
    | [] => (true, env)
    | a :: xs => if (insK p a env).1 = true then insL ps xs (insK p a env).2 else (false, (insK p a env).2)
end
theorem insL_nil (xs : List K) (env : Int → Option K) : insL [] xs env = (true, env) := by rw [insL]
theorem insL_cons (p a : K) (ps xs : List K) (env : Int → Option K) : insL (p :: ps) (a :: xs) env = if (insK p a env).1 = true then insL ps xs (insK p a env).2 else (false, (insK p a env).2) := by rw [insL]
theorem insL_snoc (p a : K) : ∀ (ps xs : List K) (env : Int → Option K), ps.length = xs.length → insL (ps ++ [p]) (xs ++ [a]) env = if (insL ps xs env).1 = true then insK p a (insL ps xs env).2 else insL ps xs env := by
  intro ps
  induction ps with
  | nil =>
    intro xs env h
    have : xs = [] := List.eq_nil_of_length_eq_zero (by simpa using h.symm)
    subst this
    rw [List.nil_append, List.nil_append, insL_cons, insL_nil]
    rcases hq : insK p a env with ⟨b, e⟩
    cases b <;> simp [insL_nil, hq]
  | cons q ps ih =>
    intro xs env h
    cases xs with
    | nil => simp at h
    | cons x xs =>
      rw [List.cons_append, List.cons_append, insL_cons, insL_cons]
      by_cases hq : (insK q x env).1 = true
      · rw [if_pos hq, if_pos hq, ih xs _ (by simpa using h)]
      · rw [if_neg hq, if_neg hq]; simp
theorem insL_take {ps xs : List K} {k : Nat} (h : k < ps.length) (h' : k < xs.length) (env : Int → Option K) : insL (ps.take (k + 1)) (xs.take (k + 1)) env = if (insL (ps.take k) (xs.take k) env).1 = true then insK ps[k] xs[k] (insL (ps.take k) (xs.take k) env).2 else insL (ps.take k) (xs.take k) env := by
  rw [List.take_succ_eq_append_getElem h, List.take_succ_eq_append_getElem h', insL_snoc _ _ _ _ _ (by rw [List.length_take, List.length_take]; omega)]
theorem insL_stop {ps xs : List K} {k : Nat} (hl : ps.length = xs.length) {env : Int → Option K} (h : (insL (ps.take k) (xs.take k) env).1 = false) : ∀ d, k + d ≤ ps.length → (insL (ps.take (k + d)) (xs.take (k + d)) env).1 = false := by
  intro d
  induction d with
  | zero => intro _; exact h
  | succ d ih =>
    intro hd
    have := ih (by omega)
    rw [← Nat.add_assoc, insL_take (by omega) (by omega), if_neg (by rw [this]; simp)]
    exact this
open Classical in
theorem insK_eq (b a : K) (env : Int → Option K) : insK b a env = if 0 < b.of then (match env b.of with
    | some t => (decide (t = a), env)
    | none => (true, updE env b.of a)) else if a.of = 0 ∧ a.name = b.name ∧ a.parts.length = b.parts.length then insL b.parts a.parts env else (false, env) := by
  cases b; rw [insK]; rfl
end Go.Proofs.Ytbjilpemckoioaa

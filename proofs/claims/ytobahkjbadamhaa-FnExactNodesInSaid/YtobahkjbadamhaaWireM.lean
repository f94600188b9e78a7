/- The plain mathematics of wire numbers: what the varint functions compute, said of lists of bytes and natural numbers. No program stands here. -/
import Derived.Laws.BitsAllLaws
import Derived.IntWalk
import Derived.Laws.BitsLemmas
namespace Go.Proofs.Ytobahkjbadamhaa

def contB (n : Nat) : UInt8 := UInt8.ofNat (128 + n % 128)
/-- The bytes of a number: seven bits a byte, the least first, the top bit says that more follow. -/
def varB (n : Nat) : List UInt8 :=
  if h : 128 ≤ n then contB n :: varB (n / 128) else [UInt8.ofNat n]
termination_by n
decreasing_by omega

theorem varB_big (n : Nat) (h : 128 ≤ n) : varB n = contB n :: varB (n / 128) := by
  rw [varB]; simp [h]
theorem varB_small (n : Nat) (h : n < 128) : varB n = [UInt8.ofNat n] := by
  rw [varB]; simp [Nat.not_le.2 h]
theorem varB_len_pos (n : Nat) : 0 < (varB n).length := by
  rw [varB]; split <;> simp
theorem varB_len (k : Nat) : ∀ n, n < 128 ^ (k + 1) → (varB n).length ≤ k + 1 := by
  induction k with
  | zero => intro n h; rw [varB_small n (by simpa using h)]; simp
  | succ k ih =>
    intro n h
    by_cases hb : 128 ≤ n
    · rw [varB_big n hb]
      have := ih (n / 128) (by rw [Nat.div_lt_iff_lt_mul (by omega)]; rw [Nat.pow_succ] at h; exact h)
      simp; omega
    · rw [varB_small n (by omega)]; simp
theorem varB_len10 (n : Nat) (h : n < 9223372036854775808) : (varB n).length ≤ 10 :=
  varB_len 9 n (Nat.lt_of_lt_of_le h (by decide))

/-- Reading a number: at most 'f' bytes more, 'k' were read, 'acc' is what they came to. The number, how many bytes it took, its last byte. -/
def scan : Nat → List UInt8 → Nat → Nat → Option (Nat × Nat × UInt8)
  | 0, _, _, _ => none
  | _ + 1, [], _, _ => none
  | f + 1, b :: l, k, acc => if b.toNat < 128 then some (acc + b.toNat % 128 * 2 ^ (7 * k), k + 1, b) else scan f l (k + 1) (acc + b.toNat % 128 * 2 ^ (7 * k))

theorem scan_len : ∀ f l k acc n e b, scan f l k acc = some (n, e, b) → k < e ∧ e ≤ k + l.length ∧ e ≤ k + f := by
  intro f
  induction f with
  | zero => intro l k acc n e b h; simp [scan] at h
  | succ f ih =>
    intro l k acc n e b h
    cases l with
    | nil => simp [scan] at h
    | cons c l =>
      rw [scan] at h
      split at h
      · simp at h; obtain ⟨_, rfl, _⟩ := h; rw [List.length_cons]; omega
      · have := ih _ _ _ _ _ _ h; rw [List.length_cons]; omega

theorem scan_bound : ∀ f l k acc n e b, scan f l k acc = some (n, e, b) → acc < 2 ^ (7 * k) → n < 2 ^ (7 * (k + f)) := by
  intro f
  induction f with
  | zero => intro l k acc n e b h; simp [scan] at h
  | succ f ih =>
    intro l k acc n e b h ha
    cases l with
    | nil => simp [scan] at h
    | cons c l =>
      have step : acc + c.toNat % 128 * 2 ^ (7 * k) < 2 ^ (7 * (k + 1)) := by
        have h1 : c.toNat % 128 ≤ 127 := by omega
        have h2 := Nat.mul_le_mul_right (2 ^ (7 * k)) h1
        have h3 : 2 ^ (7 * (k + 1)) = 128 * 2 ^ (7 * k) := by rw [show 7 * (k + 1) = 7 * k + 7 by omega, Nat.pow_add]; omega
        omega
      rw [scan] at h
      split at h
      · simp at h
        obtain ⟨rfl, _, _⟩ := h
        exact Nat.lt_of_lt_of_le step (Nat.pow_le_pow_right (by omega) (by omega))
      · have := ih _ _ _ _ _ _ h step
        rw [show k + (f + 1) = k + 1 + f by omega]; exact this

theorem scan_bound0 {l : List UInt8} {n e : Nat} {b : UInt8} (h : scan 5 l 0 0 = some (n, e, b)) : n < 34359738368 ∧ 0 < e ∧ e ≤ l.length ∧ e ≤ 5 := by
  have h1 := scan_bound 5 l 0 0 n e b h (by simp)
  have h2 := scan_len 5 l 0 0 n e b h
  simp at h1 h2
  omega

/-- The step of the Go text's own accumulation, in natural numbers. -/
theorem acc_step (acc k : Nat) (b : Nat) (hk : k < 5) (ha : acc < 2 ^ (7 * k)) (hb : b < 128) :
    bits .or .i64 (acc : Int) ((b * 2 ^ (7 * k) : Nat) : Int) = ((acc + b * 2 ^ (7 * k) : Nat) : Int) := by
  have hw : ∀ n : Int, 0 ≤ n → n < 2 ^ 63 → IntKind.i64.wrap n = n := fun n h0 h1 => by rw [IntKind.wrap_i64]; omega
  have hp : 2 ^ (7 * k) ≤ 2 ^ 28 := Nat.pow_le_pow_right (by omega) (by omega)
  have hm := Nat.mul_le_mul (Nat.le_of_lt_succ hb) hp
  have hn := (bits_nat .i64 63 (by decide) hw acc (b * 2 ^ (7 * k)) (by omega) (by omega)).2
  rw [hn]
  congr 1
  rw [Nat.or_comm, ← Nat.shiftLeft_eq, ← Nat.shiftLeft_add_eq_or_of_lt ha]
  omega
end Go.Proofs.Ytobahkjbadamhaa

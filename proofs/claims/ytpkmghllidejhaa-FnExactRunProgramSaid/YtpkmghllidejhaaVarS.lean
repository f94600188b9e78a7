/- The walks of the reference's l1Varint and of the two VarintOf, and of the two takeVarint. -/
import Derived.Test.YtpkmghllidejhaaWire2
namespace Go.Proofs.Ytpkmghllidejhaa
open Go.RowKit
set_option linter.unusedVariables false
set_option maxRecDepth 100000

theorem and127_i64 (m : Nat) (h : m < 9223372036854775808) : bits .and .i64 (m : Int) 127 = ((m % 128 : Nat) : Int) := by
  have hw : ∀ n : Int, 0 ≤ n → n < 2 ^ 63 → IntKind.i64.wrap n = n := fun n h0 h1 => by rw [IntKind.wrap_i64]; omega
  have := bits_mask .i64 63 (by decide) hw 7 (by decide) (m : Int) (by omega) (by omega)
  rw [show (2 : Int) ^ 7 - 1 = 127 by decide] at this
  rw [this]; omega
theorem byte_cont2 (m : Nat) (h : m < 9223372036854775808) : Value.int .u8 (bits .or .u8 (bits .and .i64 (m : Int) 127 % 256) 128) = byteV (contB m) := by
  rw [and127_i64 m h, byte_cont, contB, contB, Nat.mod_mod]

/-- 'string([]byte{x})'. -/
theorem conv1 (W : World) (x : Int) (b : UInt8) (hx : Value.int .u8 x = byteV b) :
    (convert 179 9 (.slice (some ⟨W.heap.size, 0, none⟩) 1 1)).run Try.prog (W.alloc (.cells #[.int .u8 x] 5)) = .ok (.string (mkS [b])) (W.alloc (.cells #[.int .u8 x] 5)) := by
  refine run_str_row _ _ _ 5 _ [b] Try.underlying179 Try.underlying5 Try.underlying9 (.inr ⟨_, _, rfl, ?_⟩)
  rw [hx]
  exact cell_one_new _ _ _

set_option maxHeartbeats 400000 in
theorem varint_s (n : Nat) (w : World) (hn : n < 4611686018427387904)  :
    Calls Try.prog 135 #[.int .i64 n] w (fun e w' => e = .returned (.string (mkS (varB n))) ∧ Below w.heap.size w w') := by
  have hlen := varB_len10 n (by omega)
  go_enter Try.func135, Try.ntmps135
  go_wp2
  go_loopw [0, 3] (fun n1 s1 wr => ∃ (m : Nat) (ys : List UInt8), n1 = .int .i64 m ∧ s1 = .string (mkS ys) ∧ m ≤ n ∧ Hd (ys ++ varB m = varB n) ∧ Hd (Below w.heap.size w wr)) (fun m _ _ => (intOf m).toNat)
  case atStart => exact ⟨n, [], rfl, rfl, Nat.le_refl _, rfl, Below.refl _ _⟩
  case round =>
    obtain ⟨m, ys, rfl, rfl, hm, heq, hbl⟩ := hrel
    have hyl : ys.length ≤ 10 := by
      have h1 := congrArg List.length heq.out
      simp only [List.length_append] at h1
      omega
    by_cases hb : 128 ≤ m
    · have hcv := conv1 wr _ _ (byte_cont2 m (by omega))
      have hs1 : (mkS ys).size + (mkS [contB m]).size ≤ 11 := by rw [mkS_size, mkS_size]; simp; omega
      go_wp2_with fail
      have e7 : ((m : Int) / 128) = ((m / 128 : Nat) : Int) := by omega
      go_roundw
      case rel =>
        refine ⟨m / 128, ys ++ [contB m], by rw [e7], by rw [mkS_append], by omega, ?_, ?_⟩
        · show _ = _
          rw [← heq.out, varB_big m hb]; simp
        · exact hbl.out.alloc hbl.out.size _
      case measure => simp [intOf]; omega
    · have hcv := conv1 wr _ _ (byte_last m (by omega))
      go_wp2_with fail
      go_ret
      refine ⟨ret_str ?_, hbl.out.alloc hbl.out.size _⟩
      rw [mkS_append, ← heq.out, varB_small m (by omega)]

end Go.Proofs.Ytpkmghllidejhaa

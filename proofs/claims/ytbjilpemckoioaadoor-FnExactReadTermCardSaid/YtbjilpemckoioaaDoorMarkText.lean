/- The text that the laws lay as a mark. -/
import Derived.Test.YtbjilpemckoioaaDoorRows
import Derived.Test.YtbjilpemckoioaaDoorBases
import Derived.Outline
namespace Go.Proofs.YtbjilpemckoioaaDoor
open Go.RowKit
set_option linter.unusedVariables false
set_option maxRecDepth 100000

def digB (q : Nat) : UInt8 := UInt8.ofNat (48 + q % 10)
def digGo : Nat → Nat → List UInt8 → List UInt8
  | 0, _, out => out
  | f + 1, k, out => if k = 0 then out else digGo f (k / 10) (digB k :: out)
def markT (k : Int) : List UInt8 := 109 :: digGo 64 k.toNat []
theorem digGo_zero (f : Nat) (out : List UInt8) : digGo f 0 out = out := by cases f <;> simp [digGo]
theorem digGo_len (f : Nat) : ∀ k out, (digGo f k out).length ≤ f + out.length := by
  induction f with
  | zero => intro k out; simp [digGo]
  | succ f ih =>
    intro k out
    rw [digGo]
    split
    · simp
    · have := ih (k / 10) (digB k :: out); rw [List.length_cons] at this; omega
theorem markT_len (k : Int) : (markT k).length ≤ 70 := by
  have := digGo_len 64 k.toNat []
  simp [markT] at this ⊢; omega
theorem dig_byte (m : Nat) : Value.int .u8 (48 + (m : Int) % 10) = byteV (digB m) := by
  have h : (digB m).toNat = 48 + m % 10 := by rw [digB, UInt8.toNat_ofNat']; omega
  rw [byteV, h]
  congr 1
theorem convm (W : World) (x : Int) (b : UInt8) (hx : Value.int .u8 x = byteV b) :
    (convert 78 9 (.slice (some ⟨W.heap.size, 0, none⟩) 1 1)).run Tryd.prog (W.alloc (.cells #[.int .u8 x] 5)) = .ok (.string (mkS [b])) (W.alloc (.cells #[.int .u8 x] 5)) := by
  refine run_str_row _ _ _ 5 _ [b] Tryd.underlying78 Tryd.underlying5 Tryd.underlying9 (.inr ⟨_, _, rfl, ?_⟩)
  rw [hx]
  exact cell_one_new _ _ _
theorem mText (w : World) (k : Int) (h0 : 1 ≤ k) (h1 : k ≤ 4000000000000) :
    Calls Tryd.prog 40 #[.int .i64 k] w (fun e w' => e = .returned (.string (mkS (markT k))) ∧ Below w.heap.size w w') := by
  obtain ⟨m, rfl⟩ := Int.eq_ofNat_of_zero_le (show 0 ≤ k by omega)
  have hg : ¬ (m : Int) ≤ 0 := by omega
  have hM := hd (show markT (m : Int) = 109 :: digGo 64 m [] from rfl)
  go_enter Tryd.func40, Tryd.ntmps40
  go_wp2_with fail
  go_loopw [0, 3] (fun n1 s1 wr => ∃ (q f : Nat) (ys : List UInt8), n1 = .int .i64 q ∧ s1 = .string (mkS ys) ∧ q ≤ m ∧ ys.length + f ≤ 64 ∧ Hd (q < 2 ^ f) ∧ Hd (digGo f q ys = digGo 64 m []) ∧ Hd (Below w.heap.size w wr)) (fun n _ _ => (intOf n).toNat)
  case atStart => exact ⟨m, 64, [], rfl, rfl, Nat.le_refl _, by simp, by show m < 2 ^ 64; omega, rfl, Below.refl _ _⟩
  case round =>
    obtain ⟨q, f, ys, rfl, rfl, hq, hyl, hqf, heq, hbl⟩ := hrel
    by_cases hb : 0 < q
    · have hbI : (0 : Int) < (q : Int) := by omega
      have hcv := convm wr _ _ (dig_byte q)
      have hs1 : (mkS [digB q]).size + (mkS ys).size ≤ 100 := by rw [mkS_size, mkS_size]; simp; omega
      obtain ⟨g, rfl⟩ : ∃ g, f = g + 1 := by
        cases f with
        | zero => exfalso; have := hqf.out; simp at this; omega
        | succ g => exact ⟨g, rfl⟩
      have hq2 := hd (show q / 10 < 2 ^ g by have := hqf.out; rw [Nat.pow_succ] at this; omega)
      have heq2 := hd (show digGo g (q / 10) (digB q :: ys) = digGo 64 m [] by
        rw [← heq.out, digGo, if_neg (by omega)])
      go_wp2_with fail
      have e7 : ((q : Int) / 10) = ((q / 10 : Nat) : Int) := by omega
      go_roundw
      case rel =>
        exact ⟨q / 10, g, digB q :: ys, by rw [e7], by rw [mkS_append]; rfl, by omega, by simp; omega, hq2.out, heq2.out, hbl.out.alloc hbl.out.size _⟩
      case measure => simp [intOf]; omega
    · have hbI : ¬ (0 : Int) < (q : Int) := by omega
      obtain rfl : q = 0 := by omega
      have he := hd (show ys = digGo 64 m [] by rw [← heq.out, digGo_zero])
      go_wp2_with fail
      go_ret
      exact ⟨ret_str (by rw [hM.out, he.out]; exact mkS_append [109] _), hbl.out⟩
end Go.Proofs.YtbjilpemckoioaaDoor

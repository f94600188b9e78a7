/- Whether a field is as a want says: fieldIs of the program. -/
import Derived.Test.YtpkmghllidejhaaView
import Derived.Test.YtpkmghllidejhaaWant
import Derived.Test.YtpkmghllidejhaaFields
namespace Go.Proofs.Ytpkmghllidejhaa
open Go.RowKit
set_option linter.unusedVariables false
set_option maxRecDepth 100000
def preB (s p : ByteArray) : Bool := decide (p.size ≤ s.size) && ((s.extract 0 p.size).toList == p.toList)
def isB (x : DField) (k num : Int) (t : ByteArray) : Bool :=
  if k = 1 then x.kind == 0 && x.num == num
  else if k = 2 then x.kind == 0 && decide (x.num < num)
  else if k = 3 then x.kind == 0 && decide (num < x.num)
  else if k = 5 then !(x.kind == 0) && preB x.data t
  else true
theorem prefix_i (s p : ByteArray) (w : World) (hs : s.size ≤ 1000000000000) (hp : p.size ≤ 1000000000000) :
    Calls Try.prog 166 #[.string s, .string p] w (fun e w' => e = .returned (.bool (preB s p)) ∧ w = w') := by
  by_cases h : p.size ≤ s.size
  · have hI : (p.size : Int) ≤ (s.size : Int) := by omega
    have hr := hd (show preB s p = ((s.extract 0 p.size).toList == p.toList) by rw [preB]; simp [h])
    go_enter Try.func166, Try.ntmps166
    go_wp2
    go_ret
    exact ⟨by rw [hr.out]; rfl, rfl⟩
  · have hI : ¬ (p.size : Int) ≤ (s.size : Int) := by omega
    have hr := hd (show preB s p = false by rw [preB]; simp [h])
    go_enter Try.func166, Try.ntmps166
    go_wp2
    go_ret
    exact ⟨by rw [hr.out]; rfl, rfl⟩
set_option maxHeartbeats 1600000 in
theorem fieldIs_i (x : DField) (k num : Int) (t : ByteArray) (w : World) (hs : x.data.size ≤ 1000000000000) (ht : t.size ≤ 1000000000000) :
    Calls Try.prog 107 #[.agg #[.int .i64 x.no, .int .i64 x.kind, .int .i64 x.num, .string x.data], .int .i64 k, .int .i64 num, .string t] w (BoolPost (isB x k num t) w) := by
  have cp := hd (fun w => prefix_i x.data t w hs ht)
  generalize hpre : preB x.data t = p at *
  have hI := hd (show isB x k num t = (if k = 1 then x.kind == 0 && x.num == num else if k = 2 then x.kind == 0 && decide (x.num < num) else if k = 3 then x.kind == 0 && decide (num < x.num) else if k = 5 then !(x.kind == 0) && p else true) by rw [isB, hpre])
  clear hpre
  have hcs : k = 1 ∨ k = 2 ∨ k = 3 ∨ k = 5 ∨ (¬ k = 1 ∧ ¬ k = 2 ∧ ¬ k = 3 ∧ ¬ k = 5) := by omega
  cases hk0 : (x.kind == 0) <;> rcases hcs with rfl | rfl | rfl | rfl | ⟨h1, h2, h3, h5⟩
  all_goals
    (try have e1 : (k == 1) = false := by simpa using h1)
    (try have e2 : (k == 2) = false := by simpa using h2)
    (try have e3 : (k == 3) = false := by simpa using h3)
    (try have e5 : (k == 5) = false := by simpa using h5)
    go_enter Try.func107, Try.ntmps107
    go_wp2_with (go_at_call 166; refine (cp.out _).mono ?_; rintro e w' ⟨rfl, rfl⟩)
    go_ret
    refine ⟨ret_bool ?_, below_a1 _⟩
    rw [hI.out]
    simp_all
end Go.Proofs.Ytpkmghllidejhaa

/- The fields that were read; the cells of placed fields. -/
import Derived.Test.YtpkmghllidejhaaRead2
import Derived.Test.YtpkmghllidejhaaNos
namespace Go.Proofs.Ytpkmghllidejhaa
open Go.RowKit
set_option linter.unusedVariables false
set_option maxRecDepth 100000
def readFs (l : List UInt8) : List DField := (readL l).map (·.f)
theorem readL_false {l : List UInt8} (h : readB l = false) : readL l = [] := by
  rw [readB] at h; rw [readL]; cases hr : readP l with
  | none => rfl
  | some x => rw [hr] at h; cases h
theorem readFs_len (l : List UInt8) : (readFs l).length ≤ 40 := by rw [readFs, List.length_map]; exact readL_len l
theorem Cells.rowPlaced {w : World} {b o : Nat} (l : List DPlaced) (k : Nat) (h : k < l.length) (C : Cells w b o 5 (l.map DPlaced.enc)) :
    w.cell? ⟨b, o + k * 5, none⟩ = some (.int .i64 l[k].f.no) ∧ w.cell? ⟨b, o + k * 5 + 1, none⟩ = some (.int .i64 l[k].f.kind) ∧ w.cell? ⟨b, o + k * 5 + 2, none⟩ = some (.int .i64 l[k].f.num) ∧ w.cell? ⟨b, o + k * 5 + 3, none⟩ = some (.string l[k].f.data) ∧ w.cell? ⟨b, o + k * 5 + 4, none⟩ = some (.int .i64 l[k].at_) := by
  have hr : (l.map DPlaced.enc)[k]? = some (l[k].enc) := by simp [h]
  exact ⟨C.2 k _ hr 0 _ rfl, C.2 k _ hr 1 _ rfl, C.2 k _ hr 2 _ rfl, C.2 k _ hr 3 _ rfl, C.2 k _ hr 4 _ rfl⟩
end Go.Proofs.Ytpkmghllidejhaa

/- What the library's Join does. -/
import Derived.Test.YtbjilpemckoioaaDoorTxtM
import Derived.Test.YtbjilpemckoioaaDoorShelfJ
namespace Go.Proofs.YtbjilpemckoioaaDoor
open Go.RowKit
theorem join_i (bk c : Nat) (xs : List ByteArray) (w : World)
    (hcells : ∀ (j : Nat) x, xs[j]? = some x → w.cell? ⟨bk, j, none⟩ = some (.string x))
    (hbk : bk < w.heap.size) (hN : xs.length ≤ 140737488355328) (hcap : xs.length ≤ c)
    (hlen : (Lib.join (xs.map (·.data.toList)) [44]).length ≤ 140737488355328) :
    Calls Tryd.prog 35 #[.slice (some ⟨bk, 0, none⟩) xs.length c, .string ⟨#[44]⟩] w fun e w' => e = .returned (.string (mkS (Lib.join (xs.map (·.data.toList)) [44]))) ∧ Below w.heap.size w w' := by
  exact strings_Join bk 0 c xs ⟨#[44]⟩ w (fun j x h => by rw [Nat.zero_add]; exact hcells j x h) hbk hN hcap hlen
theorem mkS_back (xs : List (List UInt8)) : (xs.map mkS).map (·.data.toList) = xs := by
  rw [List.map_map]
  exact (List.map_congr_left (fun x _ => by simp)).trans (List.map_id xs)
theorem join_t (bk c : Nat) (xs : List (List UInt8)) (w : World)
    (hcells : ∀ (j : Nat) x, xs[j]? = some x → w.cell? ⟨bk, j, none⟩ = some (.string (mkS x)))
    (hbk : bk < w.heap.size) (hN : xs.length ≤ 140737488355328) (hcap : xs.length ≤ c)
    (hlen : (Lib.join xs [44]).length ≤ 140737488355328) :
    Calls Tryd.prog 35 #[.slice (some ⟨bk, 0, none⟩) xs.length c, .string ⟨#[44]⟩] w fun e w' => e = .returned (.string (mkS (Lib.join xs [44]))) ∧ Below w.heap.size w w' := by
  have h := join_i bk c (xs.map mkS) w (fun j x hx => by
    rw [List.getElem?_map, Option.map_eq_some_iff] at hx
    obtain ⟨y, hy, rfl⟩ := hx
    exact hcells j y hy) hbk (by simpa using hN) (by simpa using hcap) (by rw [mkS_back]; exact hlen)
  rw [mkS_back, List.length_map] at h
  exact h
end Go.Proofs.YtbjilpemckoioaaDoor

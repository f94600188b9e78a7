/- The text of a number: l1Num of the reference, up to 30. -/
import Derived.Test.YtcepnifcfkgaeaaDoorStI
namespace Go.Proofs.YtcepnifcfkgaeaaDoor
open Go.RowKit
set_option linter.unusedVariables false
set_option maxRecDepth 100000
theorem conv1k (W w6 : World) (x : Int) (b : UInt8) (hx : Value.int .u8 x = byteV b) (hb : Below (W.alloc (.cells #[.int .u8 x] 5)).heap.size (W.alloc (.cells #[.int .u8 x] 5)) w6) :
    (convert 69 9 (.slice (some ⟨W.heap.size, 0, none⟩) 1 1)).run Tryd.prog w6 = .ok (.string (mkS [b])) w6 := by
  refine run_str_row _ _ _ 5 _ [b] Tryd.underlying69 Tryd.underlying5 Tryd.underlying9 (.inr ⟨_, _, rfl, ?_⟩)
  intro i u hu
  refine keepCell hb ?_
  rw [hx]
  exact cell_one_new _ _ _ i u hu
theorem conv1d (W w6 : World) (x : Int) (b : UInt8) (hx : Value.int .u8 x = byteV b) (hb : Below (W.alloc (.cells #[.int .u8 x] 5)).drew.heap.size (W.alloc (.cells #[.int .u8 x] 5)).drew w6) :
    (convert 69 9 (.slice (some ⟨W.heap.size, 0, none⟩) 1 1)).run Tryd.prog w6 = .ok (.string (mkS [b])) w6 := by
  have h := (Below.refl (W.alloc (.cells #[.int .u8 x] 5)).heap.size (W.alloc (.cells #[.int .u8 x] 5))).drew
  exact conv1k W w6 x b hx (h.next hb)
theorem num1_s (n : Nat) (w : World) (h : n < 10) : Calls Tryd.prog 22 #[.int .i64 n] w (TxPost (digN n) w) := by
  have hcv := conv1 w (48 + n) (UInt8.ofNat (48 + n)) (by simp [byteV]; omega)
  have hlt : (n : Int) < 10 := by omega
  have hd1 : digN n = [UInt8.ofNat (48 + n)] := by rw [digN, Int.toNat_natCast, Lib.decDigits_one h]
  go_enter Tryd.func22, Tryd.ntmps22
  go_wp2_with fail
  go_ret
  exact ⟨ret_str (by rw [hd1]; simp), below_a1 _⟩
set_option maxHeartbeats 6400000 in
theorem num2_s (n : Nat) (w : World) (h : 10 ≤ n) (h2 : n ≤ 30) : Calls Tryd.prog 22 #[.int .i64 n] w (TxPost (digN n) w) := by
  have hn : n = 10 ∨ n = 11 ∨ n = 12 ∨ n = 13 ∨ n = 14 ∨ n = 15 ∨ n = 16 ∨ n = 17 ∨ n = 18 ∨ n = 19 ∨ n = 20 ∨ n = 21 ∨ n = 22 ∨ n = 23 ∨ n = 24 ∨ n = 25 ∨ n = 26 ∨ n = 27 ∨ n = 28 ∨ n = 29 ∨ n = 30 := by omega
  rcases hn with rfl | rfl | rfl | rfl | rfl | rfl | rfl | rfl | rfl | rfl | rfl | rfl | rfl | rfl | rfl | rfl | rfl | rfl | rfl | rfl | rfl
  · have hb : Value.int .u8 (IntKind.u8.wrap (IntKind.i64.wrap 48)) = byteV 48 := rfl
    have cA := fun W => conv1 W _ _ hb
    have cB := fun (W : World) => conv1d W _ _ _ hb (Below.refl _ _)
    have cC := hd (fun w6 h6 => conv1d w w6 _ _ hb h6)
    have cs := hd (fun w' => num1_s 1 w' (by omega))
    have hd1 : digN ((1 : Nat) : Int) = [49] := by rw [digN, Int.toNat_natCast, Lib.decDigits_one (by omega)]; rfl
    have hd2 : digN ((10 : Nat) : Int) = [49] ++ [48] := by rw [digN, Int.toNat_natCast, Lib.decDigits_two (by omega) (by omega)]; rfl
    clear hb
    rw [hd1] at cs
    rw [hd2]
    go_enter Tryd.func22, Tryd.ntmps22
    go_wp2_with fail
    go_region_law ((go_simp; go_at_call 22; refine (cs.out _).mono ?_; rintro e w6 ⟨rfl, hb6⟩; (try have c6 := cC.out _ hb6)))
    all_goals
      go_wp2_with fail
      go_ret
      exact ⟨rfl, by first | exact ((Below.refl _ _).drew.next hb6).next (below_a1 _) | exact (below_a1 _).drew.next hb6⟩
  · have hb : Value.int .u8 (IntKind.u8.wrap (IntKind.i64.wrap 49)) = byteV 49 := rfl
    have cA := fun W => conv1 W _ _ hb
    have cB := fun (W : World) => conv1d W _ _ _ hb (Below.refl _ _)
    have cC := hd (fun w6 h6 => conv1d w w6 _ _ hb h6)
    have cs := hd (fun w' => num1_s 1 w' (by omega))
    have hd1 : digN ((1 : Nat) : Int) = [49] := by rw [digN, Int.toNat_natCast, Lib.decDigits_one (by omega)]; rfl
    have hd2 : digN ((11 : Nat) : Int) = [49] ++ [49] := by rw [digN, Int.toNat_natCast, Lib.decDigits_two (by omega) (by omega)]; rfl
    clear hb
    rw [hd1] at cs
    rw [hd2]
    go_enter Tryd.func22, Tryd.ntmps22
    go_wp2_with fail
    go_region_law ((go_simp; go_at_call 22; refine (cs.out _).mono ?_; rintro e w6 ⟨rfl, hb6⟩; (try have c6 := cC.out _ hb6)))
    all_goals
      go_wp2_with fail
      go_ret
      exact ⟨rfl, by first | exact ((Below.refl _ _).drew.next hb6).next (below_a1 _) | exact (below_a1 _).drew.next hb6⟩
  · have hb : Value.int .u8 (IntKind.u8.wrap (IntKind.i64.wrap 50)) = byteV 50 := rfl
    have cA := fun W => conv1 W _ _ hb
    have cB := fun (W : World) => conv1d W _ _ _ hb (Below.refl _ _)
    have cC := hd (fun w6 h6 => conv1d w w6 _ _ hb h6)
    have cs := hd (fun w' => num1_s 1 w' (by omega))
    have hd1 : digN ((1 : Nat) : Int) = [49] := by rw [digN, Int.toNat_natCast, Lib.decDigits_one (by omega)]; rfl
    have hd2 : digN ((12 : Nat) : Int) = [49] ++ [50] := by rw [digN, Int.toNat_natCast, Lib.decDigits_two (by omega) (by omega)]; rfl
    clear hb
    rw [hd1] at cs
    rw [hd2]
    go_enter Tryd.func22, Tryd.ntmps22
    go_wp2_with fail
    go_region_law ((go_simp; go_at_call 22; refine (cs.out _).mono ?_; rintro e w6 ⟨rfl, hb6⟩; (try have c6 := cC.out _ hb6)))
    all_goals
      go_wp2_with fail
      go_ret
      exact ⟨rfl, by first | exact ((Below.refl _ _).drew.next hb6).next (below_a1 _) | exact (below_a1 _).drew.next hb6⟩
  · have hb : Value.int .u8 (IntKind.u8.wrap (IntKind.i64.wrap 51)) = byteV 51 := rfl
    have cA := fun W => conv1 W _ _ hb
    have cB := fun (W : World) => conv1d W _ _ _ hb (Below.refl _ _)
    have cC := hd (fun w6 h6 => conv1d w w6 _ _ hb h6)
    have cs := hd (fun w' => num1_s 1 w' (by omega))
    have hd1 : digN ((1 : Nat) : Int) = [49] := by rw [digN, Int.toNat_natCast, Lib.decDigits_one (by omega)]; rfl
    have hd2 : digN ((13 : Nat) : Int) = [49] ++ [51] := by rw [digN, Int.toNat_natCast, Lib.decDigits_two (by omega) (by omega)]; rfl
    clear hb
    rw [hd1] at cs
    rw [hd2]
    go_enter Tryd.func22, Tryd.ntmps22
    go_wp2_with fail
    go_region_law ((go_simp; go_at_call 22; refine (cs.out _).mono ?_; rintro e w6 ⟨rfl, hb6⟩; (try have c6 := cC.out _ hb6)))
    all_goals
      go_wp2_with fail
      go_ret
      exact ⟨rfl, by first | exact ((Below.refl _ _).drew.next hb6).next (below_a1 _) | exact (below_a1 _).drew.next hb6⟩
  · have hb : Value.int .u8 (IntKind.u8.wrap (IntKind.i64.wrap 52)) = byteV 52 := rfl
    have cA := fun W => conv1 W _ _ hb
    have cB := fun (W : World) => conv1d W _ _ _ hb (Below.refl _ _)
    have cC := hd (fun w6 h6 => conv1d w w6 _ _ hb h6)
    have cs := hd (fun w' => num1_s 1 w' (by omega))
    have hd1 : digN ((1 : Nat) : Int) = [49] := by rw [digN, Int.toNat_natCast, Lib.decDigits_one (by omega)]; rfl
    have hd2 : digN ((14 : Nat) : Int) = [49] ++ [52] := by rw [digN, Int.toNat_natCast, Lib.decDigits_two (by omega) (by omega)]; rfl
    clear hb
    rw [hd1] at cs
    rw [hd2]
    go_enter Tryd.func22, Tryd.ntmps22
    go_wp2_with fail
    go_region_law ((go_simp; go_at_call 22; refine (cs.out _).mono ?_; rintro e w6 ⟨rfl, hb6⟩; (try have c6 := cC.out _ hb6)))
    all_goals
      go_wp2_with fail
      go_ret
      exact ⟨rfl, by first | exact ((Below.refl _ _).drew.next hb6).next (below_a1 _) | exact (below_a1 _).drew.next hb6⟩
  · have hb : Value.int .u8 (IntKind.u8.wrap (IntKind.i64.wrap 53)) = byteV 53 := rfl
    have cA := fun W => conv1 W _ _ hb
    have cB := fun (W : World) => conv1d W _ _ _ hb (Below.refl _ _)
    have cC := hd (fun w6 h6 => conv1d w w6 _ _ hb h6)
    have cs := hd (fun w' => num1_s 1 w' (by omega))
    have hd1 : digN ((1 : Nat) : Int) = [49] := by rw [digN, Int.toNat_natCast, Lib.decDigits_one (by omega)]; rfl
    have hd2 : digN ((15 : Nat) : Int) = [49] ++ [53] := by rw [digN, Int.toNat_natCast, Lib.decDigits_two (by omega) (by omega)]; rfl
    clear hb
    rw [hd1] at cs
    rw [hd2]
    go_enter Tryd.func22, Tryd.ntmps22
    go_wp2_with fail
    go_region_law ((go_simp; go_at_call 22; refine (cs.out _).mono ?_; rintro e w6 ⟨rfl, hb6⟩; (try have c6 := cC.out _ hb6)))
    all_goals
      go_wp2_with fail
      go_ret
      exact ⟨rfl, by first | exact ((Below.refl _ _).drew.next hb6).next (below_a1 _) | exact (below_a1 _).drew.next hb6⟩
  · have hb : Value.int .u8 (IntKind.u8.wrap (IntKind.i64.wrap 54)) = byteV 54 := rfl
    have cA := fun W => conv1 W _ _ hb
    have cB := fun (W : World) => conv1d W _ _ _ hb (Below.refl _ _)
    have cC := hd (fun w6 h6 => conv1d w w6 _ _ hb h6)
    have cs := hd (fun w' => num1_s 1 w' (by omega))
    have hd1 : digN ((1 : Nat) : Int) = [49] := by rw [digN, Int.toNat_natCast, Lib.decDigits_one (by omega)]; rfl
    have hd2 : digN ((16 : Nat) : Int) = [49] ++ [54] := by rw [digN, Int.toNat_natCast, Lib.decDigits_two (by omega) (by omega)]; rfl
    clear hb
    rw [hd1] at cs
    rw [hd2]
    go_enter Tryd.func22, Tryd.ntmps22
    go_wp2_with fail
    go_region_law ((go_simp; go_at_call 22; refine (cs.out _).mono ?_; rintro e w6 ⟨rfl, hb6⟩; (try have c6 := cC.out _ hb6)))
    all_goals
      go_wp2_with fail
      go_ret
      exact ⟨rfl, by first | exact ((Below.refl _ _).drew.next hb6).next (below_a1 _) | exact (below_a1 _).drew.next hb6⟩
  · have hb : Value.int .u8 (IntKind.u8.wrap (IntKind.i64.wrap 55)) = byteV 55 := rfl
    have cA := fun W => conv1 W _ _ hb
    have cB := fun (W : World) => conv1d W _ _ _ hb (Below.refl _ _)
    have cC := hd (fun w6 h6 => conv1d w w6 _ _ hb h6)
    have cs := hd (fun w' => num1_s 1 w' (by omega))
    have hd1 : digN ((1 : Nat) : Int) = [49] := by rw [digN, Int.toNat_natCast, Lib.decDigits_one (by omega)]; rfl
    have hd2 : digN ((17 : Nat) : Int) = [49] ++ [55] := by rw [digN, Int.toNat_natCast, Lib.decDigits_two (by omega) (by omega)]; rfl
    clear hb
    rw [hd1] at cs
    rw [hd2]
    go_enter Tryd.func22, Tryd.ntmps22
    go_wp2_with fail
    go_region_law ((go_simp; go_at_call 22; refine (cs.out _).mono ?_; rintro e w6 ⟨rfl, hb6⟩; (try have c6 := cC.out _ hb6)))
    all_goals
      go_wp2_with fail
      go_ret
      exact ⟨rfl, by first | exact ((Below.refl _ _).drew.next hb6).next (below_a1 _) | exact (below_a1 _).drew.next hb6⟩
  · have hb : Value.int .u8 (IntKind.u8.wrap (IntKind.i64.wrap 56)) = byteV 56 := rfl
    have cA := fun W => conv1 W _ _ hb
    have cB := fun (W : World) => conv1d W _ _ _ hb (Below.refl _ _)
    have cC := hd (fun w6 h6 => conv1d w w6 _ _ hb h6)
    have cs := hd (fun w' => num1_s 1 w' (by omega))
    have hd1 : digN ((1 : Nat) : Int) = [49] := by rw [digN, Int.toNat_natCast, Lib.decDigits_one (by omega)]; rfl
    have hd2 : digN ((18 : Nat) : Int) = [49] ++ [56] := by rw [digN, Int.toNat_natCast, Lib.decDigits_two (by omega) (by omega)]; rfl
    clear hb
    rw [hd1] at cs
    rw [hd2]
    go_enter Tryd.func22, Tryd.ntmps22
    go_wp2_with fail
    go_region_law ((go_simp; go_at_call 22; refine (cs.out _).mono ?_; rintro e w6 ⟨rfl, hb6⟩; (try have c6 := cC.out _ hb6)))
    all_goals
      go_wp2_with fail
      go_ret
      exact ⟨rfl, by first | exact ((Below.refl _ _).drew.next hb6).next (below_a1 _) | exact (below_a1 _).drew.next hb6⟩
  · have hb : Value.int .u8 (IntKind.u8.wrap (IntKind.i64.wrap 57)) = byteV 57 := rfl
    have cA := fun W => conv1 W _ _ hb
    have cB := fun (W : World) => conv1d W _ _ _ hb (Below.refl _ _)
    have cC := hd (fun w6 h6 => conv1d w w6 _ _ hb h6)
    have cs := hd (fun w' => num1_s 1 w' (by omega))
    have hd1 : digN ((1 : Nat) : Int) = [49] := by rw [digN, Int.toNat_natCast, Lib.decDigits_one (by omega)]; rfl
    have hd2 : digN ((19 : Nat) : Int) = [49] ++ [57] := by rw [digN, Int.toNat_natCast, Lib.decDigits_two (by omega) (by omega)]; rfl
    clear hb
    rw [hd1] at cs
    rw [hd2]
    go_enter Tryd.func22, Tryd.ntmps22
    go_wp2_with fail
    go_region_law ((go_simp; go_at_call 22; refine (cs.out _).mono ?_; rintro e w6 ⟨rfl, hb6⟩; (try have c6 := cC.out _ hb6)))
    all_goals
      go_wp2_with fail
      go_ret
      exact ⟨rfl, by first | exact ((Below.refl _ _).drew.next hb6).next (below_a1 _) | exact (below_a1 _).drew.next hb6⟩
  · have hb : Value.int .u8 (IntKind.u8.wrap (IntKind.i64.wrap 48)) = byteV 48 := rfl
    have cA := fun W => conv1 W _ _ hb
    have cB := fun (W : World) => conv1d W _ _ _ hb (Below.refl _ _)
    have cC := hd (fun w6 h6 => conv1d w w6 _ _ hb h6)
    have cs := hd (fun w' => num1_s 2 w' (by omega))
    have hd1 : digN ((2 : Nat) : Int) = [50] := by rw [digN, Int.toNat_natCast, Lib.decDigits_one (by omega)]; rfl
    have hd2 : digN ((20 : Nat) : Int) = [50] ++ [48] := by rw [digN, Int.toNat_natCast, Lib.decDigits_two (by omega) (by omega)]; rfl
    clear hb
    rw [hd1] at cs
    rw [hd2]
    go_enter Tryd.func22, Tryd.ntmps22
    go_wp2_with fail
    go_region_law ((go_simp; go_at_call 22; refine (cs.out _).mono ?_; rintro e w6 ⟨rfl, hb6⟩; (try have c6 := cC.out _ hb6)))
    all_goals
      go_wp2_with fail
      go_ret
      exact ⟨rfl, by first | exact ((Below.refl _ _).drew.next hb6).next (below_a1 _) | exact (below_a1 _).drew.next hb6⟩
  · have hb : Value.int .u8 (IntKind.u8.wrap (IntKind.i64.wrap 49)) = byteV 49 := rfl
    have cA := fun W => conv1 W _ _ hb
    have cB := fun (W : World) => conv1d W _ _ _ hb (Below.refl _ _)
    have cC := hd (fun w6 h6 => conv1d w w6 _ _ hb h6)
    have cs := hd (fun w' => num1_s 2 w' (by omega))
    have hd1 : digN ((2 : Nat) : Int) = [50] := by rw [digN, Int.toNat_natCast, Lib.decDigits_one (by omega)]; rfl
    have hd2 : digN ((21 : Nat) : Int) = [50] ++ [49] := by rw [digN, Int.toNat_natCast, Lib.decDigits_two (by omega) (by omega)]; rfl
    clear hb
    rw [hd1] at cs
    rw [hd2]
    go_enter Tryd.func22, Tryd.ntmps22
    go_wp2_with fail
    go_region_law ((go_simp; go_at_call 22; refine (cs.out _).mono ?_; rintro e w6 ⟨rfl, hb6⟩; (try have c6 := cC.out _ hb6)))
    all_goals
      go_wp2_with fail
      go_ret
      exact ⟨rfl, by first | exact ((Below.refl _ _).drew.next hb6).next (below_a1 _) | exact (below_a1 _).drew.next hb6⟩
  · have hb : Value.int .u8 (IntKind.u8.wrap (IntKind.i64.wrap 50)) = byteV 50 := rfl
    have cA := fun W => conv1 W _ _ hb
    have cB := fun (W : World) => conv1d W _ _ _ hb (Below.refl _ _)
    have cC := hd (fun w6 h6 => conv1d w w6 _ _ hb h6)
    have cs := hd (fun w' => num1_s 2 w' (by omega))
    have hd1 : digN ((2 : Nat) : Int) = [50] := by rw [digN, Int.toNat_natCast, Lib.decDigits_one (by omega)]; rfl
    have hd2 : digN ((22 : Nat) : Int) = [50] ++ [50] := by rw [digN, Int.toNat_natCast, Lib.decDigits_two (by omega) (by omega)]; rfl
    clear hb
    rw [hd1] at cs
    rw [hd2]
    go_enter Tryd.func22, Tryd.ntmps22
    go_wp2_with fail
    go_region_law ((go_simp; go_at_call 22; refine (cs.out _).mono ?_; rintro e w6 ⟨rfl, hb6⟩; (try have c6 := cC.out _ hb6)))
    all_goals
      go_wp2_with fail
      go_ret
      exact ⟨rfl, by first | exact ((Below.refl _ _).drew.next hb6).next (below_a1 _) | exact (below_a1 _).drew.next hb6⟩
  · have hb : Value.int .u8 (IntKind.u8.wrap (IntKind.i64.wrap 51)) = byteV 51 := rfl
    have cA := fun W => conv1 W _ _ hb
    have cB := fun (W : World) => conv1d W _ _ _ hb (Below.refl _ _)
    have cC := hd (fun w6 h6 => conv1d w w6 _ _ hb h6)
    have cs := hd (fun w' => num1_s 2 w' (by omega))
    have hd1 : digN ((2 : Nat) : Int) = [50] := by rw [digN, Int.toNat_natCast, Lib.decDigits_one (by omega)]; rfl
    have hd2 : digN ((23 : Nat) : Int) = [50] ++ [51] := by rw [digN, Int.toNat_natCast, Lib.decDigits_two (by omega) (by omega)]; rfl
    clear hb
    rw [hd1] at cs
    rw [hd2]
    go_enter Tryd.func22, Tryd.ntmps22
    go_wp2_with fail
    go_region_law ((go_simp; go_at_call 22; refine (cs.out _).mono ?_; rintro e w6 ⟨rfl, hb6⟩; (try have c6 := cC.out _ hb6)))
    all_goals
      go_wp2_with fail
      go_ret
      exact ⟨rfl, by first | exact ((Below.refl _ _).drew.next hb6).next (below_a1 _) | exact (below_a1 _).drew.next hb6⟩
  · have hb : Value.int .u8 (IntKind.u8.wrap (IntKind.i64.wrap 52)) = byteV 52 := rfl
    have cA := fun W => conv1 W _ _ hb
    have cB := fun (W : World) => conv1d W _ _ _ hb (Below.refl _ _)
    have cC := hd (fun w6 h6 => conv1d w w6 _ _ hb h6)
    have cs := hd (fun w' => num1_s 2 w' (by omega))
    have hd1 : digN ((2 : Nat) : Int) = [50] := by rw [digN, Int.toNat_natCast, Lib.decDigits_one (by omega)]; rfl
    have hd2 : digN ((24 : Nat) : Int) = [50] ++ [52] := by rw [digN, Int.toNat_natCast, Lib.decDigits_two (by omega) (by omega)]; rfl
    clear hb
    rw [hd1] at cs
    rw [hd2]
    go_enter Tryd.func22, Tryd.ntmps22
    go_wp2_with fail
    go_region_law ((go_simp; go_at_call 22; refine (cs.out _).mono ?_; rintro e w6 ⟨rfl, hb6⟩; (try have c6 := cC.out _ hb6)))
    all_goals
      go_wp2_with fail
      go_ret
      exact ⟨rfl, by first | exact ((Below.refl _ _).drew.next hb6).next (below_a1 _) | exact (below_a1 _).drew.next hb6⟩
  · have hb : Value.int .u8 (IntKind.u8.wrap (IntKind.i64.wrap 53)) = byteV 53 := rfl
    have cA := fun W => conv1 W _ _ hb
    have cB := fun (W : World) => conv1d W _ _ _ hb (Below.refl _ _)
    have cC := hd (fun w6 h6 => conv1d w w6 _ _ hb h6)
    have cs := hd (fun w' => num1_s 2 w' (by omega))
    have hd1 : digN ((2 : Nat) : Int) = [50] := by rw [digN, Int.toNat_natCast, Lib.decDigits_one (by omega)]; rfl
    have hd2 : digN ((25 : Nat) : Int) = [50] ++ [53] := by rw [digN, Int.toNat_natCast, Lib.decDigits_two (by omega) (by omega)]; rfl
    clear hb
    rw [hd1] at cs
    rw [hd2]
    go_enter Tryd.func22, Tryd.ntmps22
    go_wp2_with fail
    go_region_law ((go_simp; go_at_call 22; refine (cs.out _).mono ?_; rintro e w6 ⟨rfl, hb6⟩; (try have c6 := cC.out _ hb6)))
    all_goals
      go_wp2_with fail
      go_ret
      exact ⟨rfl, by first | exact ((Below.refl _ _).drew.next hb6).next (below_a1 _) | exact (below_a1 _).drew.next hb6⟩
  · have hb : Value.int .u8 (IntKind.u8.wrap (IntKind.i64.wrap 54)) = byteV 54 := rfl
    have cA := fun W => conv1 W _ _ hb
    have cB := fun (W : World) => conv1d W _ _ _ hb (Below.refl _ _)
    have cC := hd (fun w6 h6 => conv1d w w6 _ _ hb h6)
    have cs := hd (fun w' => num1_s 2 w' (by omega))
    have hd1 : digN ((2 : Nat) : Int) = [50] := by rw [digN, Int.toNat_natCast, Lib.decDigits_one (by omega)]; rfl
    have hd2 : digN ((26 : Nat) : Int) = [50] ++ [54] := by rw [digN, Int.toNat_natCast, Lib.decDigits_two (by omega) (by omega)]; rfl
    clear hb
    rw [hd1] at cs
    rw [hd2]
    go_enter Tryd.func22, Tryd.ntmps22
    go_wp2_with fail
    go_region_law ((go_simp; go_at_call 22; refine (cs.out _).mono ?_; rintro e w6 ⟨rfl, hb6⟩; (try have c6 := cC.out _ hb6)))
    all_goals
      go_wp2_with fail
      go_ret
      exact ⟨rfl, by first | exact ((Below.refl _ _).drew.next hb6).next (below_a1 _) | exact (below_a1 _).drew.next hb6⟩
  · have hb : Value.int .u8 (IntKind.u8.wrap (IntKind.i64.wrap 55)) = byteV 55 := rfl
    have cA := fun W => conv1 W _ _ hb
    have cB := fun (W : World) => conv1d W _ _ _ hb (Below.refl _ _)
    have cC := hd (fun w6 h6 => conv1d w w6 _ _ hb h6)
    have cs := hd (fun w' => num1_s 2 w' (by omega))
    have hd1 : digN ((2 : Nat) : Int) = [50] := by rw [digN, Int.toNat_natCast, Lib.decDigits_one (by omega)]; rfl
    have hd2 : digN ((27 : Nat) : Int) = [50] ++ [55] := by rw [digN, Int.toNat_natCast, Lib.decDigits_two (by omega) (by omega)]; rfl
    clear hb
    rw [hd1] at cs
    rw [hd2]
    go_enter Tryd.func22, Tryd.ntmps22
    go_wp2_with fail
    go_region_law ((go_simp; go_at_call 22; refine (cs.out _).mono ?_; rintro e w6 ⟨rfl, hb6⟩; (try have c6 := cC.out _ hb6)))
    all_goals
      go_wp2_with fail
      go_ret
      exact ⟨rfl, by first | exact ((Below.refl _ _).drew.next hb6).next (below_a1 _) | exact (below_a1 _).drew.next hb6⟩
  · have hb : Value.int .u8 (IntKind.u8.wrap (IntKind.i64.wrap 56)) = byteV 56 := rfl
    have cA := fun W => conv1 W _ _ hb
    have cB := fun (W : World) => conv1d W _ _ _ hb (Below.refl _ _)
    have cC := hd (fun w6 h6 => conv1d w w6 _ _ hb h6)
    have cs := hd (fun w' => num1_s 2 w' (by omega))
    have hd1 : digN ((2 : Nat) : Int) = [50] := by rw [digN, Int.toNat_natCast, Lib.decDigits_one (by omega)]; rfl
    have hd2 : digN ((28 : Nat) : Int) = [50] ++ [56] := by rw [digN, Int.toNat_natCast, Lib.decDigits_two (by omega) (by omega)]; rfl
    clear hb
    rw [hd1] at cs
    rw [hd2]
    go_enter Tryd.func22, Tryd.ntmps22
    go_wp2_with fail
    go_region_law ((go_simp; go_at_call 22; refine (cs.out _).mono ?_; rintro e w6 ⟨rfl, hb6⟩; (try have c6 := cC.out _ hb6)))
    all_goals
      go_wp2_with fail
      go_ret
      exact ⟨rfl, by first | exact ((Below.refl _ _).drew.next hb6).next (below_a1 _) | exact (below_a1 _).drew.next hb6⟩
  · have hb : Value.int .u8 (IntKind.u8.wrap (IntKind.i64.wrap 57)) = byteV 57 := rfl
    have cA := fun W => conv1 W _ _ hb
    have cB := fun (W : World) => conv1d W _ _ _ hb (Below.refl _ _)
    have cC := hd (fun w6 h6 => conv1d w w6 _ _ hb h6)
    have cs := hd (fun w' => num1_s 2 w' (by omega))
    have hd1 : digN ((2 : Nat) : Int) = [50] := by rw [digN, Int.toNat_natCast, Lib.decDigits_one (by omega)]; rfl
    have hd2 : digN ((29 : Nat) : Int) = [50] ++ [57] := by rw [digN, Int.toNat_natCast, Lib.decDigits_two (by omega) (by omega)]; rfl
    clear hb
    rw [hd1] at cs
    rw [hd2]
    go_enter Tryd.func22, Tryd.ntmps22
    go_wp2_with fail
    go_region_law ((go_simp; go_at_call 22; refine (cs.out _).mono ?_; rintro e w6 ⟨rfl, hb6⟩; (try have c6 := cC.out _ hb6)))
    all_goals
      go_wp2_with fail
      go_ret
      exact ⟨rfl, by first | exact ((Below.refl _ _).drew.next hb6).next (below_a1 _) | exact (below_a1 _).drew.next hb6⟩
  · have hb : Value.int .u8 (IntKind.u8.wrap (IntKind.i64.wrap 48)) = byteV 48 := rfl
    have cA := fun W => conv1 W _ _ hb
    have cB := fun (W : World) => conv1d W _ _ _ hb (Below.refl _ _)
    have cC := hd (fun w6 h6 => conv1d w w6 _ _ hb h6)
    have cs := hd (fun w' => num1_s 3 w' (by omega))
    have hd1 : digN ((3 : Nat) : Int) = [51] := by rw [digN, Int.toNat_natCast, Lib.decDigits_one (by omega)]; rfl
    have hd2 : digN ((30 : Nat) : Int) = [51] ++ [48] := by rw [digN, Int.toNat_natCast, Lib.decDigits_two (by omega) (by omega)]; rfl
    clear hb
    rw [hd1] at cs
    rw [hd2]
    go_enter Tryd.func22, Tryd.ntmps22
    go_wp2_with fail
    go_region_law ((go_simp; go_at_call 22; refine (cs.out _).mono ?_; rintro e w6 ⟨rfl, hb6⟩; (try have c6 := cC.out _ hb6)))
    all_goals
      go_wp2_with fail
      go_ret
      exact ⟨rfl, by first | exact ((Below.refl _ _).drew.next hb6).next (below_a1 _) | exact (below_a1 _).drew.next hb6⟩
theorem num_s (n : Int) (w : World) (h : 0 ≤ n ∧ n ≤ 30) : Calls Tryd.prog 22 #[.int .i64 n] w (TxPost (digN n) w) := by
  obtain ⟨m, rfl⟩ : ∃ m : Nat, n = (m : Int) := ⟨n.toNat, by omega⟩
  by_cases h1 : m < 10
  · exact num1_s m w h1
  · exact num2_s m w (by omega) (by omega)
end Go.Proofs.YtcepnifcfkgaeaaDoor

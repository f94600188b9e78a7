/- The walks of varint (the program's, which appends; the reference's, which joins strings). -/
import Derived.Test.YtpkmghllidejhaaWire
namespace Go.Proofs.Ytpkmghllidejhaa
open Go.RowKit
set_option linter.unusedVariables false
set_option maxRecDepth 100000

theorem infoU8 : (Try.prog.info? 5).map (fun i => (i.zero, i.size, i.bytes)) = some (some (.int .u8 0), 1, 1) := by kernel_rfl

/-- Where a grown slice lies: where the old one did, or in a block that is new since w. -/
def FR (w : World) (v v' : Value) : Prop := v'.ownBlock = v.ownBlock ∨ ∃ g, v'.ownBlock = some g ∧ w.heap.size ≤ g
theorem FR.refl (w : World) (v : Value) : FR w v v := .inl rfl
theorem FR.step {w w1 : World} {v v1 v2 : Value} (h : FR w v v1) (hw : w.heap.size ≤ w1.heap.size) (h2 : v2.ownBlock = v1.ownBlock ∨ v2.ownBlock = some w1.heap.size) : FR w v v2 := by
  rcases h2 with h2 | h2
  · rcases h with h | h
    · exact .inl (h2.trans h)
    · rw [← h2] at h; exact .inr h
  · exact .inr ⟨_, h2, hw⟩
theorem FR.trans {w w1 : World} {v v1 v2 : Value} (h : FR w v v1) (hw : w.heap.size ≤ w1.heap.size) (h2 : FR w1 v1 v2) : FR w v v2 := by
  rcases h2 with h2 | ⟨g, h2, hg⟩
  · exact h.step hw (.inl h2)
  · exact .inr ⟨g, h2, Nat.le_trans hw hg⟩
theorem FR.grow {w w1 w2 : World} {v v1 : Value} (h : FR w v v1) (hg : w.grownBy w1 v.ownBlock) (h2 : w1.grownBy w2 v1.ownBlock) : w.grownBy w2 v.ownBlock := by
  refine grownBy_trans hg h2 ?_
  rcases h with h | ⟨g, h, hs⟩
  · exact .inl h
  · exact .inr fun k hk => by rw [h] at hk; cases hk; exact hs

def BytesAt (w : World) (v : Value) (xs : List UInt8) : Prop := w.ownsRow 0 5 1 v xs.length (xs.map byteV)
/-- 'xs' were appended to an owned slice of bytes. -/
def AppB (w : World) (v : Value) (xs : List UInt8) (e : Ending) (w' : World) : Prop :=
  ∃ v', e = .returned v' ∧ BytesAt w' v' xs ∧ w.grownBy w' v.ownBlock ∧ FR w v v'

theorem byte_cont (m : Nat) : Value.int .u8 (bits .or .u8 ((m : Int) % 256) 128) = byteV (contB m) := by
  unfold contB
  have h : ∀ x, x < 256 → (x ||| 128) = 128 + x % 128 := by decide +kernel
  have e : ((m : Int) % 256) = ((m % 256 : Nat) : Int) := by omega
  have e2 : (UInt8.ofNat (128 + m % 128)).toNat = 128 + m % 128 := by simp; omega
  rw [byteV, e, e2, show (128 : Int) = ((128 : Nat) : Int) from rfl, u8_or_nat _ _ (by omega) (by omega), h _ (by omega)]
  congr 2; omega
theorem byte_last (m : Nat) (h : m < 128) : Value.int .u8 (m : Int) = byteV (UInt8.ofNat m) := by
  have e2 : (UInt8.ofNat m).toNat = m := by simp; omega
  rw [byteV, e2]

theorem FR.stepA {w w1 : World} {v v1 v2 : Value} {o : Obj} (h : FR w v v1) (hw : w.heap.size ≤ w1.heap.size) (h2 : v2.ownBlock = v1.ownBlock ∨ v2.ownBlock = some (w1.alloc o).heap.size) : FR w v v2 :=
  h.step (w1 := w1.alloc o) (by simp; omega) h2
theorem grownBy_alloc_l {w w2 : World} {o : Obj} {r : Option Nat} (h : (w.alloc o).grownBy w2 r) : w.grownBy w2 r := grownBy_trans (World.grownBy_alloc w o r) h (.inl rfl)
theorem one1 {v : Value} (h : v.oneCell' = true) : ∀ u ∈ [v], u.oneCell' = true := by simpa using h
theorem own_len {w : World} {b e n : Nat} {v : Value} {xs ys : List Value} {m : Nat} (h : w.ownsRow b e 1 v n xs) (hx : xs = ys) (hn : n = m) : w.ownsRow b e 1 v m ys := by rw [← hx, ← hn]; exact h

set_option maxHeartbeats 400000 in
theorem varint_i (n : Nat) (v : Value) (xs : List UInt8) (w : World) (hn : n < 4611686018427387904) (hown : BytesAt w v xs) (hl : xs.length ≤ 1000000000000) :
    Calls Try.prog 184 #[v, .int .i64 n] w (AppB w v (xs ++ varB n)) := by
  obtain ⟨i0, hi, hz0, hz1, hz2⟩ := info_parts infoU8
  have Hi := hd hi; have Hz0 := hd hz0; have Hz1 := hd hz1; have Hz2 := hd hz2
  have Hown := hd hown
  clear hi hz0 hz1 hz2 hown
  have hlen := varB_len10 n (by omega)
  go_enter Try.func184, Try.ntmps184
  go_wp2
  go_loopw [0, 1] (fun v1 n1 wr => ∃ (m : Nat) (ys : List UInt8), n1 = .int .i64 m ∧ m ≤ n ∧ Hd (ys ++ varB m = xs ++ varB n) ∧ Hd (BytesAt wr v1 ys) ∧ Hd (w.grownBy wr v.ownBlock) ∧ Hd (FR w v v1)) (fun _ m _ => (intOf m).toNat)
  case atStart => exact ⟨n, xs, rfl, Nat.le_refl _, rfl, Hown, grownBy_refl _ _, FR.refl _ _⟩
  case round =>
    obtain ⟨m, ys, rfl, hm, heq, ho, hg, hf⟩ := hrel
    have hyl : ys.length ≤ 1000000000010 := by
      have h1 := congrArg List.length heq.out
      simp only [List.length_append] at h1
      omega
    by_cases hb : 128 ≤ m
    · go_wp2_with (at_builtin; refine wpList_app rfl (.tmp 7) (.tmp 11) 179 rfl 0 5 i0 (.int .u8 0) 1 1 Try.underlying179 Hi.out Hz0.out Hz1.out Hz2.out rfl (by decide) _ _ _ rfl (World.ownsRow.alloc ho.out _) ⟨wr.heap.size, 0, none⟩ 1 1 [.int .u8 (bits .or .u8 ((m : Int) % 256) 128)] rfl rfl (cell_one_new _ _ _) (one1 rfl) (by omega) (by decide) (Nat.zero_le _) ?_; intro v2 w2 ho2 hg2 hf2; have ho2 := hd ho2; have hg2 := hd hg2; have hf2 := hd hf2)
      have e7 : ((m : Int) / 128) = ((m / 128 : Nat) : Int) := by omega
      go_roundw
      case rel =>
        refine ⟨m / 128, ys ++ [contB m], ?_, by omega, ?_, ?_, ?_, ?_⟩
        · rw [e7]
        · show _ = _
          rw [← heq.out, varB_big m hb]; simp
        · exact own_len ho2.out (by simp [byte_cont]) (by simp)
        · exact hf.out.grow hg.out (grownBy_alloc_l hg2.out)
        · exact hf.out.stepA hg.out.size hf2.out
      case measure => simp [intOf]; omega
    · go_wp2_with (at_builtin; refine wpList_app rfl (.tmp 15) (.tmp 18) 179 rfl 0 5 i0 (.int .u8 0) 1 1 Try.underlying179 Hi.out Hz0.out Hz1.out Hz2.out rfl (by decide) _ _ _ rfl (World.ownsRow.alloc ho.out _) ⟨wr.heap.size, 0, none⟩ 1 1 [.int .u8 (m : Int)] rfl rfl (cell_one_new _ _ _) (one1 rfl) (by omega) (by decide) (Nat.zero_le _) ?_; intro v2 w2 ho2 hg2 hf2; have ho2 := hd ho2; have hg2 := hd hg2; have hf2 := hd hf2)
      go_ret
      refine ⟨_, rfl, ?_, ?_, ?_⟩
      · rw [← heq.out, varB_small m (by omega)]
        exact own_len ho2.out (by simp [byte_last m (by omega)]) (by simp)
      · exact hf.out.grow hg.out (grownBy_alloc_l hg2.out)
      · exact hf.out.stepA hg.out.size hf2.out
end Go.Proofs.Ytpkmghllidejhaa

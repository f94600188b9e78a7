/- l6Of and l6Subst of the reference. -/
import Derived.Test.YtbjilpemckoioaaApS
namespace Go.Proofs.Ytbjilpemckoioaa
open Go.RowKit
set_option linter.unusedVariables false
set_option maxRecDepth 100000
def OfPost (rows : List (List Value)) (w : World) (e : Ending) (w' : World) : Prop :=
  ∃ v rb, e = .returned (.agg #[v]) ∧ OwnR w' w.heap.size 163 3 v rows rb ∧ Below w.heap.size w w'
set_option maxHeartbeats 1600000 in
theorem of6_s (t : K) (r : List Value) (w : World) (S : Nat → Prop) (hSw : ∀ q, S q → q < w.heap.size) (hc : countK t ≤ 1000000) (h : RepZ HT 3 w S t r) :
    Calls Try.prog 61 #[.agg r.toArray] w (OfPost ((flK t).map DCell.enc) w) := by
  have cc := hd (fun w' (hw : Below w.heap.size w w') => flat6_s t r [] (.slice none 0 0) w' S w'.heap.size (fun q h => Nat.lt_of_lt_of_le (hSw q h) hw.size) (Nat.le_refl _) (by simp; omega) (RepZ.same (SameS.below hw hSw) (fun _ h => h) _ _ h) Own.nil)
  rw [List.nil_append] at cc
  obtain ⟨a, c, rows, rfl, hjk⟩ := h.openT
  clear h hjk hSw hc
  generalize flK t = fl at *
  have hb1 := hd (below_a2 w (a := .cells #[.int .i64 t.of, .string t.name, .slice a t.parts.length c] 91) (b := .cells #[.slice none 0 0] 29))
  have hX := hd (show BoxN ((w.alloc (.cells #[.int .i64 t.of, .string t.name, .slice a t.parts.length c] 91)).alloc (.cells #[.slice none 0 0] 29)) w.heap.size [.int .i64 t.of, .string t.name, .slice a t.parts.length c] from (BoxN.new w _ _).below (below_a1 _))
  have hXr := hd (show Box1 ((w.alloc (.cells #[.int .i64 t.of, .string t.name, .slice a t.parts.length c] 91)).alloc (.cells #[.slice none 0 0] 29)) (w.heap.size + 1) (.slice none 0 0) from ⟨by go_simp, by go_simp⟩)
  have hsW : w.heap.size + 2 ≤ ((w.alloc (.cells #[.int .i64 t.of, .string t.name, .slice a t.parts.length c] 91)).alloc (.cells #[.slice none 0 0] 29)).heap.size := by simp
  go_enter Try.func61, Try.ntmps61
  go_upto_region 1 with (fail)
  generalize (w.alloc (.cells #[.int .i64 t.of, .string t.name, .slice a t.parts.length c] 91)).alloc (.cells #[.slice none 0 0] 29) = W at *
  have x0 := hX.out.1 0 _ rfl; have x1 := hX.out.1 1 _ rfl; have x2 := hX.out.1 2 _ rfl
  go_wp2_with fail
  refine (cc.out _ hb1.out).mono ?_
  rintro e w3 ⟨v3, rfl, ho3, hG3⟩
  have hB23 := hd (hG3.below (B := W.heap.size) (Nat.le_refl _) (by intro g hg; cases hg))
  have hx3 := hXr.out.below hB23.out
  have hB3 := hd (hb1.out.next hB23.out)
  obtain ⟨a3, c3, rfl, hjk⟩ := ho3.sl
  clear hjk
  simp only [List.length_map] at ho3 ⊢
  have Q1 := hx3.1; have Q2 := hx3.2
  replace ho3 := hd ho3
  clear hG3 hx3
  go_wp2_with fail
  exact bodyPost_ret (v := .agg #[.slice a3 fl.length c3]) (by simp [results, Try.results61, go_sem, Q1]) rfl ⟨_, (Value.slice a3 fl.length c3).ownBlock, rfl, ownR_storeA ho3.out.r (by omega) (by omega), hB3.out.setCell (by simp) _⟩
/-- What l6Subst hands over. -/
def SubPost (ls : List (List DCell)) (bb : Bool) (w : World) (e : Ending) (w' : World) : Prop := match termsT ls with
  | none => e = .returned (.tuple #[.slice none 0 0, .bool false]) ∧ Below w.heap.size w w'
  | some ts => ∃ (a : Option Addr) (c : Nat) (rws : List (List Value)), e = .returned (.tuple #[.slice a ls.length c, .bool bb]) ∧ Own w' w.heap.size 91 3 (.slice a ls.length c) rws ∧ rws.length = ts.length ∧ (∀ j (h : j < ts.length) (h' : j < rws.length), RepZ HT 3 w' (fun q => q < w'.heap.size) ts[j] rws[j]) ∧ Below w.heap.size w w'
theorem SubPost_n {ls : List (List DCell)} {bb : Bool} {w w' : World} {e : Ending} (h : SubPost ls bb w e w') (hn : termsT ls = none) : e = .returned (.tuple #[.slice none 0 0, .bool false]) ∧ Below w.heap.size w w' := by rw [SubPost, hn] at h; exact h
theorem SubPost_s {ls : List (List DCell)} {bb : Bool} {ts : List K} {w w' : World} {e : Ending} (h : SubPost ls bb w e w') (hn : termsT ls = some ts) : ∃ (a : Option Addr) (c : Nat) (rws : List (List Value)), e = .returned (.tuple #[.slice a ls.length c, .bool bb]) ∧ Own w' w.heap.size 91 3 (.slice a ls.length c) rws ∧ rws.length = ts.length ∧ (∀ j (h : j < ts.length) (h' : j < rws.length), RepZ HT 3 w' (fun q => q < w'.heap.size) ts[j] rws[j]) ∧ Below w.heap.size w w' := by rw [SubPost, hn] at h; exact h
/-- Rows of terms that are being gathered. -/
def Gat (w : World) (s : Value) (ts : List K) (rws : List (List Value)) : Prop :=
  rws.length = ts.length ∧ ∀ j (h : j < ts.length) (h' : j < rws.length), RepZ HT 3 w (fun q => q < w.heap.size ∧ s.ownBlock ≠ some q) ts[j] rws[j]
theorem Gat.below {w w' : World} {s : Value} {ts : List K} {rws : List (List Value)} (h : Gat w s ts rws) (hb : Below w.heap.size w w') : Gat w' s ts rws :=
  ⟨h.1, fun j hj hj' => RepZ.same (SameS.below hb (fun q h => h.1)) (fun q h => ⟨Nat.lt_of_lt_of_le h.1 hb.size, h.2⟩) _ _ (h.2 j hj hj')⟩
theorem Gat.app {w w' : World} {s s' : Value} {ts : List K} {rws : List (List Value)} {t : K} {r : List Value} (h : Gat w s ts rws) (hr : RepZ HT 3 w (fun q => q < w.heap.size ∧ s.ownBlock ≠ some q) t r) (hg : w.grownBy w' s.ownBlock) (hv : s'.ownBlock = s.ownBlock ∨ ∀ g, s'.ownBlock = some g → w.heap.size ≤ g) : Gat w' s' (ts ++ [t]) (rws ++ [r]) := by
  have hs : SameS w w' (fun q => q < w.heap.size ∧ s.ownBlock ≠ some q) := SameS.grown hg (fun q h => h.1) (fun q h e => h.2 e.symm)
  have hS : ∀ q, (q < w.heap.size ∧ s.ownBlock ≠ some q) → (q < w'.heap.size ∧ s'.ownBlock ≠ some q) := fun q hq => ⟨Nat.lt_of_lt_of_le hq.1 hg.size, fun e => by
    rcases hv with hv | hv
    · rw [hv] at e; exact hq.2 e
    · have := hv q e; omega⟩
  refine ⟨by simp [h.1], fun j hj hj' => ?_⟩
  have hl := h.1
  rw [List.length_append, List.length_singleton] at hj
  by_cases hjk : j < ts.length
  · have e1 : (ts ++ [t])[j] = ts[j] := List.getElem_append_left hjk
    have e2 : (rws ++ [r])[j] = rws[j]'(by omega) := List.getElem_append_left (by omega)
    rw [e1, e2]
    exact RepZ.same hs hS _ _ (h.2 j hjk (by omega))
  · obtain rfl : j = ts.length := by omega
    have e1 : (ts ++ [t])[ts.length] = t := by simp
    have e2 : (rws ++ [r])[ts.length] = r := by rw [List.getElem_append_right (by omega)]; simp [hl]
    rw [e1, e2]
    exact RepZ.same hs hS _ _ hr
set_option maxHeartbeats 6400000 in
theorem subst_s (ls : List (List DCell)) (v1 : Value) (w : World) (hls : ls.length ≤ 1000000000) (hll : ∀ x ∈ ls, x.length ≤ 1000000000) (hss : ∀ x ∈ ls, ∀ y ∈ x, y.name.size ≤ 1000000000000) (h1 : SlT w v1 ls) (bb : Bool) (hbb : ((ls.length : Int) == 6) = bb) :
    Calls Try.prog 58 #[v1] w (SubPost ls bb w) := by
  obtain ⟨us, hul, hus, huj⟩ := h1
  have husO := hus.open
  obtain ⟨aL, cL, rfl, -⟩ := hus
  simp only [List.length_map, hul] at husO ⊢
  have huC : ∀ k (h : k < us.length), ∃ b1 o1, aL = some ⟨b1, o1, none⟩ ∧ w.cell? ⟨b1, o1 + k, none⟩ = some us[k] := by
    intro k hk
    rcases husO with ⟨a1, c1, e, hr⟩ | ⟨b1, o1, c1, e, hr, C1⟩
    · exfalso; rw [List.map_eq_nil_iff] at hr; rw [hr] at hk; simp at hk
    · cases e
      refine ⟨b1, o1, rfl, ?_⟩
      have := C1.2 k (encV us[k]) (by simp [hk]) 0 _ rfl
      rwa [Nat.mul_one, Nat.add_zero] at this
  clear husO
  replace huC := hd huC
  replace huj := hd huj
  replace hll := hd hll
  replace hss := hd hss
  replace hbb := hd hbb
  obtain ⟨i0, hi0, hz0, hz1, hz2⟩ := info_parts infoTv
  have Hi := hd hi0; have Hz0 := hd hz0; have Hz1 := hd hz1; have Hz2 := hd hz2
  clear hi0 hz0 hz1 hz2
  go_enter Try.func58, Try.ntmps58
  go_wp2_with fail
  go_loopw [4, 11] (fun s i wr => ∃ (k : Nat) (ts : List K) (rws : List (List Value)) (a : Option Addr) (c : Nat), s = .slice a k c ∧ i = .int .i64 k ∧ k ≤ ls.length ∧ rws.length = k ∧ Hd (termsT (ls.take k) = some ts) ∧ Hd (Own wr w.heap.size 91 3 (.slice a k c) rws) ∧ Hd (Gat wr (.slice a k c) ts rws) ∧ Hd (Below w.heap.size w wr)) (fun _ i _ => ls.length - (intOf i).toNat)
  case atStart => exact ⟨0, [], [], none, 0, rfl, rfl, Nat.zero_le _, rfl, rfl, Own.nil, ⟨rfl, fun j h => absurd h (by simp)⟩, Below.refl _ _⟩
  case round =>
    obtain ⟨k, ts, rws, a, c, rfl, rfl, hk, hrl, hts, hO, hGa, hbl⟩ := hrel
    obtain ⟨wo, rfl⟩ : ∃ wo : World, wo = wr := ⟨_, rfl⟩
    by_cases hlt : k < ls.length
    · have hltI : (k : Int) < (ls.length : Int) := by omega
      obtain ⟨ak, ck, eu, hck, hSk⟩ := huj.out k hlt (by omega)
      obtain ⟨b1, o1, rfl, q0⟩ := huC.out k (by omega)
      have q1 := keepCell hbl.out q0
      have ct := hd (fun w' (hw : Below w.heap.size w w') => tree6_s ls[k] ak ck w' (hll.out _ (List.getElem_mem hlt)) (hss.out _ (List.getElem_mem hlt)) (by rw [← eu]; exact hSk.mono hw))
      rw [eu] at q1
      have htk := termsT_take hlt
      rw [hts.out] at htk
      have hstop := hd (fun (e : termsT (ls.take (k + 1)) = none) => (show termsT ls = none from by
        have := termsT_stop e (ls.length - (k + 1)) (by omega)
        rwa [show k + 1 + (ls.length - (k + 1)) = ls.length by omega, List.take_length] at this))
      have hb5 := hd (below_a1 wo (a := .cells #[.slice ak ls[k].length ck] 29))
      clear eu hck hSk q0
      generalize ls[k] = lk at *
      go_wp2_with fail
      refine (ct.out _ (hbl.out.next hb5.out)).mono ?_
      rintro e w6 ⟨v6, n6, a6, m6, c6, rfl, hR6, hb6⟩
      have hb56 := hd (hb5.out.next hb6)
      have hz5 := hb5.out.size
      have hb7 := hd (below_a1 w6 (a := .cells #[.int .i64 v6, .string n6, .slice a6 m6 c6] 91))
      have hX7 := hd (BoxN.new w6 [.int .i64 v6, .string n6, .slice a6 m6 c6] 91)
      change Hd (BoxN (w6.alloc (.cells #[.int .i64 v6, .string n6, .slice a6 m6 c6] 91)) _ _) at hX7
      have hb58 := hd (hb56.out.next hb7.out)
      have hbl8 := hd (hbl.out.next hb58.out)
      have hO8 := hd (hO.out.below hb58.out)
      have hG8 := hd (hGa.out.below hb58.out)
      cases hTk : termT lk with
      | none =>
        rw [hTk] at htk
        have hn := hstop.out htk
        have hfin := hd (show SubPost ls bb w (.returned (.tuple #[.slice none 0 0, .bool false])) (w6.alloc (.cells #[.int .i64 v6, .string n6, .slice a6 m6 c6] 91)) from by rw [SubPost, hn]; exact ⟨rfl, hbl8.out⟩)
        clear hR6 hb6
        go_wp2_with fail
        go_ret2
        exact hfin.out
      | some tk =>
        rw [hTk] at htk
        replace htk := hd htk
        have hR8 := RepZ.same (S' := fun q => q < (w6.alloc (.cells #[.int .i64 v6, .string n6, .slice a6 m6 c6] 91)).heap.size ∧ (Value.slice a k c).ownBlock ≠ some q) (SameS.below hb7.out (fun q h => h.2)) (fun q h => ⟨Nat.lt_of_lt_of_le h.2 hb7.out.size, fun e => by have h1 := (hO.out.lt q e).2; have h2 : (wo.alloc (.cells #[.slice ak lk.length ck] 29)).heap.size ≤ q := h.1; omega⟩) _ _ (hR6 tk hTk)
        replace hR8 := hd hR8
        clear hR6 hb6 hTk
        go_upto_region 8 with (fail)
        generalize w6.alloc (.cells #[.int .i64 v6, .string n6, .slice a6 m6 c6] 91) = W8 at *
        have z0 := hX7.out.1 0 _ rfl; have rz0 := hX7.out.2.1 0; have z1 := hX7.out.1 1 _ rfl; have rz1 := hX7.out.2.1 1; have z2 := hX7.out.1 2 _ rfl; have rz2 := hX7.out.2.1 2
        have hba := hd (fun o => below_a1 W8 (a := o))
        have hlk : k ≤ 1000000000 := by omega
        have hz8 := hbl8.out.size
        go_wp2_with (at_builtin; refine wpList_appOwn rfl (.tmp 22) (.tmp 24) 89 rfl w.heap.size 91 i0 _ 3 48 Try.underlying89 Hi.out Hz0.out Hz1.out Hz2.out rfl (by decide) _ rws [[.int .i64 v6, .string n6, .slice a6 m6 c6]] rfl (hO8.out.below (below_a1 _)) _ 1 1 rfl rfl (one_row rfl) (cells_new _ _ _) rowT_one (by omega) (by decide) (by first | omega | exact Nat.le_refl _ | (simp; done) | (simp; omega)) ?_; intro s9 w9 ho9 hg9 hv9; obtain ⟨a9, c9, hs9, hjk⟩ := ho9.sl; clear hjk; rw [List.length_append, List.length_singleton, hrl] at hs9; subst hs9; have hg9 := hd hg9; have hv9 := hd hv9; have ho9 := hd ho9; clear z0 z1 z2)
        have hG9 := hd (Gat.app (hG8.out.below (hba.out _)) (RepZ.same (SameS.below (hba.out _) (fun q h => h.1)) (fun q h => ⟨Nat.lt_of_lt_of_le h.1 (hba.out _).size, h.2⟩) _ _ hR8.out) hg9.out (hv9.out.imp id (fun e g hg => by rw [e] at hg; cases hg; exact Nat.le_refl _)))
        have hb9 := hd ((hbl8.out.next (hba.out _)).grown hg9.out (Nat.le_trans hbl8.out.size (hba.out _).size) (fun g hg => (hO8.out.lt g hg).1))
        go_wp2_with fail
        go_roundw
        case rel => exact ⟨k + 1, ts ++ [tk], rws ++ [[.int .i64 v6, .string n6, .slice a6 m6 c6]], a9, c9, rfl, by go_num, by omega, by simp [hrl], htk.out, ho9, hG9, hb9⟩
        case measure => simp [intOf]; omega
    · obtain rfl : k = ls.length := by omega
      have hltI : ¬ (ls.length : Int) < (ls.length : Int) := by omega
      rw [List.take_length] at hts
      have hfin := hd (fun (e : Ending) w' (he : e = .returned (.tuple #[.slice a ls.length c, .bool bb])) (hw : w' = wo) => (show SubPost ls bb w e w' from by
        subst hw
        rw [SubPost, hts.out]
        exact ⟨a, c, rws, he, hO.out, hGa.out.1, fun j h h' => RepZ.same (SameS.refl _ _) (fun q h => h.1) _ _ (hGa.out.2 j h h'), hbl.out⟩))
      have hb' := hbb.out
      go_wp2_with fail
      go_ret2
      exact hfin.out _ _ rfl rfl
end Go.Proofs.Ytbjilpemckoioaa

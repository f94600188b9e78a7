/- SortFields of the reference. -/
import Derived.Test.YtbjilpemckoioaaStable
import Derived.Test.YtbjilpemckoioaaReads
import Derived.Deep.QuietTactic
import Derived.BigQuiet
namespace Go.Proofs.Ytbjilpemckoioaa
open Go.RowKit
set_option linter.unusedVariables false
set_option maxRecDepth 100000
def fnoF (x : DField) : Int := x.no
theorem tw_eq {α : Type} {p : α → Bool} : ∀ {S : List α} {t : Nat}, t ≤ S.length → (∀ i (h : i < S.length), i < t → p S[i] = true) → (∀ h : t < S.length, p S[t] = false) → S.takeWhile p = S.take t ∧ S.dropWhile p = S.drop t := by
  intro S
  induction S with
  | nil => intro t h _ _; simp at h; subst h; simp
  | cons x S ih =>
    intro t ht h1 h2
    cases t with
    | zero =>
      have := h2 (by simp)
      simp at this
      simp [this]
    | succ t =>
      have hx := h1 0 (by simp) (by omega)
      simp at hx
      have := ih (t := t) (by simpa using ht) (fun i h hi => by have := h1 (i + 1) (by simpa using h) (by omega); simpa using this) (fun h => by have := h2 (by simpa using h); simpa using this)
      simp [hx, this.1, this.2]
theorem insS_at {S : List DField} {x : DField} {t : Nat} (ht : t ≤ S.length) (h1 : ∀ i (h : i < S.length), i < t → S[i].no ≤ x.no) (h2 : ∀ h : t < S.length, ¬ S[t].no ≤ x.no) : insS fnoF S x = S.take t ++ ([x] ++ S.drop t) := by
  have := tw_eq (p := fun y => decide (fnoF y ≤ fnoF x)) ht (fun i h hi => decide_eq_true (h1 i h hi)) (fun h => decide_eq_false (h2 h))
  unfold insS
  rw [this.1, this.2]
theorem head_runF (g n c t : Nat) (h1 : t ≤ n) (h2 : n ≤ c) (w : World) : (Instr.sliceAt 81 (.slice (some ⟨g, 0, none⟩) n c) none (some (.int .i64 t)) none).run Try.prog w = .ok (.slice (some ⟨g, 0, none⟩) t c) w := by
  have h3 : t ≤ c := by omega
  go_simp
theorem tail_runF (g n c t : Nat) (h1 : t ≤ n) (h2 : n ≤ c) : ∃ ad : Addr, (t < n → ad = ⟨g, t * 4, none⟩) ∧ ∀ w : World, (Instr.sliceAt 81 (.slice (some ⟨g, 0, none⟩) n c) (some (.int .i64 t)) none none).run Try.prog w = .ok (.slice (some ad) (n - t) (c - t)) w := by
  refine ⟨if c = t then ⟨g, 0, none⟩ else ⟨g, t * 4, none⟩, fun h => by rw [if_neg (by omega)], fun w => ?_⟩
  by_cases h : c = t
  · subst h
    obtain rfl : n = c := by omega
    go_simp
  · rw [if_neg h]
    go_simp <;> (intro h3; omega)
theorem own_capF {w : World} {B E sz n c : Nat} {a : Option Addr} {rows : List (List Value)} (h : Own w B E sz (.slice a n c) rows) : n ≤ c := by
  rcases (own_flat h).2 with ⟨e, _⟩ | ⟨g, cap, cur, e, _, _, h3, _⟩
  · cases e; exact Nat.le_refl _
  · cases e; exact h3
theorem Own.cells0 {w : World} {B E sz g n cap : Nat} {rows : List (List Value)} (h : Own w B E sz (.slice (some ⟨g, 0, none⟩) n cap) rows) (hg : g < w.heap.size) : Cells w g 0 sz rows :=
  ⟨hg, fun i r hr j u hu => by rw [Nat.zero_add]; exact (h.cell hr hu).1⟩
theorem Cells.pre {w : World} {g o sz : Nat} {α : Type} {enc : α → List Value} {S : List α} (h : Cells w g o sz (S.map enc)) (t : Nat) : Cells w g o sz ((S.take t).map enc) :=
  ⟨h.1, fun i r hr j u hu => h.2 i r (by
    rw [List.getElem?_map] at hr ⊢
    rw [List.getElem?_take] at hr
    split at hr
    · exact hr
    · simp at hr) j u hu⟩
theorem Cells.suf {w : World} {g o sz : Nat} {α : Type} {enc : α → List Value} {S : List α} (h : Cells w g o sz (S.map enc)) (t : Nat) : Cells w g (o + t * sz) sz ((S.drop t).map enc) :=
  ⟨h.1, fun i r hr j u hu => by
    have := h.2 (t + i) r (by rw [List.getElem?_map, List.getElem?_drop] at hr; rw [List.getElem?_map]; exact hr) j u hu
    rw [show o + t * sz + i * sz + j = o + (t + i) * sz + j by rw [Nat.add_mul]; omega]
    exact this⟩
theorem fieldsB_bad {l : List DField} {x : DField} (hx : x ∈ l) (h : fieldB x = false) : fieldsB l = false := by
  rw [fieldsB, Bool.and_eq_false_iff]
  right
  rw [Bool.not_eq_false', List.any_eq_true]
  exact ⟨x, hx, by simp [fieldBad, h]⟩
theorem fieldsB_long {l : List DField} (h : ¬ l.length ≤ 40) : fieldsB l = false := by
  rw [fieldsB, Bool.and_eq_false_iff]
  left
  simpa using h
theorem fieldsB_all {l : List DField} (h40 : l.length ≤ 40) (h : ∀ i (hi : i < l.length), fieldB l[i] = true) : fieldsB l = true := by
  rw [fieldsB, Bool.and_eq_true, Bool.not_eq_true', List.any_eq_false]
  refine ⟨by simpa using h40, fun x hx => ?_⟩
  obtain ⟨i, hi, rfl⟩ := List.getElem_of_mem hx
  simp [fieldBad, h i hi]
set_option maxHeartbeats 4000000 in
theorem SortFields_s (l : List DField) (v : Value) (w : World) (hl : l.length ≤ 1048576) (h : Sl w v 4 (l.map DField.enc)) (b : Bool) (hb : fieldsB l = b) (r : List DField) (hr : (if b = true then sortS fnoF l else []) = r) :
    Calls Try.prog 45 #[v] w (SlbPost 141 4 (r.map DField.enc) b w) := by
  obtain ⟨a0, k0, rfl, hrr⟩ := h
  replace hrr := hd hrr
  have HB := hd hb
  have HR := hd hr
  clear hb hr
  simp only [List.length_map]
  obtain ⟨i0, hi, hz0, hz1, hz2⟩ := info_parts infoField
  have Hi := hd hi; have Hz0 := hd hz0; have Hz1 := hd hz1; have Hz2 := hd hz2
  clear hi hz0 hz1 hz2
  go_enter Try.func45, Try.ntmps45
  go_wp2_with fail
  go_loopw [4, 11] (fun o i wr => ∃ (k : Nat), k ≤ l.length ∧ i = .int .i64 k ∧ Hd (Own wr w.heap.size 141 4 o ((sortS fnoF (l.take k)).map DField.enc)) ∧ Hd (∀ i (hi : i < l.length), i < k → fieldB l[i] = true) ∧ Hd (k = 0 → o = .slice none 0 0) ∧ Hd (Below w.heap.size w wr)) (fun _ i _ => l.length - (intOf i).toNat)
  case atStart => exact ⟨0, Nat.zero_le _, rfl, Own.nil, fun i hi h => absurd h (by omega), fun _ => rfl, Below.refl _ _⟩
  case round =>
    obtain ⟨k, hk, rfl, hown, hgood, hnil, hbl⟩ := hrel
    obtain ⟨wo, rfl⟩ : ∃ wo : World, wo = wr := ⟨_, rfl⟩
    by_cases hlt : k < l.length
    · have hltI : (k : Int) < (l.length : Int) := by omega
      obtain ⟨b1, o1, rfl, C1⟩ := rows_at hrr.out (k := k) (by rw [List.length_map]; omega)
      obtain ⟨f0, f1, f2, f3⟩ := Cells.rowField l k hlt (C1.mono hbl.out)
      have hxm := hd (List.getElem_mem hlt)
      have hsn := hd (show sortS fnoF (l.take (k + 1)) = insS fnoF (sortS fnoF (l.take k)) l[k] by rw [List.take_succ_eq_append_getElem hlt, sortS_snoc])
      have hgn := hd (fun (hp : fieldB l[k] = true) => (show ∀ i (hi : i < l.length), i < k + 1 → fieldB l[i] = true from fun i hi h => by
        by_cases e : i = k
        · subst e; exact hp
        · exact hgood.out i hi (by omega)))
      have hSl := hd (show (sortS fnoF (l.take k)).length = k by rw [(sortS_ok _).2.2, List.length_take]; omega)
      have hri := hd (sortS_ok (kf := fnoF) (l.take k)).1
      clear hgood
      generalize l[k] = x at *
      generalize sortS fnoF (l.take k) = S at *
      obtain ⟨p, hp⟩ : ∃ p, fieldB x = p := ⟨_, rfl⟩
      have cf := hd (fun w' => field_s x w' p hp)
      replace hp := hd hp
      have hb4 := hd (hbl.out.next (below_a1 wo (a := .cells #[.int .i64 x.no, .int .i64 x.kind, .int .i64 x.num, .string x.data] 141)))
      have ho4 := hd (hown.out.below (below_a1 wo (a := .cells #[.int .i64 x.no, .int .i64 x.kind, .int .i64 x.num, .string x.data] 141)))
      have hx4 := hd (show BoxN (wo.alloc (.cells #[.int .i64 x.no, .int .i64 x.kind, .int .i64 x.num, .string x.data] 141)) wo.heap.size [.int .i64 x.no, .int .i64 x.kind, .int .i64 x.num, .string x.data] from BoxN.new wo _ _)
      go_upto_region 5 with (fail)
      generalize wo.alloc (.cells #[.int .i64 x.no, .int .i64 x.kind, .int .i64 x.num, .string x.data] 141) = w4 at *
      clear f0 f1 f2 f3
      have q0 := hx4.out.1 0 _ rfl; have q1 := hx4.out.1 1 _ rfl; have q2 := hx4.out.1 2 _ rfl; have q3 := hx4.out.1 3 _ rfl
      go_wp2_with fail
      refine (cf.out _).mono ?_
      rintro e w5 ⟨rfl, hb5⟩
      have hB5 := hd (hb4.out.next hb5)
      have hO5 := hd (ho4.out.below hb5)
      have hX5 := hd (hx4.out.below hb5)
      clear hb5 hb4 ho4 hx4 q0 q1 q2 q3 hown hbl
      cases p with
      | false =>
        have hbf := hd (show b = false by rw [← HB.out]; exact fieldsB_bad hxm.out hp.out)
        have hrf := hd (show r = [] by rw [← HR.out, hbf.out]; rfl)
        go_wp2_with fail
        go_ret2
        exact ⟨_, none, by rw [hbf.out]; rfl, by rw [hrf.out]; exact OwnR.nil, hB5.out⟩
      | true =>
        have hsz5 := hB5.out.size
        by_cases hk0 : k = 0
        · have hS0 : S = [] := List.eq_nil_of_length_eq_zero (by have := hSl.out; omega)
          have ho0 := hnil.out hk0
          subst hS0
          subst ho0
          subst hk0
          replace hgn := hd (hgn.out hp.out)
          clear hnil hri
          go_wp2_with fail
          go_loopw [7] (fun t wr2 => t = .int .i64 0 ∧ Hd (Below w5.heap.size w5 wr2)) (fun _ _ => 0)
          case atStart => exact ⟨rfl, Below.refl _ _⟩
          case round =>
            obtain ⟨rfl, hb6⟩ := hrel
            obtain ⟨w6', rfl⟩ : ∃ z : World, z = wr := ⟨_, rfl⟩
            go_wp2_with fail
            go_quiet (fail)
            have hB6 := hd (show Below w.heap.size w (w6'.drewN nq) from below_drewN (hB5.out.next hb6.out) nq)
            have hX6 := hd (show BoxN (w6'.drewN nq) wo.heap.size [.int .i64 x.no, .int .i64 x.kind, .int .i64 x.num, .string x.data] from (hX5.out.below hb6.out).below (below_drewN (Below.refl _ _) nq))
            generalize w6'.drewN nq = w6 at *
            clear hb6 hX5 hB5
            have q0 := hX6.out.1 0 _ rfl; have q1 := hX6.out.1 1 _ rfl; have q2 := hX6.out.1 2 _ rfl; have q3 := hX6.out.1 3 _ rfl
            go_upto_region 12 with (fail)
            go_upto_region 13 with (at_builtin; refine wpList_appOwn rfl (.tmp 39) (.tmp 41) 81 rfl w6.heap.size 141 i0 _ 4 40 Try.underlying81 Hi.out Hz0.out Hz1.out Hz2.out rfl (by decide) _ [] [DField.enc x] rfl (by exact Own.nil) _ 1 1 rfl rfl (one_row rfl) (cells_new _ _ _) (DField.enc_one [x]) (by simp) (by decide) (by first | omega | exact Nat.le_refl _ | (simp; done) | (simp; omega)) ?_; intro v7 w7 ho7 hga hva; have hb7 := hd (show Below w6.heap.size w6 w7 from (below_a1 w6).next (grownBy_below hga)); clear hga hva; obtain ⟨g7, c7, hs7, hg71, hg72⟩ := ho7.addr (by simp); simp only [List.length_append, List.length_singleton, List.length_nil, Nat.zero_add] at hs7; subst hs7; have hc7 := own_capF ho7; replace ho7 := hd ho7)
            go_wp2_with fail
            go_roundw
            case rel => exact ⟨1, by omega, rfl, by rw [hsn.out]; exact ho7.out.weaken hB6.out.size, hgn, hd (fun h => by omega), hB6.out.next hb7.out⟩
            case measure => simp [intOf]; omega
        · obtain ⟨g, c, rfl, hg1, hg2⟩ := hO5.out.addr (by intro e; have := congrArg List.length e; simp at this; have h2 := hSl.out; rw [this] at h2; simp at h2; omega)
          simp only [List.length_map] at *
          have hcap := own_capF hO5.out
          replace hgn := hd (hgn.out hp.out)
          have hk0 : 0 < k := by omega
          have hSk : S.length ≤ 1048576 := by have := hSl.out; omega
          clear hnil
          go_wp2_with fail
          go_loopw [7] (fun t wr2 => ∃ j : Nat, t = .int .i64 j ∧ j ≤ S.length ∧ Hd (∀ i (h : i < S.length), i < j → S[i].no ≤ x.no) ∧ Hd (Below w5.heap.size w5 wr2)) (fun t _ => S.length - (intOf t).toNat)
          case atStart => exact ⟨0, rfl, Nat.zero_le _, fun i h h2 => absurd h2 (by omega), Below.refl _ _⟩
          case round =>
            obtain ⟨j, rfl, hj, hup, hb6⟩ := hrel
            obtain ⟨w6', rfl⟩ : ∃ z : World, z = wr := ⟨_, rfl⟩
            have hOj := hd (hO5.out.below hb6.out)
            have hXj := hd (hX5.out.below hb6.out)
            have q0 := hXj.out.1 0 _ rfl
            by_cases hjl : j < S.length
            · have hjI : (j : Int) < (S.length : Int) := by omega
              have hc0 := (hOj.out.cell (i := j) (j := 0) (u := .int .i64 S[j].no) (by rw [List.getElem?_map, List.getElem?_eq_getElem hjl]; rfl) rfl).1
              rw [Nat.add_zero] at hc0
              have hnx := hd (fun (h : S[j].no ≤ x.no) => (show ∀ i (h : i < S.length), i < j + 1 → S[i].no ≤ x.no from fun i hi h2 => by
                by_cases e : i = j
                · subst e; exact h
                · exact hup.out i hi (by omega)))
              have hst := hd (fun (h : ¬ S[j].no ≤ x.no) => insS_at hj hup.out (fun _ => h))
              generalize S[j].no = sj at *
              by_cases hle : sj ≤ x.no
              · replace hnx := hd (hnx.out hle)
                clear hst hup
                go_wp2_with fail
                go_quiet (fail)
                have hb7 := hd (show Below w5.heap.size w5 (w6'.drewN nq) from below_drewN hb6.out nq)
                go_wp2_with fail
                go_roundw
                case rel => exact ⟨j + 1, by go_num, by omega, hnx, hb7⟩
                case measure => simp [intOf]; omega
              · replace hst := hd (hst.out hle)
                have hle2 : x.no < sj := by omega
                clear hnx hup
                go_wp2_with fail
                go_quiet (fail)
                have hB6 := hd (show Below w.heap.size w (w6'.drewN nq) from below_drewN (hB5.out.next hb6.out) nq)
                have hX6 := hd (hXj.out.below (below_drewN (Below.refl _ w6') nq))
                have hO6 := hd (hOj.out.below (below_drewN (Below.refl _ w6') nq))
                generalize w6'.drewN nq = w6 at *
                clear hb6 hX5 hB5 hO5 hXj hOj q0
                try clear hc0
                have q0 := hX6.out.1 0 _ rfl; have q1 := hX6.out.1 1 _ rfl; have q2 := hX6.out.1 2 _ rfl; have q3 := hX6.out.1 3 _ rfl
                have hg6 : g < w6.heap.size := (hO6.out.lt g rfl).2
                have hC6 := hd (hO6.out.cells0 hg6)
                have hrun1 := head_runF g S.length c j hj hcap
                obtain ⟨ad, had, hrun2⟩ := tail_runF g S.length c j hj hcap
                have hrows2 := hd (show ∀ (wz : World), Below w6.heap.size w6 wz → ∀ p u, ((S.drop j).map DField.enc).flatten[p]? = some u → wz.cell? (ad.add p) = some u from fun wz hz p u hu => by
                  by_cases h : j < S.length
                  · rw [had h]
                    have := ((hC6.out.suf j).mono hz).flat (DField.enc_len _) p u hu
                    rwa [Nat.zero_add] at this
                  · rw [List.drop_of_length_le (by omega)] at hu
                    simp at hu)
                have hrows1 := hd ((hC6.out.pre j).flat (DField.enc_len _))
                have hl1 : (S.take j).length = j := by rw [List.length_take]; omega
                have hl2 : (S.drop j).length = S.length - j := by rw [List.length_drop]
                have HL1 := hd hl1
                have HL2 := hd hl2
                clear hl1 hl2 had hC6 hri
                go_upto_region 11 with (fail)
                go_wp2_with (first
                  | (at_builtin; refine wpList_appOwn rfl (.tmp 34) (.tmp 37) 81 rfl w6.heap.size 141 i0 _ 4 40 Try.underlying81 Hi.out Hz0.out Hz1.out Hz2.out rfl (by decide) _ [] ((S.take j).map DField.enc) rfl (by exact Own.nil) ⟨g, 0, none⟩ j c (by rw [List.length_map]; exact HL1.out) rfl (DField.enc_len _) hrows1.out (DField.enc_one _) (by simp; omega) (by decide) (Nat.le_refl _) ?_; intro v7 w7 ho7 hga7 hva7; have hb7 := hd (show Below w6.heap.size w6 w7 from grownBy_below hga7); have hX7 := hd (hX6.out.below hb7.out); clear q0 q1 q2 q3; have q0 := hX7.out.1 0 _ rfl; have q1 := hX7.out.1 1 _ rfl; have q2 := hX7.out.1 2 _ rfl; have q3 := hX7.out.1 3 _ rfl; replace ho7 := hd ho7; clear hga7 hva7)
                  | (at_builtin; refine wpList_appOwn rfl (.tmp 39) (.tmp 41) 81 rfl w6.heap.size 141 i0 _ 4 40 Try.underlying81 Hi.out Hz0.out Hz1.out Hz2.out rfl (by decide) _ _ [DField.enc x] rfl (ho7.out.below (below_a1 _)) _ 1 1 rfl rfl (one_row rfl) (cells_new _ _ _) (DField.enc_one [x]) (by have := HL1.out; simp; omega) (by decide) (by have := hb7.out.size; simp; omega) ?_; intro v8 w8 ho8 hga8 hva8; have hb8 := hd ((hb7.out.next (below_a1 w7)).grown hga8 (by have := hb7.out.size; simp; omega) (fun q hq => (ho7.out.lt q hq).1)); replace ho8 := hd ho8; clear hga8 hva8)
                  | (at_builtin; refine wpList_appOwn rfl (.tmp 43) (.tmp 46) 81 rfl w6.heap.size 141 i0 _ 4 40 Try.underlying81 Hi.out Hz0.out Hz1.out Hz2.out rfl (by decide) _ _ ((S.drop j).map DField.enc) rfl ho8.out ad (S.length - j) (c - j) (by rw [List.length_map]; exact HL2.out) rfl (DField.enc_len _) (hrows2.out _ hb8.out) (DField.enc_one _) (by have := HL1.out; simp; omega) (by decide) hb8.out.size ?_; intro v9 w9 ho9 hga9 hva9; have hb9 := hd (hb8.out.grown hga9 hb8.out.size (fun q hq => (ho8.out.lt q hq).1)); replace ho9 := hd (show Own w9 w6.heap.size 141 4 v9 ((insS fnoF S x).map DField.enc) by rw [hst.out, List.map_append, List.map_append, ← List.append_assoc]; simpa using ho9); clear hga9 hva9))
                go_roundw
                case rel => exact ⟨k + 1, by omega, by go_num, by rw [hsn.out]; exact ho9.out.weaken hB6.out.size, hgn, hd (fun h => by omega), hB6.out.next hb9.out⟩
                case measure => simp [intOf]; omega
            · have hjI : ¬ (j : Int) < (S.length : Int) := by omega
              have hst := hd (insS_at hj hup.out (fun h => absurd h hjl))
              clear hup
              go_wp2_with fail
              go_quiet (fail)
              have hB6 := hd (show Below w.heap.size w (w6'.drewN nq) from below_drewN (hB5.out.next hb6.out) nq)
              have hX6 := hd (hXj.out.below (below_drewN (Below.refl _ w6') nq))
              have hO6 := hd (hOj.out.below (below_drewN (Below.refl _ w6') nq))
              generalize w6'.drewN nq = w6 at *
              clear hb6 hX5 hB5 hO5 hXj hOj q0
              try clear hc0
              have q0 := hX6.out.1 0 _ rfl; have q1 := hX6.out.1 1 _ rfl; have q2 := hX6.out.1 2 _ rfl; have q3 := hX6.out.1 3 _ rfl
              have hg6 : g < w6.heap.size := (hO6.out.lt g rfl).2
              have hC6 := hd (hO6.out.cells0 hg6)
              have hrun1 := head_runF g S.length c j hj hcap
              obtain ⟨ad, had, hrun2⟩ := tail_runF g S.length c j hj hcap
              have hrows2 := hd (show ∀ (wz : World), Below w6.heap.size w6 wz → ∀ p u, ((S.drop j).map DField.enc).flatten[p]? = some u → wz.cell? (ad.add p) = some u from fun wz hz p u hu => by
                by_cases h : j < S.length
                · rw [had h]
                  have := ((hC6.out.suf j).mono hz).flat (DField.enc_len _) p u hu
                  rwa [Nat.zero_add] at this
                · rw [List.drop_of_length_le (by omega)] at hu
                  simp at hu)
              have hrows1 := hd ((hC6.out.pre j).flat (DField.enc_len _))
              have hl1 : (S.take j).length = j := by rw [List.length_take]; omega
              have hl2 : (S.drop j).length = S.length - j := by rw [List.length_drop]
              have HL1 := hd hl1
              have HL2 := hd hl2
              clear hl1 hl2 had hC6 hri
              go_upto_region 11 with (fail)
              go_wp2_with (first
                | (at_builtin; refine wpList_appOwn rfl (.tmp 34) (.tmp 37) 81 rfl w6.heap.size 141 i0 _ 4 40 Try.underlying81 Hi.out Hz0.out Hz1.out Hz2.out rfl (by decide) _ [] ((S.take j).map DField.enc) rfl (by exact Own.nil) ⟨g, 0, none⟩ j c (by rw [List.length_map]; exact HL1.out) rfl (DField.enc_len _) hrows1.out (DField.enc_one _) (by simp; omega) (by decide) (Nat.le_refl _) ?_; intro v7 w7 ho7 hga7 hva7; have hb7 := hd (show Below w6.heap.size w6 w7 from grownBy_below hga7); have hX7 := hd (hX6.out.below hb7.out); clear q0 q1 q2 q3; have q0 := hX7.out.1 0 _ rfl; have q1 := hX7.out.1 1 _ rfl; have q2 := hX7.out.1 2 _ rfl; have q3 := hX7.out.1 3 _ rfl; replace ho7 := hd ho7; clear hga7 hva7)
                | (at_builtin; refine wpList_appOwn rfl (.tmp 39) (.tmp 41) 81 rfl w6.heap.size 141 i0 _ 4 40 Try.underlying81 Hi.out Hz0.out Hz1.out Hz2.out rfl (by decide) _ _ [DField.enc x] rfl (ho7.out.below (below_a1 _)) _ 1 1 rfl rfl (one_row rfl) (cells_new _ _ _) (DField.enc_one [x]) (by have := HL1.out; simp; omega) (by decide) (by have := hb7.out.size; simp; omega) ?_; intro v8 w8 ho8 hga8 hva8; have hb8 := hd ((hb7.out.next (below_a1 w7)).grown hga8 (by have := hb7.out.size; simp; omega) (fun q hq => (ho7.out.lt q hq).1)); replace ho8 := hd ho8; clear hga8 hva8)
                | (at_builtin; refine wpList_appOwn rfl (.tmp 43) (.tmp 46) 81 rfl w6.heap.size 141 i0 _ 4 40 Try.underlying81 Hi.out Hz0.out Hz1.out Hz2.out rfl (by decide) _ _ ((S.drop j).map DField.enc) rfl ho8.out ad (S.length - j) (c - j) (by rw [List.length_map]; exact HL2.out) rfl (DField.enc_len _) (hrows2.out _ hb8.out) (DField.enc_one _) (by have := HL1.out; simp; omega) (by decide) hb8.out.size ?_; intro v9 w9 ho9 hga9 hva9; have hb9 := hd (hb8.out.grown hga9 hb8.out.size (fun q hq => (ho8.out.lt q hq).1)); replace ho9 := hd (show Own w9 w6.heap.size 141 4 v9 ((insS fnoF S x).map DField.enc) by rw [hst.out, List.map_append, List.map_append, ← List.append_assoc]; simpa using ho9); clear hga9 hva9))
              go_roundw
              case rel => exact ⟨k + 1, by omega, by go_num, by rw [hsn.out]; exact ho9.out.weaken hB6.out.size, hgn, hd (fun h => by omega), hB6.out.next hb9.out⟩
              case measure => simp [intOf]; omega
    · obtain rfl : k = l.length := by omega
      have hltI : ¬ (l.length : Int) < (l.length : Int) := by omega
      rw [List.take_length] at hown
      by_cases h40 : l.length ≤ 40
      · have hbf := hd (show b = true by rw [← HB.out]; exact fieldsB_all h40 (fun i hi => hgood.out i hi hi))
        have hrf := hd (show r = sortS fnoF l by rw [← HR.out, hbf.out]; rfl)
        have h40I : ¬ (40 : Int) < (l.length : Int) := by omega
        clear hgood hnil
        go_wp2_with fail
        go_ret2
        exact ⟨_, _, by rw [hbf.out]; rfl, by rw [hrf.out]; exact hown.out.r, hbl.out⟩
      · have hbf := hd (show b = false by rw [← HB.out]; exact fieldsB_long h40)
        have hrf := hd (show r = [] by rw [← HR.out, hbf.out]; rfl)
        have h40I : (40 : Int) < (l.length : Int) := by omega
        clear hgood hnil h40
        go_wp2_with fail
        go_ret2
        exact ⟨_, none, by rw [hbf.out]; rfl, by rw [hrf.out]; exact OwnR.nil, hbl.out⟩
end Go.Proofs.Ytbjilpemckoioaa

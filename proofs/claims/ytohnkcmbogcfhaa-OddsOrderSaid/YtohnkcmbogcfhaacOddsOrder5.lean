/- A part of the claim OddsOrder: lemmas, printed functions with their contracts, plain laws. -/
import Derived.Test.YtohnkcmbogcfhaacOddsOrder4
set_option linter.unusedVariables false
set_option linter.unusedSimpArgs false
namespace Go.Proofs.Ytohnkcmbogcfhaa.P
open Go.Proofs.Ytohnkcmbogcfhaa.R Go.Proofs.YtohnkcmbogcfhaaH Go.RowKit Go.Proofs.YtohnkcmbogcfhaaW.PrintWords Go.Proofs.YtohnkcmbogcfhaaW.PrintLast Go.Proofs.YtohnkcmbogcfhaaW.PrintMore
def En (W : World) (B g : Nat) (A : Option Addr) (c : Nat) (l : List S71) (e : Int) : Prop :=
 W.heap[g]? = some (.cells #[.slice A l.length c, .int .i64 e] 32 (0, 0)) ∧ Kd.R k71 71 W B (fun _ => True) (.slice A l.length c) l
theorem En.below {W W' : World} {B g c : Nat} {A : Option Addr} {l : List S71} {e : Int} (h : En W B g A c l e) (hb : Below W.heap.size W W') : En W' B g A c l e := ⟨blk_below h.1 hb, Kd.R_below h.2 hb⟩
theorem R_sets {W : World} {B g : Nat} {v u u' : Value} {l : List S71} {cs : Array Value} (h : Kd.R k71 71 W B (fun _ => True) v l) (hg : W.heap[g]? = some (.cells cs 32 (0, 0))) : Kd.R k71 71 ((W.setCell ⟨g, 0, none⟩ u).setCell ⟨g, 1, none⟩ u') B (fun _ => True) v l :=
 Kd.R_mono (Kd.R_far (p := ⟨g, 1, none⟩) (Kd.R_far (p := ⟨g, 0, none⟩) (Kd.R_types h hg (by decide)) (fun _ hk => hk.2) u) (fun _ hk => hk.2) u') (fun _ _ => trivial)
theorem En.own {W : World} {B g c c' : Nat} {A A' : Option Addr} {l l' : List S71} {e e' : Int} (h : En W B g A c l e) (hR : Kd.R k71 71 W B (fun _ => True) (.slice A' l'.length c') l') : En ((W.setCell ⟨g, 0, none⟩ (.slice A' l'.length c')).setCell ⟨g, 1, none⟩ (.int .i64 e')) B g A' c' l' e' :=
 ⟨blk_put (cs := #[.slice A' l'.length c', .int .i64 e]) (blk_put h.1 0 _ rfl) 1 _ rfl, R_sets hR h.1⟩
theorem En.other {W : World} {B g c g' : Nat} {A : Option Addr} {l : List S71} {e : Int} {u u' : Value} {cs : Array Value} (h : En W B g A c l e) (hne : g ≠ g') (hg : W.heap[g']? = some (.cells cs 32 (0, 0))) : En ((W.setCell ⟨g', 0, none⟩ u).setCell ⟨g', 1, none⟩ u') B g A c l e :=
 ⟨blk_far (blk_far h.1 (p := ⟨g', 0, none⟩) hne u) (p := ⟨g', 1, none⟩) hne u', R_sets h.2 hg⟩
theorem En.drew {W : World} {B g c : Nat} {A : Option Addr} {l : List S71} {e : Int} (h : En W B g A c l e) : En W.drew B g A c l e := ⟨blk_drew h.1, Kd.R_drew h.2⟩
theorem ooLearn_calls {W : World} {B g c k : Nat} {A : Option Addr} {l l' : List S71} {e x e' : Int} (hE : En W B g A c l e) (hs : B ≤ W.heap.size) (h : ooLearn k l x = some (l', e')) :
  Calls Try.prog 26 #[.slice A l.length c, .int .i64 (wrap64 (1 + wrap64 (Int.tmod x 14))), .bool (decide (x ≥ 128))] W fun e w' => ∃ v, e = .returned v ∧ ∃ A' c', v = .agg #[.slice A' l'.length c', .int .i64 e'] ∧ Kd.R k71 71 w' B (fun _ => True) (.slice A' l'.length c') l' ∧ Below W.heap.size W w' := by
 refine (parolelaw37_learned.calls k A c l _ _ l' e' W (Kd.R_reads' hE.2).2.2 (Kd.R_reads' hE.2).2.1 h).mono ?_
 rintro e w2 ⟨v, rfl, hR, hd⟩
 obtain ⟨A', c', rfl⟩ := Kd.R_slice hR
 exact ⟨_, rfl, A', c', rfl, Kd.R_lower hR hs, hd⟩
def oo.T7 : Bool × List (List Nat × List Nat) := (true, [([], []), ([], []), ([], []), ([2], [2]), ([3], [3]), ([], []), ([], []), ([], []), ([5, 0, 0, 5, 6, 7], [0, 5]), ([6, 1, 8, 0, 1, 5, 6, 7, 8], [1, 6]), ([7, 4, 9, 0, 1, 2, 3, 4, 5, 6, 7, 8, 9], [4, 7])])
def oo.B7 : List Nat := [0, 0, 0, 4, 12, 0, 0, 0, 225, 483, 1023]
theorem oo.tab7 : rtab .any (opsOf Try.f5 7) = oo.T7 := by kernel_rfl
theorem oo.bits7 : waitsOk oo.T7.2 oo.B7 = true := by kernel_rfl
def oo.T13 : Bool × List (List Nat × List Nat) := (true, [([], []), ([0], [0]), ([], []), ([], []), ([2, 3], [2, 3]), ([4], [4]), ([5], [5]), ([6], [6]), ([7], [7]), ([], []), ([], []), ([9, 10], [9, 10]), ([11], [11]), ([12], [12]), ([1, 8, 13], [1, 8, 13]), ([14, 14, 0, 1, 2, 3, 4, 5, 6, 7, 8, 9, 10, 11, 12, 13, 14], [14])])
def oo.B13 : List Nat := [0, 1, 0, 0, 12, 28, 60, 124, 252, 0, 0, 1536, 3584, 7680, 16383, 32767]
theorem oo.tab13 : rtab .any (opsOf Try.f5 13) = oo.T13 := by kernel_rfl
theorem oo.bits13 : waitsOk oo.T13.2 oo.B13 = true := by kernel_rfl
def oo.T17 : Bool × List (List Nat × List Nat) := (true, [([], []), ([0], [0]), ([], []), ([], []), ([2, 3], [2, 3]), ([4], [4]), ([5], [5]), ([6], [6]), ([7], [7]), ([], []), ([], []), ([9, 10], [9, 10]), ([11], [11]), ([12], [12]), ([1, 8, 13], [1, 8, 13]), ([14, 14, 0, 1, 2, 3, 4, 5, 6, 7, 8, 9, 10, 11, 12, 13, 14], [14])])
def oo.B17 : List Nat := [0, 1, 0, 0, 12, 28, 60, 124, 252, 0, 0, 1536, 3584, 7680, 16383, 32767]
theorem oo.tab17 : rtab .any (opsOf Try.f5 17) = oo.T17 := by kernel_rfl
theorem oo.bits17 : waitsOk oo.T17.2 oo.B17 = true := by kernel_rfl
def oo.T19 : Bool × List (List Nat × List Nat) := (true, [([], []), ([0], [0]), ([], []), ([], []), ([2, 3], [2, 3]), ([4], [4]), ([5], [5]), ([6], [6]), ([7], [7]), ([], []), ([], []), ([9, 10], [9, 10]), ([11], [11]), ([12], [12]), ([1, 8, 13], [1, 8, 13]), ([14, 14, 0, 1, 2, 3, 4, 5, 6, 7, 8, 9, 10, 11, 12, 13, 14], [14])])
def oo.B19 : List Nat := [0, 1, 0, 0, 12, 28, 60, 124, 252, 0, 0, 1536, 3584, 7680, 16383, 32767]
theorem oo.tab19 : rtab .any (opsOf Try.f5 19) = oo.T19 := by kernel_rfl
theorem oo.bits19 : waitsOk oo.T19.2 oo.B19 = true := by kernel_rfl
def oo.T22 : Bool × List (List Nat × List Nat) := (true, [([], []), ([0], [0]), ([], []), ([2], [2]), ([1, 3], [1, 3]), ([4, 4], [4]), ([5], [5]), ([6, 5], [5, 6]), ([5], [5]), ([8, 5], [5, 8]), ([7, 9, 5, 5], [5, 7, 9]), ([5], [5]), ([10, 11, 10, 5], [5, 10, 11]), ([5, 12], [5, 12]), ([13, 12], [13]), ([14], [14]), ([15, 14], [14, 15]), ([14], [14]), ([17, 14], [14, 17]), ([16, 18, 14, 14], [14, 16, 18]), ([14], [14]), ([19, 20, 19, 14], [14, 19, 20]), ([14, 21], [14, 21]), ([22, 21], [22]), ([23], [23]), ([23, 24], [23, 24]), ([25, 23, 0, 1, 2, 3, 4, 5, 6, 7, 8, 9, 10, 11, 12, 13, 14, 15, 16, 17, 18, 19, 20, 21, 22, 23, 24, 25], [25])])
def oo.B22 : List Nat := [0, 1, 0, 4, 15, 31, 63, 127, 63, 319, 1023, 63, 4095, 8191, 16383, 32767, 65535, 32767, 163839, 524287, 32767, 2097151, 4194303, 8388607, 16777215, 33554431, 67108863]
theorem oo.tab22 : rtab .any (opsOf Try.f5 22) = oo.T22 := by kernel_rfl
theorem oo.bits22 : waitsOk oo.T22.2 oo.B22 = true := by kernel_rfl
set_option maxRecDepth 100000 in
set_option maxHeartbeats 40000000 in
theorem parolelaw37_OddsOrder.calls (k : Nat) (A0 : Option Addr) (c0 : Nat) (l0 : List S96) (A1 : Option Addr) (c1 : Nat) (l1 : List Int) (a2 : Int) (r : Bool) (w : World) (hr0 : Kd.C k96 w A0 l0.length l0) (hc0 : l0.length ≤ c0) (hr1 : Kd.C (Kd.int .u8) w A1 l1.length l1) (hc1 : l1.length ≤ c1) (hT : r = true) (h : parolelaw37_OddsOrder.f k l0 l1 a2 = some r) :
  Calls Try.prog 5 #[.slice A0 l0.length c0, .slice A1 l1.length c1, .int .u8 a2] w fun e w' => e = .returned (.bool r) ∧ Below w.heap.size w w' := by
 have hu32 := Try.underlying32
 subst hT
 unfold parolelaw37_OddsOrder.f at h
 have HR0 := aM hr0
 have HR1 := aM hr1
 clear hr0 hr1
 have hB := Below.refl w.heap.size w
 by_cases hlong : l0.length > 40 ∨ l1.length > 40
 ·clear h
  by_cases h1 : l0.length > 40
  ·have q1 : decide (40 < (l0.length : Int)) = true := decide_eq_true (by omega)
   have q1' : decide (40 < l0.length) = true := decide_eq_true h1
   clear hlong h1
   go_enter Try.func5, Try.ntmps5
   go_wp2_with (go_at_call 15; refine (parolelaw37_examples.calls true _ rfl).mono ?_; rintro e w1 ⟨rfl, hd⟩; replace hB := below_step hB hd; clear hd)
   go_ret
   exact ⟨rfl, hB⟩
  ·have h2 : l1.length > 40 := hlong.resolve_left h1
   have q1 : decide (40 < (l0.length : Int)) = false := decide_eq_false (by omega)
   have q1' : decide (40 < l0.length) = false := decide_eq_false h1
   have q2 : decide (40 < (l1.length : Int)) = true := decide_eq_true (by omega)
   have q2' : decide (40 < l1.length) = true := decide_eq_true h2
   clear hlong h1 h2
   go_enter Try.func5, Try.ntmps5
   go_wp2_with (go_at_call 15; refine (parolelaw37_examples.calls true _ rfl).mono ?_; rintro e w1 ⟨rfl, hd⟩; replace hB := below_step hB hd; clear hd)
   go_ret
   exact ⟨rfl, hB⟩
 rw [if_neg hlong] at h
 obtain ⟨m, hm, h⟩ := Option.bind_eq_some_iff.mp h
 obtain ⟨⟨ra, rea, rb, reb, rc, rec_, rd', red⟩, hl, h⟩ := Option.bind_eq_some_iff.mp h
 have q1 : decide (40 < (l0.length : Int)) = false := decide_eq_false (by omega)
 have q1' : decide (40 < l0.length) = false := decide_eq_false (by omega)
 have q2 : decide (40 < (l1.length : Int)) = false := decide_eq_false (by omega)
 have q2' : decide (40 < l1.length) = false := decide_eq_false (by omega)
 have HL := aM hl
 have H := aM h
 clear hl h
 have hlen : l1.length ≤ 40 := by omega
 clear hlong
 go_enter Try.func5, Try.ntmps5
 go_wp2_with (first | (go_at_call 15; refine (parolelaw37_examples.calls true _ rfl).mono ?_; rintro e w1 ⟨rfl, hd⟩; replace hB := below_step hB hd; clear hd) | (go_at_call 16; refine (paroleref37_Made.calls k A0 c0 l0 m _ (Kd.C_below HR0.out hB) hc0 hm).mono ?_; rintro e w2 ⟨v, rfl, hR, hd⟩; replace hR := Kd.R_lower hR (below_size hB); replace hB := below_step hB hd; clear hd; obtain ⟨A8, c8, rfl⟩ := Kd.R_slice hR))
 have hmx : Try.prog.follows .mixedOrders = true := by kernel_rfl
 have hg8 : w.heap.size ≤ w2.heap.size := hB.size
 have E8 : En (w2.alloc (.cells #[.slice A8 m.length c8, .int .i64 0] 32)) w.heap.size w2.heap.size A8 c8 m 0 := ⟨blk_new _ _, Kd.R_alloc hR _⟩
 replace hB := below_drew1 (hB.alloc hg8 (.cells #[.slice A8 m.length c8, .int .i64 0] 32))
 replace E8 := E8.drew
 clear hR q1 q1' q2 q2'
 generalize w2.heap.size = g8 at hg8 E8 ⊢
 refine start_ (n := 11) (S := fun W => W.cell? ⟨g8, 0, none⟩ = some (.slice A8 m.length c8) ∧ W.cell? ⟨g8, 1, none⟩ = some (.int .i64 0)) (ds := [10]) #[false, false, false, false, false, false, false, false, false, false, false] hmx rfl rfl ⟨cE ⟨E8.1⟩ 0, cE ⟨E8.1⟩ 1⟩ (fun hHeld => ?_)
 refine with_tabW oo.tab7 oo.bits7 (fun HT_ HW_ => ?_)
 generalize (w2.alloc (.cells #[.slice A8 m.length c8, .int .i64 0] 32)).drew = W5 at hB E8 hHeld ⊢
 refine pX (i := 1) (N := some 30) rfl rfl HT_ ?_
 refine pX (i := 2) (N := some 31) rfl rfl HT_ ?_
 refine tX (i := 0) (N := some 29) rfl rfl HT_ HW_ hHeld (Or.inl ⟨by rfl, by rintro w' ⟨s0, s1⟩; go_simp; with_reducible rfl⟩) ?_
 refine tX (i := 3) (N := some 32) rfl rfl HT_ HW_ hHeld (Or.inl ⟨by rfl, by rintro w' ⟨s0, s1⟩; go_simp; with_reducible rfl⟩) ?_
 refine pX (i := 4) (N := some 33) rfl rfl HT_ ?_
 refine join_ (σ := Nat × Nat × Nat) 3 #[true, true, true, true, true, true, true, true, false, false, false] (fun s_ => [(9, .pointer (some ⟨s_.1, 0, none⟩)), (10, .pointer (some ⟨s_.2.1, 0, none⟩)), (11, .pointer (some ⟨s_.2.2, 0, none⟩))]) (fun s_ W => (W.cell? ⟨g8, 0, none⟩ = some (.slice A8 m.length c8) ∧ W.cell? ⟨g8, 1, none⟩ = some (.int .i64 0)) ∧ Below w.heap.size w W ∧ En W w.heap.size g8 A8 c8 m 0 ∧ W.heap[s_.1]? = some (.cells #[.slice none 0 0, .int .i64 0] 32 (0, 0)) ∧ W.heap[s_.2.1]? = some (.cells #[.slice none 0 0, .int .i64 0] 32 (0, 0)) ∧ W.heap[s_.2.2]? = some (.cells #[.slice none 0 0, .int .i64 0] 32 (0, 0)) ∧ g8 ≠ s_.1 ∧ g8 ≠ s_.2.1 ∧ g8 ≠ s_.2.2 ∧ s_.1 ≠ s_.2.1 ∧ s_.1 ≠ s_.2.2 ∧ s_.2.1 ≠ s_.2.2 ∧ w.heap.size ≤ s_.1 ∧ w.heap.size ≤ s_.2.1 ∧ w.heap.size ≤ s_.2.2) ?_ ?_
 rotate_left
 ·intro hCont
  refine three3 (i := 5) (j := 6) (k := 7) (Ni := some 9) (Nj := some 10) (Nk := some 11) HT_ rfl rfl rfl rfl rfl rfl (fun K hK => ?_) (fun K hK => ?_) (fun K hK => ?_)
  ·refine bS (N := 9) (cs := #[.slice none 0 0, .int .i64 0]) (t := 32) ?_
   intro g9 hg9 W9 z9 hd
   have e8_9 : g8 ≠ g9 := by have := blk_lt E8.1; omega
   have b9 : w.heap.size ≤ g9 := by have := hB.size; omega
   replace E8 := E8.below hd
   replace hB := below_step hB hd
   refine hK.out _ _ ⟨cE ⟨E8.1⟩ 0, cE ⟨E8.1⟩ 1⟩ (fun hHeld => ?_)
   clear hK K hg9 hd
   refine nX (some 9) ?_
   refine two2 (i := 6) (j := 7) (Ni := some 10) (Nj := some 11) HT_ rfl rfl rfl rfl (fun K hK => ?_) (fun K hK => ?_)
   ·refine bS (N := 10) (cs := #[.slice none 0 0, .int .i64 0]) (t := 32) ?_
    intro g10 hg10 W10 z10 hd
    have e8_10 : g8 ≠ g10 := by have := blk_lt E8.1; omega
    have b10 : w.heap.size ≤ g10 := by have := hB.size; omega
    have e9_10 : g9 ≠ g10 := by have := blk_lt z9; omega
    replace z9 := blk_below z9 hd
    replace E8 := E8.below hd
    replace hB := below_step hB hd
    refine hK.out _ _ ⟨cE ⟨E8.1⟩ 0, cE ⟨E8.1⟩ 1⟩ (fun hHeld => ?_)
    clear hK K hg10 hd
    refine nX (some 10) ?_
    refine oX (i := 7) (N := some 11) rfl rfl HT_ (fun K hK => ?_)
    refine bS (N := 11) (cs := #[.slice none 0 0, .int .i64 0]) (t := 32) ?_
    intro g11 hg11 W11 z11 hd
    have e8_11 : g8 ≠ g11 := by have := blk_lt E8.1; omega
    have b11 : w.heap.size ≤ g11 := by have := hB.size; omega
    have e9_11 : g9 ≠ g11 := by have := blk_lt z9; omega
    have e10_11 : g10 ≠ g11 := by have := blk_lt z10; omega
    replace z9 := blk_below z9 hd
    replace z10 := blk_below z10 hd
    replace E8 := E8.below hd
    replace hB := below_step hB hd
    refine hK.out _ _ ⟨cE ⟨E8.1⟩ 0, cE ⟨E8.1⟩ 1⟩ (fun hHeld => ?_)
    clear hK K hg11 hd
    refine nX (some 11) ?_
    exact nP (hCont (g9, g10, g11) _ ⟨hHeld, hB, E8, z9, z10, z11, e8_9, e8_10, e8_11, e9_10, e9_11, e10_11, b9, b10, b11⟩)
   ·refine bS (N := 11) (cs := #[.slice none 0 0, .int .i64 0]) (t := 32) ?_
    intro g11 hg11 W11 z11 hd
    have e8_11 : g8 ≠ g11 := by have := blk_lt E8.1; omega
    have b11 : w.heap.size ≤ g11 := by have := hB.size; omega
    have e9_11 : g9 ≠ g11 := by have := blk_lt z9; omega
    replace z9 := blk_below z9 hd
    replace E8 := E8.below hd
    replace hB := below_step hB hd
    refine hK.out _ _ ⟨cE ⟨E8.1⟩ 0, cE ⟨E8.1⟩ 1⟩ (fun hHeld => ?_)
    clear hK K hg11 hd
    refine nX (some 11) ?_
    refine oX (i := 6) (N := some 10) rfl rfl HT_ (fun K hK => ?_)
    refine bS (N := 10) (cs := #[.slice none 0 0, .int .i64 0]) (t := 32) ?_
    intro g10 hg10 W10 z10 hd
    have e8_10 : g8 ≠ g10 := by have := blk_lt E8.1; omega
    have b10 : w.heap.size ≤ g10 := by have := hB.size; omega
    have e9_10 : g9 ≠ g10 := by have := blk_lt z9; omega
    have e10_11 : g10 ≠ g11 := by have := blk_lt z11; omega
    replace z9 := blk_below z9 hd
    replace z11 := blk_below z11 hd
    replace E8 := E8.below hd
    replace hB := below_step hB hd
    refine hK.out _ _ ⟨cE ⟨E8.1⟩ 0, cE ⟨E8.1⟩ 1⟩ (fun hHeld => ?_)
    clear hK K hg10 hd
    refine nX (some 10) ?_
    exact nP (hCont (g9, g10, g11) _ ⟨hHeld, hB, E8, z9, z10, z11, e8_9, e8_10, e8_11, e9_10, e9_11, e10_11, b9, b10, b11⟩)
  ·refine bS (N := 10) (cs := #[.slice none 0 0, .int .i64 0]) (t := 32) ?_
   intro g10 hg10 W10 z10 hd
   have e8_10 : g8 ≠ g10 := by have := blk_lt E8.1; omega
   have b10 : w.heap.size ≤ g10 := by have := hB.size; omega
   replace E8 := E8.below hd
   replace hB := below_step hB hd
   refine hK.out _ _ ⟨cE ⟨E8.1⟩ 0, cE ⟨E8.1⟩ 1⟩ (fun hHeld => ?_)
   clear hK K hg10 hd
   refine nX (some 10) ?_
   refine two2 (i := 5) (j := 7) (Ni := some 9) (Nj := some 11) HT_ rfl rfl rfl rfl (fun K hK => ?_) (fun K hK => ?_)
   ·refine bS (N := 9) (cs := #[.slice none 0 0, .int .i64 0]) (t := 32) ?_
    intro g9 hg9 W9 z9 hd
    have e8_9 : g8 ≠ g9 := by have := blk_lt E8.1; omega
    have b9 : w.heap.size ≤ g9 := by have := hB.size; omega
    have e9_10 : g9 ≠ g10 := by have := blk_lt z10; omega
    replace z10 := blk_below z10 hd
    replace E8 := E8.below hd
    replace hB := below_step hB hd
    refine hK.out _ _ ⟨cE ⟨E8.1⟩ 0, cE ⟨E8.1⟩ 1⟩ (fun hHeld => ?_)
    clear hK K hg9 hd
    refine nX (some 9) ?_
    refine oX (i := 7) (N := some 11) rfl rfl HT_ (fun K hK => ?_)
    refine bS (N := 11) (cs := #[.slice none 0 0, .int .i64 0]) (t := 32) ?_
    intro g11 hg11 W11 z11 hd
    have e8_11 : g8 ≠ g11 := by have := blk_lt E8.1; omega
    have b11 : w.heap.size ≤ g11 := by have := hB.size; omega
    have e10_11 : g10 ≠ g11 := by have := blk_lt z10; omega
    have e9_11 : g9 ≠ g11 := by have := blk_lt z9; omega
    replace z10 := blk_below z10 hd
    replace z9 := blk_below z9 hd
    replace E8 := E8.below hd
    replace hB := below_step hB hd
    refine hK.out _ _ ⟨cE ⟨E8.1⟩ 0, cE ⟨E8.1⟩ 1⟩ (fun hHeld => ?_)
    clear hK K hg11 hd
    refine nX (some 11) ?_
    exact nP (hCont (g9, g10, g11) _ ⟨hHeld, hB, E8, z9, z10, z11, e8_9, e8_10, e8_11, e9_10, e9_11, e10_11, b9, b10, b11⟩)
   ·refine bS (N := 11) (cs := #[.slice none 0 0, .int .i64 0]) (t := 32) ?_
    intro g11 hg11 W11 z11 hd
    have e8_11 : g8 ≠ g11 := by have := blk_lt E8.1; omega
    have b11 : w.heap.size ≤ g11 := by have := hB.size; omega
    have e10_11 : g10 ≠ g11 := by have := blk_lt z10; omega
    replace z10 := blk_below z10 hd
    replace E8 := E8.below hd
    replace hB := below_step hB hd
    refine hK.out _ _ ⟨cE ⟨E8.1⟩ 0, cE ⟨E8.1⟩ 1⟩ (fun hHeld => ?_)
    clear hK K hg11 hd
    refine nX (some 11) ?_
    refine oX (i := 5) (N := some 9) rfl rfl HT_ (fun K hK => ?_)
    refine bS (N := 9) (cs := #[.slice none 0 0, .int .i64 0]) (t := 32) ?_
    intro g9 hg9 W9 z9 hd
    have e8_9 : g8 ≠ g9 := by have := blk_lt E8.1; omega
    have b9 : w.heap.size ≤ g9 := by have := hB.size; omega
    have e9_10 : g9 ≠ g10 := by have := blk_lt z10; omega
    have e9_11 : g9 ≠ g11 := by have := blk_lt z11; omega
    replace z10 := blk_below z10 hd
    replace z11 := blk_below z11 hd
    replace E8 := E8.below hd
    replace hB := below_step hB hd
    refine hK.out _ _ ⟨cE ⟨E8.1⟩ 0, cE ⟨E8.1⟩ 1⟩ (fun hHeld => ?_)
    clear hK K hg9 hd
    refine nX (some 9) ?_
    exact nP (hCont (g9, g10, g11) _ ⟨hHeld, hB, E8, z9, z10, z11, e8_9, e8_10, e8_11, e9_10, e9_11, e10_11, b9, b10, b11⟩)
  ·refine bS (N := 11) (cs := #[.slice none 0 0, .int .i64 0]) (t := 32) ?_
   intro g11 hg11 W11 z11 hd
   have e8_11 : g8 ≠ g11 := by have := blk_lt E8.1; omega
   have b11 : w.heap.size ≤ g11 := by have := hB.size; omega
   replace E8 := E8.below hd
   replace hB := below_step hB hd
   refine hK.out _ _ ⟨cE ⟨E8.1⟩ 0, cE ⟨E8.1⟩ 1⟩ (fun hHeld => ?_)
   clear hK K hg11 hd
   refine nX (some 11) ?_
   refine two2 (i := 5) (j := 6) (Ni := some 9) (Nj := some 10) HT_ rfl rfl rfl rfl (fun K hK => ?_) (fun K hK => ?_)
   ·refine bS (N := 9) (cs := #[.slice none 0 0, .int .i64 0]) (t := 32) ?_
    intro g9 hg9 W9 z9 hd
    have e8_9 : g8 ≠ g9 := by have := blk_lt E8.1; omega
    have b9 : w.heap.size ≤ g9 := by have := hB.size; omega
    have e9_11 : g9 ≠ g11 := by have := blk_lt z11; omega
    replace z11 := blk_below z11 hd
    replace E8 := E8.below hd
    replace hB := below_step hB hd
    refine hK.out _ _ ⟨cE ⟨E8.1⟩ 0, cE ⟨E8.1⟩ 1⟩ (fun hHeld => ?_)
    clear hK K hg9 hd
    refine nX (some 9) ?_
    refine oX (i := 6) (N := some 10) rfl rfl HT_ (fun K hK => ?_)
    refine bS (N := 10) (cs := #[.slice none 0 0, .int .i64 0]) (t := 32) ?_
    intro g10 hg10 W10 z10 hd
    have e8_10 : g8 ≠ g10 := by have := blk_lt E8.1; omega
    have b10 : w.heap.size ≤ g10 := by have := hB.size; omega
    have e10_11 : g10 ≠ g11 := by have := blk_lt z11; omega
    have e9_10 : g9 ≠ g10 := by have := blk_lt z9; omega
    replace z11 := blk_below z11 hd
    replace z9 := blk_below z9 hd
    replace E8 := E8.below hd
    replace hB := below_step hB hd
    refine hK.out _ _ ⟨cE ⟨E8.1⟩ 0, cE ⟨E8.1⟩ 1⟩ (fun hHeld => ?_)
    clear hK K hg10 hd
    refine nX (some 10) ?_
    exact nP (hCont (g9, g10, g11) _ ⟨hHeld, hB, E8, z9, z10, z11, e8_9, e8_10, e8_11, e9_10, e9_11, e10_11, b9, b10, b11⟩)
   ·refine bS (N := 10) (cs := #[.slice none 0 0, .int .i64 0]) (t := 32) ?_
    intro g10 hg10 W10 z10 hd
    have e8_10 : g8 ≠ g10 := by have := blk_lt E8.1; omega
    have b10 : w.heap.size ≤ g10 := by have := hB.size; omega
    have e10_11 : g10 ≠ g11 := by have := blk_lt z11; omega
    replace z11 := blk_below z11 hd
    replace E8 := E8.below hd
    replace hB := below_step hB hd
    refine hK.out _ _ ⟨cE ⟨E8.1⟩ 0, cE ⟨E8.1⟩ 1⟩ (fun hHeld => ?_)
    clear hK K hg10 hd
    refine nX (some 10) ?_
    refine oX (i := 5) (N := some 9) rfl rfl HT_ (fun K hK => ?_)
    refine bS (N := 9) (cs := #[.slice none 0 0, .int .i64 0]) (t := 32) ?_
    intro g9 hg9 W9 z9 hd
    have e8_9 : g8 ≠ g9 := by have := blk_lt E8.1; omega
    have b9 : w.heap.size ≤ g9 := by have := hB.size; omega
    have e9_11 : g9 ≠ g11 := by have := blk_lt z11; omega
    have e9_10 : g9 ≠ g10 := by have := blk_lt z10; omega
    replace z11 := blk_below z11 hd
    replace z10 := blk_below z10 hd
    replace E8 := E8.below hd
    replace hB := below_step hB hd
    refine hK.out _ _ ⟨cE ⟨E8.1⟩ 0, cE ⟨E8.1⟩ 1⟩ (fun hHeld => ?_)
    clear hK K hg9 hd
    refine nX (some 9) ?_
    exact nP (hCont (g9, g10, g11) _ ⟨hHeld, hB, E8, z9, z10, z11, e8_9, e8_10, e8_11, e9_10, e9_11, e10_11, b9, b10, b11⟩)
 clear hHeld E8 hB
 rintro ⟨g9, g10, g11⟩ W6 ⟨hHeld, hB, E8, z9, z10, z11, e8_9, e8_10, e8_11, e9_10, e9_11, e10_11, b9, b10, b11⟩
 dsimp only at z9 z10 z11 e8_9 e8_10 e8_11 e9_10 e9_11 e10_11 b9 b10 b11
 refine nQ ?_
 refine oX (i := 8) (N := none) rfl rfl HT_ (fun K hK => ?_)
 have x0 : W6.cell? ⟨g9, 0, none⟩ = some (.slice none 0 0) := (blk_cell z9 0).trans rfl
 have x1 : W6.cell? ⟨g9, 1, none⟩ = some (.int .i64 0) := (blk_cell z9 1).trans rfl
 have y0 := blk_frozen z9 0
 have y1 := blk_frozen z9 1
 refine skip_ (w1 := ?_) (by rfl) rfl ?_ ?_
 rotate_left
 ·go_simp
  rfl
 refine hK.out _ _ ⟨(cell_far (p := ⟨g9, 1, none⟩) e8_9 _).trans ((cell_far (p := ⟨g9, 0, none⟩) e8_9 _).trans hHeld.1), (cell_far (p := ⟨g9, 1, none⟩) e8_9 _).trans ((cell_far (p := ⟨g9, 0, none⟩) e8_9 _).trans hHeld.2)⟩ (fun hHeld => ?_)
 clear hK K x0 x1 y0 y1
 replace hB := (hB.setCell (p := ⟨g9, 0, none⟩) b9 (.slice A8 m.length c8)).setCell (p := ⟨g9, 1, none⟩) b9 (.int .i64 0)
 have E9 : En ((W6.setCell ⟨g9, 0, none⟩ (.slice A8 m.length c8)).setCell ⟨g9, 1, none⟩ (.int .i64 0)) w.heap.size g9 A8 c8 m 0 := ⟨blk_put (blk_put z9 0 _ rfl) 1 _ rfl, R_sets E8.2 z9⟩
 replace E8 := E8.other (u := .slice A8 m.length c8) (u' := .int .i64 0) e8_9 z9
 replace z10 := blk_far (blk_far z10 (p := ⟨g9, 0, none⟩) (Ne.symm e9_10) (.slice A8 m.length c8)) (p := ⟨g9, 1, none⟩) (Ne.symm e9_10) (.int .i64 0)
 replace z11 := blk_far (blk_far z11 (p := ⟨g9, 0, none⟩) (Ne.symm e9_11) (.slice A8 m.length c8)) (p := ⟨g9, 1, none⟩) (Ne.symm e9_11) (.int .i64 0)
 clear z9
 generalize (W6.setCell ⟨g9, 0, none⟩ (.slice A8 m.length c8)).setCell ⟨g9, 1, none⟩ (.int .i64 0) = W7 at *
 refine oX (i := 9) (N := none) rfl rfl HT_ (fun K hK => ?_)
 have x0 : W7.cell? ⟨g10, 0, none⟩ = some (.slice none 0 0) := (blk_cell z10 0).trans rfl
 have x1 : W7.cell? ⟨g10, 1, none⟩ = some (.int .i64 0) := (blk_cell z10 1).trans rfl
 have y0 := blk_frozen z10 0
 have y1 := blk_frozen z10 1
 refine skip_ (w1 := ?_) (by rfl) rfl ?_ ?_
 rotate_left
 ·go_simp
  rfl
 refine hK.out _ _ ⟨(cell_far (p := ⟨g10, 1, none⟩) e8_10 _).trans ((cell_far (p := ⟨g10, 0, none⟩) e8_10 _).trans hHeld.1), (cell_far (p := ⟨g10, 1, none⟩) e8_10 _).trans ((cell_far (p := ⟨g10, 0, none⟩) e8_10 _).trans hHeld.2)⟩ (fun hHeld => ?_)
 clear hK K x0 x1 y0 y1
 replace hB := (hB.setCell (p := ⟨g10, 0, none⟩) b10 (.slice none 0 0)).setCell (p := ⟨g10, 1, none⟩) b10 (.int .i64 0)
 have E10 : En ((W7.setCell ⟨g10, 0, none⟩ (.slice none 0 0)).setCell ⟨g10, 1, none⟩ (.int .i64 0)) w.heap.size g10 none 0 [] 0 := ⟨blk_put (blk_put z10 0 _ rfl) 1 _ rfl, Kd.R_nil _ _ _ _ _⟩
 replace E8 := E8.other (u := .slice none 0 0) (u' := .int .i64 0) e8_10 z10
 replace E9 := E9.other (u := .slice none 0 0) (u' := .int .i64 0) e9_10 z10
 replace z11 := blk_far (blk_far z11 (p := ⟨g10, 0, none⟩) (Ne.symm e10_11) (.slice none 0 0)) (p := ⟨g10, 1, none⟩) (Ne.symm e10_11) (.int .i64 0)
 clear z10
 generalize (W7.setCell ⟨g10, 0, none⟩ (.slice none 0 0)).setCell ⟨g10, 1, none⟩ (.int .i64 0) = W8 at *
 refine last_ (i := 10) (N := none) #[true, true, true, true, true, true, true, true, true, true, true] rfl rfl (one_of HT_.out (by kernel_rfl)) (by decide) (fun K hK => ?_)
 have x0 : W8.cell? ⟨g11, 0, none⟩ = some (.slice none 0 0) := (blk_cell z11 0).trans rfl
 have x1 : W8.cell? ⟨g11, 1, none⟩ = some (.int .i64 0) := (blk_cell z11 1).trans rfl
 have y0 := blk_frozen z11 0
 have y1 := blk_frozen z11 1
 refine skip_ (w1 := ?_) (by rfl) rfl ?_ ?_
 rotate_left
 ·go_simp
  rfl
 refine hK.out _ _ ?_
 clear hK K x0 x1 y0 y1
 replace hB := (hB.setCell (p := ⟨g11, 0, none⟩) b11 (.slice A8 m.length c8)).setCell (p := ⟨g11, 1, none⟩) b11 (.int .i64 0)
 have E11 : En ((W8.setCell ⟨g11, 0, none⟩ (.slice A8 m.length c8)).setCell ⟨g11, 1, none⟩ (.int .i64 0)) w.heap.size g11 A8 c8 m 0 := ⟨blk_put (blk_put z11 0 _ rfl) 1 _ rfl, R_sets E8.2 z11⟩
 replace E8 := E8.other (u := .slice A8 m.length c8) (u' := .int .i64 0) e8_11 z11
 replace E9 := E9.other (u := .slice A8 m.length c8) (u' := .int .i64 0) e9_11 z11
 replace E10 := E10.other (u := .slice A8 m.length c8) (u' := .int .i64 0) e10_11 z11
 clear z11
 generalize (W8.setCell ⟨g11, 0, none⟩ (.slice A8 m.length c8)).setCell ⟨g11, 1, none⟩ (.int .i64 0) = W9 at *
 refine done_ (done_of HT_.out (by kernel_rfl)) ?_
 clear hHeld HT_ HW_ hm
 have b8 := hg8
 clear hg8
 have f8_9 := e8_9.symm
 have f8_10 := e8_10.symm
 have f8_11 := e8_11.symm
 have f9_10 := e9_10.symm
 have f9_11 := e9_11.symm
 have f10_11 := e10_11.symm
 have HE8 := aM E8
 have HE9 := aM E9
 have HE10 := aM E10
 have HE11 := aM E11
 have HB := aM hB
 clear E8 E9 E10 E11 hB
 go_wp2
 go_loopg [12] (l1.length + 1) (fun kq v12 w' => ∃ (i : Int) (Aa : Option Addr) (ca : Nat) (la : List S71) (ea : Int) (Ab : Option Addr) (cb : Nat) (lb : List S71) (eb : Int) (Ac : Option Addr) (cc : Nat) (lc : List S71) (ec : Int) (Ad : Option Addr) (cd : Nat) (ld : List S71) (ed : Int), v12 = .int .i64 i ∧ Aside0 (ooL k l1 a2 kq i la ea lb eb lc ec ld ed = some (ra, rea, rb, reb, rc, rec_, rd', red)) ∧ Aside0 (0 ≤ i ∧ i ≤ (l1.length : Int)) ∧ Aside0 (En w' w.heap.size g8 Aa ca la ea) ∧ Aside0 (En w' w.heap.size g9 Ab cb lb eb) ∧ Aside0 (En w' w.heap.size g10 Ac cc lc ec) ∧ Aside0 (En w' w.heap.size g11 Ad cd ld ed) ∧ Aside0 (Below w.heap.size w w'))
 case atStart => exact ⟨0, _, _, _, _, _, _, _, _, _, _, _, _, _, _, _, _, rfl, HL, ⟨by omega⟩, HE8, HE9, HE10, HE11, HB⟩
 clear HL HE8 HE9 HE10 HE11 HB
 case round =>
  obtain ⟨i, Aa, ca, la, ea, Ab, cb, lb, eb, Ac, cc, lc, ec, Ad, cd, ld, ed, rfl, HA, hi, HE8, HE9, HE10, HE11, HB⟩ := hrel
  cases gk with
  | zero => exact absurd HA.out (by simp [ooL])
  | succ k1 =>
   have H1 := HA.out
   clear HA
   rw [ooL] at H1
   obtain ⟨hi0, hil⟩ := hi.out
   clear hi
   by_cases hlt : i < (l1.length : Int)
   ·rw [if_pos hlt] at H1
    obtain ⟨⟨la', ea'⟩, ha, H1⟩ := Option.bind_eq_some_iff.mp H1
    obtain ⟨⟨lb', eb'⟩, hb, H1⟩ := Option.bind_eq_some_iff.mp H1
    obtain ⟨⟨lc', ec'⟩, hc, H1⟩ := Option.bind_eq_some_iff.mp H1
    obtain ⟨⟨ld', ed'⟩, hd, H1⟩ := Option.bind_eq_some_iff.mp H1
    have HN := aM H1
    clear H1
    have c1b : decide (i < (l1.length : Int)) = true := decide_eq_true hlt
    have hj : wrap64 (wrap64 ((l1.length : Int) - 1) - i) = (l1.length : Int) - 1 - i := by
     have h0 : wrap64 ((l1.length : Int) - 1) = (l1.length : Int) - 1 := wrap64_of (by omega) (by omega)
     rw [h0]; exact wrap64_of (by omega) (by omega)
    dsimp only at ha hb hc hd HN
    have p1 : 0 ≤ (l1.length : Int) - 1 - i := by omega
    have p2 : (l1.length : Int) - 1 - i < (l1.length : Int) := by omega
    obtain ⟨ad, e1, hx1⟩ := Kd.at_int (Kd.C_below HR1.out HB.out) i hi0 hlt
    cases e1
    obtain ⟨ad2, e2, hx2⟩ := Kd.at_int (Kd.C_below HR1.out HB.out) _ p1 p2
    cases e2
    have q0 := eq_true hi0
    have q1 := eq_true hlt
    have q2 := eq_true p1
    have q3 := eq_true p2
    clear hj
    skip
    by_cases ha0 : ea = 0
    ·have xa1 : wr.cell? ⟨g8, 1, none⟩ = some (.int .i64 ea) := cE ⟨HE8.out.1⟩ 1
     have ha1 : (ea == 0) = true := beq_iff_eq.mpr ha0
     rw [ooA, if_pos ha0] at ha
     go_wp2
     clear xa1 hx1 hx2
     replace HE8 := aM (HE8.out.drew)
     replace HE9 := aM (HE9.out.drew)
     replace HE10 := aM (HE10.out.drew)
     replace HE11 := aM (HE11.out.drew)
     replace HB := aM (below_drew1 HB.out)
     have x0 : wr.drew.cell? ⟨g8, 0, none⟩ = some (.slice Aa la.length ca) := cE ⟨HE8.out.1⟩ 0
     obtain ⟨ad_, e_, hx1⟩ := Kd.at_int (Kd.C_below HR1.out HB.out) i hi0 hlt
     cases e_
     refine start_ (n := 16) (S := fun W => W.cell? ⟨g8, 0, none⟩ = some (.slice Aa la.length ca) ∧ W.cell? (ad.add i.toNat) = some (.int .u8 (rd l1 i))) (ds := [15]) #[false, false, false, false, false, false, false, false, false, false, false, false, false, false, false, false] hmx rfl rfl ⟨x0, hx1⟩ (fun hHeld => ?_)
     clear x0 hx1
     refine with_tabW oo.tab13 oo.bits13 (fun HT_ HW_ => ?_)
     generalize hW_ : wr.drew = Wq1 at HE8 HE9 HE10 HE11 HB hHeld ⊢
     clear hW_
     refine pX (i := 0) (N := some 51) rfl rfl HT_ ?_
     refine tX (i := 1) (N := some 52) rfl rfl HT_ HW_ hHeld (Or.inl ⟨by rfl, by rintro w' ⟨s0, s1⟩; go_simp; with_reducible rfl⟩) ?_
     refine pX (i := 2) (N := some 53) rfl rfl HT_ ?_
     refine pX (i := 3) (N := some 54) rfl rfl HT_ ?_
     refine pX (i := 4) (N := some 55) rfl rfl HT_ ?_
     refine tX (i := 5) (N := some 56) rfl rfl HT_ HW_ hHeld (Or.inl ⟨by rfl, by rintro w' ⟨s0, s1⟩; go_simp; with_reducible rfl⟩) ?_
     refine pX (i := 6) (N := some 57) rfl rfl HT_ ?_
     refine pX (i := 7) (N := some 58) rfl rfl HT_ ?_
     refine pX (i := 8) (N := some 59) rfl rfl HT_ ?_
     refine pX (i := 9) (N := some 60) rfl rfl HT_ ?_
     refine pX (i := 10) (N := some 61) rfl rfl HT_ ?_
     refine pX (i := 11) (N := some 62) rfl rfl HT_ ?_
     refine tX (i := 12) (N := some 63) rfl rfl HT_ HW_ hHeld (Or.inl ⟨by rfl, by rintro w' ⟨s0, s1⟩; go_simp; with_reducible rfl⟩) ?_
     refine pX (i := 13) (N := some 64) rfl rfl HT_ ?_
     refine oX (i := 14) (N := some 65) rfl rfl HT_ (fun K hK => ?_)
     refine gS Try.func26 #[.slice Aa la.length ca, .int .i64 (wrap64 (1 + wrap64 (Int.tmod (rd l1 i) 14))), .bool (decide (rd l1 i ≥ 128))] ?_
     refine (ooLearn_calls HE8.out (below_size HB.out) ha).mono ?_
     rintro e Wr1 ⟨v, rfl, Aq1, cq1, rfl, hR, hdd⟩
     refine ⟨_, rfl, ?_⟩
     replace HE8 := aM (HE8.out.below hdd)
     replace HE9 := aM (HE9.out.below hdd)
     replace HE10 := aM (HE10.out.below hdd)
     replace HE11 := aM (HE11.out.below hdd)
     replace HB := aM (below_step HB.out hdd)
     clear hdd
     obtain ⟨ad_, e_, hx1⟩ := Kd.at_int (Kd.C_below HR1.out HB.out) i hi0 hlt
     cases e_
     refine hK.out _ _ ⟨cE ⟨HE8.out.1⟩ 0, hx1⟩ (fun hHeld => ?_)
     clear hK K hx1
     refine nX (some 65) ?_
     have x0 : Wr1.cell? ⟨g8, 0, none⟩ = some (.slice Aa la.length ca) := hHeld.1
     have x1 : Wr1.cell? ⟨g8, 1, none⟩ = some (.int .i64 ea) := cE ⟨HE8.out.1⟩ 1
     have y0 := blk_frozen HE8.out.1 0
     have y1 := blk_frozen HE8.out.1 1
     refine last_ (i := 15) (N := none) #[true, true, true, true, true, true, true, true, true, true, true, true, true, true, true, true] rfl rfl (one_of HT_.out (by kernel_rfl)) (by decide) (fun K hK => ?_)
     refine skip_ (w1 := ?_) (by rfl) rfl ?_ ?_
     rotate_left
     ·go_simp
      rfl
     refine hK.out _ _ ?_
     clear hK K x0 x1 y0 y1 hHeld
     refine done_ (done_of HT_.out (by kernel_rfl)) ?_
     clear HT_ HW_
     have Na := aM (HE8.out.own (e' := ea') hR)
     have Nb := aM (HE9.out.other (u := .slice Aq1 la'.length cq1) (u' := .int .i64 ea') (Ne.symm e8_9) HE8.out.1)
     have Nc := aM (HE10.out.other (u := .slice Aq1 la'.length cq1) (u' := .int .i64 ea') (Ne.symm e8_10) HE8.out.1)
     have Nd := aM (HE11.out.other (u := .slice Aq1 la'.length cq1) (u' := .int .i64 ea') (Ne.symm e8_11) HE8.out.1)
     replace HB := aM ((HB.out.setCell (p := ⟨g8, 0, none⟩) b8 (.slice Aq1 la'.length cq1)).setCell (p := ⟨g8, 1, none⟩) b8 (.int .i64 ea'))
     clear hR
     clear HE8
     have HE8 := Na
     clear Na
     clear HE9
     have HE9 := Nb
     clear Nb
     clear HE10
     have HE10 := Nc
     clear Nc
     clear HE11
     have HE11 := Nd
     clear Nd
     generalize hW_ : (Wr1.setCell ⟨g8, 0, none⟩ (.slice Aq1 la'.length cq1)).setCell ⟨g8, 1, none⟩ (.int .i64 ea') = Ws1 at HE8 HE9 HE10 HE11 HB ⊢
     clear hW_
     by_cases hb0 : eb = 0
     ·have hb1 : (eb == 0) = true := beq_iff_eq.mpr hb0
      replace hb : ooLearn k lb (rd l1 ((l1.length : Int) - 1 - i)) = some (lb', eb') := by simpa [ooA, hb0] using hb
      by_cases c16 : i < wrap64 a2
      ·have c16b : decide (i < wrap64 a2) = true := decide_eq_true c16
       obtain ⟨rfl, rfl⟩ : ld = ld' ∧ ed = ed' := by simpa [ooD, c16] using hd
       replace hc : ooLearn k lc (rd l1 i) = some (lc', ec') := by simpa [ooC, c16] using hc
       have xa1 : Ws1.cell? ⟨g8, 1, none⟩ = some (.int .i64 ea') := cE ⟨HE8.out.1⟩ 1
       have xb1 : Ws1.cell? ⟨g9, 1, none⟩ = some (.int .i64 eb) := cE ⟨HE9.out.1⟩ 1
       have xd1 : Ws1.cell? ⟨g11, 1, none⟩ = some (.int .i64 ed) := cE ⟨HE11.out.1⟩ 1
       have xb0 : Ws1.cell? ⟨g9, 0, none⟩ = some (.slice Ab lb.length cb) := cE ⟨HE9.out.1⟩ 0
       go_wp2_with (go_at_call 26; refine (ooLearn_calls HE9.out (below_size HB.out) hb).mono ?_; rintro e Wr2 ⟨v, rfl, Aq2, cq2, rfl, hR, hdd⟩; replace HE8 := aM (HE8.out.below hdd); replace HE9 := aM (HE9.out.below hdd); replace HE10 := aM (HE10.out.below hdd); replace HE11 := aM (HE11.out.below hdd); replace HB := aM (below_step HB.out hdd); clear hdd; have za1 : Wr2.cell? ⟨g8, 1, none⟩ = some (.int .i64 ea') := cE ⟨HE8.out.1⟩ 1; have zb1 : Wr2.cell? ⟨g9, 1, none⟩ = some (.int .i64 eb) := cE ⟨HE9.out.1⟩ 1; have zd1 : Wr2.cell? ⟨g11, 1, none⟩ = some (.int .i64 ed) := cE ⟨HE11.out.1⟩ 1; have zb0 : Wr2.cell? ⟨g9, 0, none⟩ = some (.slice Ab lb.length cb) := cE ⟨HE9.out.1⟩ 0; have y0 := blk_frozen HE9.out.1 0; have y1 := blk_frozen HE9.out.1 1)
       clear xa1 xb1 xd1 xb0 za1 zb1 zd1 zb0 y0 y1
       have Nb := aM (HE9.out.own (e' := eb') hR)
       have Na := aM (HE8.out.other (u := .slice Aq2 lb'.length cq2) (u' := .int .i64 eb') e8_9 HE9.out.1)
       have Nc := aM (HE10.out.other (u := .slice Aq2 lb'.length cq2) (u' := .int .i64 eb') (Ne.symm e9_10) HE9.out.1)
       have Nd := aM (HE11.out.other (u := .slice Aq2 lb'.length cq2) (u' := .int .i64 eb') (Ne.symm e9_11) HE9.out.1)
       replace HB := aM ((HB.out.setCell (p := ⟨g9, 0, none⟩) b9 (.slice Aq2 lb'.length cq2)).setCell (p := ⟨g9, 1, none⟩) b9 (.int .i64 eb'))
       clear hR
       clear HE8
       have HE8 := Na
       clear Na
       clear HE9
       have HE9 := Nb
       clear Nb
       clear HE10
       have HE10 := Nc
       clear Nc
       clear HE11
       have HE11 := Nd
       clear Nd
       generalize hW_ : (Wr2.setCell ⟨g9, 0, none⟩ (.slice Aq2 lb'.length cq2)).setCell ⟨g9, 1, none⟩ (.int .i64 eb') = Ws2 at HE8 HE9 HE10 HE11 HB ⊢
       clear hW_
       replace HE8 := aM (HE8.out.drew)
       replace HE9 := aM (HE9.out.drew)
       replace HE10 := aM (HE10.out.drew)
       replace HE11 := aM (HE11.out.drew)
       replace HB := aM (below_drew1 HB.out)
       have x0 : Ws2.drew.cell? ⟨g10, 0, none⟩ = some (.slice Ac lc.length cc) := cE ⟨HE10.out.1⟩ 0
       obtain ⟨ad_, e_, hx1⟩ := Kd.at_int (Kd.C_below HR1.out HB.out) i hi0 hlt
       cases e_
       refine start_ (n := 16) (S := fun W => W.cell? ⟨g10, 0, none⟩ = some (.slice Ac lc.length cc) ∧ W.cell? (ad.add i.toNat) = some (.int .u8 (rd l1 i))) (ds := [15]) #[false, false, false, false, false, false, false, false, false, false, false, false, false, false, false, false] hmx rfl rfl ⟨x0, hx1⟩ (fun hHeld => ?_)
       clear x0 hx1
       refine with_tabW oo.tab17 oo.bits17 (fun HT_ HW_ => ?_)
       generalize hW_ : Ws2.drew = Wq3 at HE8 HE9 HE10 HE11 HB hHeld ⊢
       clear hW_
       refine pX (i := 0) (N := some 82) rfl rfl HT_ ?_
       refine tX (i := 1) (N := some 83) rfl rfl HT_ HW_ hHeld (Or.inl ⟨by rfl, by rintro w' ⟨s0, s1⟩; go_simp; with_reducible rfl⟩) ?_
       refine pX (i := 2) (N := some 84) rfl rfl HT_ ?_
       refine pX (i := 3) (N := some 85) rfl rfl HT_ ?_
       refine pX (i := 4) (N := some 86) rfl rfl HT_ ?_
       refine tX (i := 5) (N := some 87) rfl rfl HT_ HW_ hHeld (Or.inl ⟨by rfl, by rintro w' ⟨s0, s1⟩; go_simp; with_reducible rfl⟩) ?_
       refine pX (i := 6) (N := some 88) rfl rfl HT_ ?_
       refine pX (i := 7) (N := some 89) rfl rfl HT_ ?_
       refine pX (i := 8) (N := some 90) rfl rfl HT_ ?_
       refine pX (i := 9) (N := some 91) rfl rfl HT_ ?_
       refine pX (i := 10) (N := some 92) rfl rfl HT_ ?_
       refine pX (i := 11) (N := some 93) rfl rfl HT_ ?_
       refine tX (i := 12) (N := some 94) rfl rfl HT_ HW_ hHeld (Or.inl ⟨by rfl, by rintro w' ⟨s0, s1⟩; go_simp; with_reducible rfl⟩) ?_
       refine pX (i := 13) (N := some 95) rfl rfl HT_ ?_
       refine oX (i := 14) (N := some 96) rfl rfl HT_ (fun K hK => ?_)
       refine gS Try.func26 #[.slice Ac lc.length cc, .int .i64 (wrap64 (1 + wrap64 (Int.tmod (rd l1 i) 14))), .bool (decide (rd l1 i ≥ 128))] ?_
       refine (ooLearn_calls HE10.out (below_size HB.out) hc).mono ?_
       rintro e Wr3 ⟨v, rfl, Aq3, cq3, rfl, hR, hdd⟩
       refine ⟨_, rfl, ?_⟩
       replace HE8 := aM (HE8.out.below hdd)
       replace HE9 := aM (HE9.out.below hdd)
       replace HE10 := aM (HE10.out.below hdd)
       replace HE11 := aM (HE11.out.below hdd)
       replace HB := aM (below_step HB.out hdd)
       clear hdd
       obtain ⟨ad_, e_, hx1⟩ := Kd.at_int (Kd.C_below HR1.out HB.out) i hi0 hlt
       cases e_
       refine hK.out _ _ ⟨cE ⟨HE10.out.1⟩ 0, hx1⟩ (fun hHeld => ?_)
       clear hK K hx1
       refine nX (some 96) ?_
       have x0 : Wr3.cell? ⟨g10, 0, none⟩ = some (.slice Ac lc.length cc) := hHeld.1
       have x1 : Wr3.cell? ⟨g10, 1, none⟩ = some (.int .i64 ec) := cE ⟨HE10.out.1⟩ 1
       have y0 := blk_frozen HE10.out.1 0
       have y1 := blk_frozen HE10.out.1 1
       refine last_ (i := 15) (N := none) #[true, true, true, true, true, true, true, true, true, true, true, true, true, true, true, true] rfl rfl (one_of HT_.out (by kernel_rfl)) (by decide) (fun K hK => ?_)
       refine skip_ (w1 := ?_) (by rfl) rfl ?_ ?_
       rotate_left
       ·go_simp
        rfl
       refine hK.out _ _ ?_
       clear hK K x0 x1 y0 y1 hHeld
       refine done_ (done_of HT_.out (by kernel_rfl)) ?_
       clear HT_ HW_
       have Nc := aM (HE10.out.own (e' := ec') hR)
       have Na := aM (HE8.out.other (u := .slice Aq3 lc'.length cq3) (u' := .int .i64 ec') e8_10 HE10.out.1)
       have Nb := aM (HE9.out.other (u := .slice Aq3 lc'.length cq3) (u' := .int .i64 ec') e9_10 HE10.out.1)
       have Nd := aM (HE11.out.other (u := .slice Aq3 lc'.length cq3) (u' := .int .i64 ec') (Ne.symm e10_11) HE10.out.1)
       replace HB := aM ((HB.out.setCell (p := ⟨g10, 0, none⟩) b10 (.slice Aq3 lc'.length cq3)).setCell (p := ⟨g10, 1, none⟩) b10 (.int .i64 ec'))
       clear hR
       clear HE8
       have HE8 := Na
       clear Na
       clear HE9
       have HE9 := Nb
       clear Nb
       clear HE10
       have HE10 := Nc
       clear Nc
       clear HE11
       have HE11 := Nd
       clear Nd
       generalize hW_ : (Wr3.setCell ⟨g10, 0, none⟩ (.slice Aq3 lc'.length cq3)).setCell ⟨g10, 1, none⟩ (.int .i64 ec') = Ws3 at HE8 HE9 HE10 HE11 HB ⊢
       clear hW_
       go_wp2
       go_roundg k1
       case measure => omega
       case rel => exact ⟨_, _, _, _, _, _, _, _, _, _, _, _, _, _, _, _, _, (by first | rfl | (simp; done) | (simp [*]; done)), HN, ⟨by omega⟩, HE8, HE9, HE10, HE11, HB⟩
      ·by_cases hd0 : ed = 0
       ·have c16b : decide (i < wrap64 a2) = false := decide_eq_false c16
        obtain ⟨rfl, rfl⟩ : lc = lc' ∧ ec = ec' := by simpa [ooC, c16] using hc
        have hd1 : (ed == 0) = true := beq_iff_eq.mpr hd0
        replace hd : ooLearn k ld (rd l1 i) = some (ld', ed') := by simpa [ooD, ooA, c16, hd0] using hd
        have xa1 : Ws1.cell? ⟨g8, 1, none⟩ = some (.int .i64 ea') := cE ⟨HE8.out.1⟩ 1
        have xb1 : Ws1.cell? ⟨g9, 1, none⟩ = some (.int .i64 eb) := cE ⟨HE9.out.1⟩ 1
        have xd1 : Ws1.cell? ⟨g11, 1, none⟩ = some (.int .i64 ed) := cE ⟨HE11.out.1⟩ 1
        have xb0 : Ws1.cell? ⟨g9, 0, none⟩ = some (.slice Ab lb.length cb) := cE ⟨HE9.out.1⟩ 0
        go_wp2_with (go_at_call 26; refine (ooLearn_calls HE9.out (below_size HB.out) hb).mono ?_; rintro e Wr4 ⟨v, rfl, Aq4, cq4, rfl, hR, hdd⟩; replace HE8 := aM (HE8.out.below hdd); replace HE9 := aM (HE9.out.below hdd); replace HE10 := aM (HE10.out.below hdd); replace HE11 := aM (HE11.out.below hdd); replace HB := aM (below_step HB.out hdd); clear hdd; have za1 : Wr4.cell? ⟨g8, 1, none⟩ = some (.int .i64 ea') := cE ⟨HE8.out.1⟩ 1; have zb1 : Wr4.cell? ⟨g9, 1, none⟩ = some (.int .i64 eb) := cE ⟨HE9.out.1⟩ 1; have zd1 : Wr4.cell? ⟨g11, 1, none⟩ = some (.int .i64 ed) := cE ⟨HE11.out.1⟩ 1; have zb0 : Wr4.cell? ⟨g9, 0, none⟩ = some (.slice Ab lb.length cb) := cE ⟨HE9.out.1⟩ 0; have y0 := blk_frozen HE9.out.1 0; have y1 := blk_frozen HE9.out.1 1)
        clear xa1 xb1 xd1 xb0 za1 zb1 zd1 zb0 y0 y1
        have Nb := aM (HE9.out.own (e' := eb') hR)
        have Na := aM (HE8.out.other (u := .slice Aq4 lb'.length cq4) (u' := .int .i64 eb') e8_9 HE9.out.1)
        have Nc := aM (HE10.out.other (u := .slice Aq4 lb'.length cq4) (u' := .int .i64 eb') (Ne.symm e9_10) HE9.out.1)
        have Nd := aM (HE11.out.other (u := .slice Aq4 lb'.length cq4) (u' := .int .i64 eb') (Ne.symm e9_11) HE9.out.1)
        replace HB := aM ((HB.out.setCell (p := ⟨g9, 0, none⟩) b9 (.slice Aq4 lb'.length cq4)).setCell (p := ⟨g9, 1, none⟩) b9 (.int .i64 eb'))
        clear hR
        clear HE8
        have HE8 := Na
        clear Na
        clear HE9
        have HE9 := Nb
        clear Nb
        clear HE10
        have HE10 := Nc
        clear Nc
        clear HE11
        have HE11 := Nd
        clear Nd
        generalize hW_ : (Wr4.setCell ⟨g9, 0, none⟩ (.slice Aq4 lb'.length cq4)).setCell ⟨g9, 1, none⟩ (.int .i64 eb') = Ws4 at HE8 HE9 HE10 HE11 HB ⊢
        clear hW_
        replace HE8 := aM (HE8.out.drew)
        replace HE9 := aM (HE9.out.drew)
        replace HE10 := aM (HE10.out.drew)
        replace HE11 := aM (HE11.out.drew)
        replace HB := aM (below_drew1 HB.out)
        have x0 : Ws4.drew.cell? ⟨g11, 0, none⟩ = some (.slice Ad ld.length cd) := cE ⟨HE11.out.1⟩ 0
        obtain ⟨ad_, e_, hx1⟩ := Kd.at_int (Kd.C_below HR1.out HB.out) i hi0 hlt
        cases e_
        refine start_ (n := 16) (S := fun W => W.cell? ⟨g11, 0, none⟩ = some (.slice Ad ld.length cd) ∧ W.cell? (ad.add i.toNat) = some (.int .u8 (rd l1 i))) (ds := [15]) #[false, false, false, false, false, false, false, false, false, false, false, false, false, false, false, false] hmx rfl rfl ⟨x0, hx1⟩ (fun hHeld => ?_)
        clear x0 hx1
        refine with_tabW oo.tab19 oo.bits19 (fun HT_ HW_ => ?_)
        generalize hW_ : Ws4.drew = Wq5 at HE8 HE9 HE10 HE11 HB hHeld ⊢
        clear hW_
        refine pX (i := 0) (N := some 100) rfl rfl HT_ ?_
        refine tX (i := 1) (N := some 101) rfl rfl HT_ HW_ hHeld (Or.inl ⟨by rfl, by rintro w' ⟨s0, s1⟩; go_simp; with_reducible rfl⟩) ?_
        refine pX (i := 2) (N := some 102) rfl rfl HT_ ?_
        refine pX (i := 3) (N := some 103) rfl rfl HT_ ?_
        refine pX (i := 4) (N := some 104) rfl rfl HT_ ?_
        refine tX (i := 5) (N := some 105) rfl rfl HT_ HW_ hHeld (Or.inl ⟨by rfl, by rintro w' ⟨s0, s1⟩; go_simp; with_reducible rfl⟩) ?_
        refine pX (i := 6) (N := some 106) rfl rfl HT_ ?_
        refine pX (i := 7) (N := some 107) rfl rfl HT_ ?_
        refine pX (i := 8) (N := some 108) rfl rfl HT_ ?_
        refine pX (i := 9) (N := some 109) rfl rfl HT_ ?_
        refine pX (i := 10) (N := some 110) rfl rfl HT_ ?_
        refine pX (i := 11) (N := some 111) rfl rfl HT_ ?_
        refine tX (i := 12) (N := some 112) rfl rfl HT_ HW_ hHeld (Or.inl ⟨by rfl, by rintro w' ⟨s0, s1⟩; go_simp; with_reducible rfl⟩) ?_
        refine pX (i := 13) (N := some 113) rfl rfl HT_ ?_
        refine oX (i := 14) (N := some 114) rfl rfl HT_ (fun K hK => ?_)
        refine gS Try.func26 #[.slice Ad ld.length cd, .int .i64 (wrap64 (1 + wrap64 (Int.tmod (rd l1 i) 14))), .bool (decide (rd l1 i ≥ 128))] ?_
        refine (ooLearn_calls HE11.out (below_size HB.out) hd).mono ?_
        rintro e Wr5 ⟨v, rfl, Aq5, cq5, rfl, hR, hdd⟩
        refine ⟨_, rfl, ?_⟩
        replace HE8 := aM (HE8.out.below hdd)
        replace HE9 := aM (HE9.out.below hdd)
        replace HE10 := aM (HE10.out.below hdd)
        replace HE11 := aM (HE11.out.below hdd)
        replace HB := aM (below_step HB.out hdd)
        clear hdd
        obtain ⟨ad_, e_, hx1⟩ := Kd.at_int (Kd.C_below HR1.out HB.out) i hi0 hlt
        cases e_
        refine hK.out _ _ ⟨cE ⟨HE11.out.1⟩ 0, hx1⟩ (fun hHeld => ?_)
        clear hK K hx1
        refine nX (some 114) ?_
        have x0 : Wr5.cell? ⟨g11, 0, none⟩ = some (.slice Ad ld.length cd) := hHeld.1
        have x1 : Wr5.cell? ⟨g11, 1, none⟩ = some (.int .i64 ed) := cE ⟨HE11.out.1⟩ 1
        have y0 := blk_frozen HE11.out.1 0
        have y1 := blk_frozen HE11.out.1 1
        refine last_ (i := 15) (N := none) #[true, true, true, true, true, true, true, true, true, true, true, true, true, true, true, true] rfl rfl (one_of HT_.out (by kernel_rfl)) (by decide) (fun K hK => ?_)
        refine skip_ (w1 := ?_) (by rfl) rfl ?_ ?_
        rotate_left
        ·go_simp
         rfl
        refine hK.out _ _ ?_
        clear hK K x0 x1 y0 y1 hHeld
        refine done_ (done_of HT_.out (by kernel_rfl)) ?_
        clear HT_ HW_
        have Nd := aM (HE11.out.own (e' := ed') hR)
        have Na := aM (HE8.out.other (u := .slice Aq5 ld'.length cq5) (u' := .int .i64 ed') e8_11 HE11.out.1)
        have Nb := aM (HE9.out.other (u := .slice Aq5 ld'.length cq5) (u' := .int .i64 ed') e9_11 HE11.out.1)
        have Nc := aM (HE10.out.other (u := .slice Aq5 ld'.length cq5) (u' := .int .i64 ed') e10_11 HE11.out.1)
        replace HB := aM ((HB.out.setCell (p := ⟨g11, 0, none⟩) b11 (.slice Aq5 ld'.length cq5)).setCell (p := ⟨g11, 1, none⟩) b11 (.int .i64 ed'))
        clear hR
        clear HE8
        have HE8 := Na
        clear Na
        clear HE9
        have HE9 := Nb
        clear Nb
        clear HE10
        have HE10 := Nc
        clear Nc
        clear HE11
        have HE11 := Nd
        clear Nd
        generalize hW_ : (Wr5.setCell ⟨g11, 0, none⟩ (.slice Aq5 ld'.length cq5)).setCell ⟨g11, 1, none⟩ (.int .i64 ed') = Ws5 at HE8 HE9 HE10 HE11 HB ⊢
        clear hW_
        go_wp2
        go_roundg k1
        case measure => omega
        case rel => exact ⟨_, _, _, _, _, _, _, _, _, _, _, _, _, _, _, _, _, (by first | rfl | (simp; done) | (simp [*]; done)), HN, ⟨by omega⟩, HE8, HE9, HE10, HE11, HB⟩
       ·have c16b : decide (i < wrap64 a2) = false := decide_eq_false c16
        obtain ⟨rfl, rfl⟩ : lc = lc' ∧ ec = ec' := by simpa [ooC, c16] using hc
        have hd1 : (ed == 0) = false := beq_eq_false_iff_ne.mpr hd0
        obtain ⟨rfl, rfl⟩ : ld = ld' ∧ ed = ed' := by simpa [ooD, ooA, c16, hd0] using hd
        have xa1 : Ws1.cell? ⟨g8, 1, none⟩ = some (.int .i64 ea') := cE ⟨HE8.out.1⟩ 1
        have xb1 : Ws1.cell? ⟨g9, 1, none⟩ = some (.int .i64 eb) := cE ⟨HE9.out.1⟩ 1
        have xd1 : Ws1.cell? ⟨g11, 1, none⟩ = some (.int .i64 ed) := cE ⟨HE11.out.1⟩ 1
        have xb0 : Ws1.cell? ⟨g9, 0, none⟩ = some (.slice Ab lb.length cb) := cE ⟨HE9.out.1⟩ 0
        go_wp2_with (go_at_call 26; refine (ooLearn_calls HE9.out (below_size HB.out) hb).mono ?_; rintro e Wr6 ⟨v, rfl, Aq6, cq6, rfl, hR, hdd⟩; replace HE8 := aM (HE8.out.below hdd); replace HE9 := aM (HE9.out.below hdd); replace HE10 := aM (HE10.out.below hdd); replace HE11 := aM (HE11.out.below hdd); replace HB := aM (below_step HB.out hdd); clear hdd; have za1 : Wr6.cell? ⟨g8, 1, none⟩ = some (.int .i64 ea') := cE ⟨HE8.out.1⟩ 1; have zb1 : Wr6.cell? ⟨g9, 1, none⟩ = some (.int .i64 eb) := cE ⟨HE9.out.1⟩ 1; have zd1 : Wr6.cell? ⟨g11, 1, none⟩ = some (.int .i64 ed) := cE ⟨HE11.out.1⟩ 1; have zb0 : Wr6.cell? ⟨g9, 0, none⟩ = some (.slice Ab lb.length cb) := cE ⟨HE9.out.1⟩ 0; have y0 := blk_frozen HE9.out.1 0; have y1 := blk_frozen HE9.out.1 1)
        clear xa1 xb1 xd1 xb0 za1 zb1 zd1 zb0 y0 y1
        have Nb := aM (HE9.out.own (e' := eb') hR)
        have Na := aM (HE8.out.other (u := .slice Aq6 lb'.length cq6) (u' := .int .i64 eb') e8_9 HE9.out.1)
        have Nc := aM (HE10.out.other (u := .slice Aq6 lb'.length cq6) (u' := .int .i64 eb') (Ne.symm e9_10) HE9.out.1)
        have Nd := aM (HE11.out.other (u := .slice Aq6 lb'.length cq6) (u' := .int .i64 eb') (Ne.symm e9_11) HE9.out.1)
        replace HB := aM ((HB.out.setCell (p := ⟨g9, 0, none⟩) b9 (.slice Aq6 lb'.length cq6)).setCell (p := ⟨g9, 1, none⟩) b9 (.int .i64 eb'))
        clear hR
        clear HE8
        have HE8 := Na
        clear Na
        clear HE9
        have HE9 := Nb
        clear Nb
        clear HE10
        have HE10 := Nc
        clear Nc
        clear HE11
        have HE11 := Nd
        clear Nd
        generalize hW_ : (Wr6.setCell ⟨g9, 0, none⟩ (.slice Aq6 lb'.length cq6)).setCell ⟨g9, 1, none⟩ (.int .i64 eb') = Ws6 at HE8 HE9 HE10 HE11 HB ⊢
        clear hW_
        go_roundg k1
        case measure => omega
        case rel => exact ⟨_, _, _, _, _, _, _, _, _, _, _, _, _, _, _, _, _, (by first | rfl | (simp; done) | (simp [*]; done)), HN, ⟨by omega⟩, HE8, HE9, HE10, HE11, HB⟩
     ·have hb1 : (eb == 0) = false := beq_eq_false_iff_ne.mpr hb0
      obtain ⟨rfl, rfl⟩ : lb = lb' ∧ eb = eb' := by simpa [ooA, hb0] using hb
      by_cases c16 : i < wrap64 a2
      ·have c16b : decide (i < wrap64 a2) = true := decide_eq_true c16
       obtain ⟨rfl, rfl⟩ : ld = ld' ∧ ed = ed' := by simpa [ooD, c16] using hd
       replace hc : ooLearn k lc (rd l1 i) = some (lc', ec') := by simpa [ooC, c16] using hc
       have xa1 : Ws1.cell? ⟨g8, 1, none⟩ = some (.int .i64 ea') := cE ⟨HE8.out.1⟩ 1
       have xb1 : Ws1.cell? ⟨g9, 1, none⟩ = some (.int .i64 eb) := cE ⟨HE9.out.1⟩ 1
       have xd1 : Ws1.cell? ⟨g11, 1, none⟩ = some (.int .i64 ed) := cE ⟨HE11.out.1⟩ 1
       go_wp2
       clear xa1 xb1 xd1
       replace HE8 := aM (HE8.out.drew)
       replace HE9 := aM (HE9.out.drew)
       replace HE10 := aM (HE10.out.drew)
       replace HE11 := aM (HE11.out.drew)
       replace HB := aM (below_drew1 HB.out)
       have x0 : Ws1.drew.cell? ⟨g10, 0, none⟩ = some (.slice Ac lc.length cc) := cE ⟨HE10.out.1⟩ 0
       obtain ⟨ad_, e_, hx1⟩ := Kd.at_int (Kd.C_below HR1.out HB.out) i hi0 hlt
       cases e_
       refine start_ (n := 16) (S := fun W => W.cell? ⟨g10, 0, none⟩ = some (.slice Ac lc.length cc) ∧ W.cell? (ad.add i.toNat) = some (.int .u8 (rd l1 i))) (ds := [15]) #[false, false, false, false, false, false, false, false, false, false, false, false, false, false, false, false] hmx rfl rfl ⟨x0, hx1⟩ (fun hHeld => ?_)
       clear x0 hx1
       refine with_tabW oo.tab17 oo.bits17 (fun HT_ HW_ => ?_)
       generalize hW_ : Ws1.drew = Wq7 at HE8 HE9 HE10 HE11 HB hHeld ⊢
       clear hW_
       refine pX (i := 0) (N := some 82) rfl rfl HT_ ?_
       refine tX (i := 1) (N := some 83) rfl rfl HT_ HW_ hHeld (Or.inl ⟨by rfl, by rintro w' ⟨s0, s1⟩; go_simp; with_reducible rfl⟩) ?_
       refine pX (i := 2) (N := some 84) rfl rfl HT_ ?_
       refine pX (i := 3) (N := some 85) rfl rfl HT_ ?_
       refine pX (i := 4) (N := some 86) rfl rfl HT_ ?_
       refine tX (i := 5) (N := some 87) rfl rfl HT_ HW_ hHeld (Or.inl ⟨by rfl, by rintro w' ⟨s0, s1⟩; go_simp; with_reducible rfl⟩) ?_
       refine pX (i := 6) (N := some 88) rfl rfl HT_ ?_
       refine pX (i := 7) (N := some 89) rfl rfl HT_ ?_
       refine pX (i := 8) (N := some 90) rfl rfl HT_ ?_
       refine pX (i := 9) (N := some 91) rfl rfl HT_ ?_
       refine pX (i := 10) (N := some 92) rfl rfl HT_ ?_
       refine pX (i := 11) (N := some 93) rfl rfl HT_ ?_
       refine tX (i := 12) (N := some 94) rfl rfl HT_ HW_ hHeld (Or.inl ⟨by rfl, by rintro w' ⟨s0, s1⟩; go_simp; with_reducible rfl⟩) ?_
       refine pX (i := 13) (N := some 95) rfl rfl HT_ ?_
       refine oX (i := 14) (N := some 96) rfl rfl HT_ (fun K hK => ?_)
       refine gS Try.func26 #[.slice Ac lc.length cc, .int .i64 (wrap64 (1 + wrap64 (Int.tmod (rd l1 i) 14))), .bool (decide (rd l1 i ≥ 128))] ?_
       refine (ooLearn_calls HE10.out (below_size HB.out) hc).mono ?_
       rintro e Wr7 ⟨v, rfl, Aq7, cq7, rfl, hR, hdd⟩
       refine ⟨_, rfl, ?_⟩
       replace HE8 := aM (HE8.out.below hdd)
       replace HE9 := aM (HE9.out.below hdd)
       replace HE10 := aM (HE10.out.below hdd)
       replace HE11 := aM (HE11.out.below hdd)
       replace HB := aM (below_step HB.out hdd)
       clear hdd
       obtain ⟨ad_, e_, hx1⟩ := Kd.at_int (Kd.C_below HR1.out HB.out) i hi0 hlt
       cases e_
       refine hK.out _ _ ⟨cE ⟨HE10.out.1⟩ 0, hx1⟩ (fun hHeld => ?_)
       clear hK K hx1
       refine nX (some 96) ?_
       have x0 : Wr7.cell? ⟨g10, 0, none⟩ = some (.slice Ac lc.length cc) := hHeld.1
       have x1 : Wr7.cell? ⟨g10, 1, none⟩ = some (.int .i64 ec) := cE ⟨HE10.out.1⟩ 1
       have y0 := blk_frozen HE10.out.1 0
       have y1 := blk_frozen HE10.out.1 1
       refine last_ (i := 15) (N := none) #[true, true, true, true, true, true, true, true, true, true, true, true, true, true, true, true] rfl rfl (one_of HT_.out (by kernel_rfl)) (by decide) (fun K hK => ?_)
       refine skip_ (w1 := ?_) (by rfl) rfl ?_ ?_
       rotate_left
       ·go_simp
        rfl
       refine hK.out _ _ ?_
       clear hK K x0 x1 y0 y1 hHeld
       refine done_ (done_of HT_.out (by kernel_rfl)) ?_
       clear HT_ HW_
       have Nc := aM (HE10.out.own (e' := ec') hR)
       have Na := aM (HE8.out.other (u := .slice Aq7 lc'.length cq7) (u' := .int .i64 ec') e8_10 HE10.out.1)
       have Nb := aM (HE9.out.other (u := .slice Aq7 lc'.length cq7) (u' := .int .i64 ec') e9_10 HE10.out.1)
       have Nd := aM (HE11.out.other (u := .slice Aq7 lc'.length cq7) (u' := .int .i64 ec') (Ne.symm e10_11) HE10.out.1)
       replace HB := aM ((HB.out.setCell (p := ⟨g10, 0, none⟩) b10 (.slice Aq7 lc'.length cq7)).setCell (p := ⟨g10, 1, none⟩) b10 (.int .i64 ec'))
       clear hR
       clear HE8
       have HE8 := Na
       clear Na
       clear HE9
       have HE9 := Nb
       clear Nb
       clear HE10
       have HE10 := Nc
       clear Nc
       clear HE11
       have HE11 := Nd
       clear Nd
       generalize hW_ : (Wr7.setCell ⟨g10, 0, none⟩ (.slice Aq7 lc'.length cq7)).setCell ⟨g10, 1, none⟩ (.int .i64 ec') = Ws7 at HE8 HE9 HE10 HE11 HB ⊢
       clear hW_
       go_wp2
       go_roundg k1
       case measure => omega
       case rel => exact ⟨_, _, _, _, _, _, _, _, _, _, _, _, _, _, _, _, _, (by first | rfl | (simp; done) | (simp [*]; done)), HN, ⟨by omega⟩, HE8, HE9, HE10, HE11, HB⟩
      ·by_cases hd0 : ed = 0
       ·have c16b : decide (i < wrap64 a2) = false := decide_eq_false c16
        obtain ⟨rfl, rfl⟩ : lc = lc' ∧ ec = ec' := by simpa [ooC, c16] using hc
        have hd1 : (ed == 0) = true := beq_iff_eq.mpr hd0
        replace hd : ooLearn k ld (rd l1 i) = some (ld', ed') := by simpa [ooD, ooA, c16, hd0] using hd
        have xa1 : Ws1.cell? ⟨g8, 1, none⟩ = some (.int .i64 ea') := cE ⟨HE8.out.1⟩ 1
        have xb1 : Ws1.cell? ⟨g9, 1, none⟩ = some (.int .i64 eb) := cE ⟨HE9.out.1⟩ 1
        have xd1 : Ws1.cell? ⟨g11, 1, none⟩ = some (.int .i64 ed) := cE ⟨HE11.out.1⟩ 1
        go_wp2
        clear xa1 xb1 xd1
        replace HE8 := aM (HE8.out.drew)
        replace HE9 := aM (HE9.out.drew)
        replace HE10 := aM (HE10.out.drew)
        replace HE11 := aM (HE11.out.drew)
        replace HB := aM (below_drew1 HB.out)
        have x0 : Ws1.drew.cell? ⟨g11, 0, none⟩ = some (.slice Ad ld.length cd) := cE ⟨HE11.out.1⟩ 0
        obtain ⟨ad_, e_, hx1⟩ := Kd.at_int (Kd.C_below HR1.out HB.out) i hi0 hlt
        cases e_
        refine start_ (n := 16) (S := fun W => W.cell? ⟨g11, 0, none⟩ = some (.slice Ad ld.length cd) ∧ W.cell? (ad.add i.toNat) = some (.int .u8 (rd l1 i))) (ds := [15]) #[false, false, false, false, false, false, false, false, false, false, false, false, false, false, false, false] hmx rfl rfl ⟨x0, hx1⟩ (fun hHeld => ?_)
        clear x0 hx1
        refine with_tabW oo.tab19 oo.bits19 (fun HT_ HW_ => ?_)
        generalize hW_ : Ws1.drew = Wq8 at HE8 HE9 HE10 HE11 HB hHeld ⊢
        clear hW_
        refine pX (i := 0) (N := some 100) rfl rfl HT_ ?_
        refine tX (i := 1) (N := some 101) rfl rfl HT_ HW_ hHeld (Or.inl ⟨by rfl, by rintro w' ⟨s0, s1⟩; go_simp; with_reducible rfl⟩) ?_
        refine pX (i := 2) (N := some 102) rfl rfl HT_ ?_
        refine pX (i := 3) (N := some 103) rfl rfl HT_ ?_
        refine pX (i := 4) (N := some 104) rfl rfl HT_ ?_
        refine tX (i := 5) (N := some 105) rfl rfl HT_ HW_ hHeld (Or.inl ⟨by rfl, by rintro w' ⟨s0, s1⟩; go_simp; with_reducible rfl⟩) ?_
        refine pX (i := 6) (N := some 106) rfl rfl HT_ ?_
        refine pX (i := 7) (N := some 107) rfl rfl HT_ ?_
        refine pX (i := 8) (N := some 108) rfl rfl HT_ ?_
        refine pX (i := 9) (N := some 109) rfl rfl HT_ ?_
        refine pX (i := 10) (N := some 110) rfl rfl HT_ ?_
        refine pX (i := 11) (N := some 111) rfl rfl HT_ ?_
        refine tX (i := 12) (N := some 112) rfl rfl HT_ HW_ hHeld (Or.inl ⟨by rfl, by rintro w' ⟨s0, s1⟩; go_simp; with_reducible rfl⟩) ?_
        refine pX (i := 13) (N := some 113) rfl rfl HT_ ?_
        refine oX (i := 14) (N := some 114) rfl rfl HT_ (fun K hK => ?_)
        refine gS Try.func26 #[.slice Ad ld.length cd, .int .i64 (wrap64 (1 + wrap64 (Int.tmod (rd l1 i) 14))), .bool (decide (rd l1 i ≥ 128))] ?_
        refine (ooLearn_calls HE11.out (below_size HB.out) hd).mono ?_
        rintro e Wr8 ⟨v, rfl, Aq8, cq8, rfl, hR, hdd⟩
        refine ⟨_, rfl, ?_⟩
        replace HE8 := aM (HE8.out.below hdd)
        replace HE9 := aM (HE9.out.below hdd)
        replace HE10 := aM (HE10.out.below hdd)
        replace HE11 := aM (HE11.out.below hdd)
        replace HB := aM (below_step HB.out hdd)
        clear hdd
        obtain ⟨ad_, e_, hx1⟩ := Kd.at_int (Kd.C_below HR1.out HB.out) i hi0 hlt
        cases e_
        refine hK.out _ _ ⟨cE ⟨HE11.out.1⟩ 0, hx1⟩ (fun hHeld => ?_)
        clear hK K hx1
        refine nX (some 114) ?_
        have x0 : Wr8.cell? ⟨g11, 0, none⟩ = some (.slice Ad ld.length cd) := hHeld.1
        have x1 : Wr8.cell? ⟨g11, 1, none⟩ = some (.int .i64 ed) := cE ⟨HE11.out.1⟩ 1
        have y0 := blk_frozen HE11.out.1 0
        have y1 := blk_frozen HE11.out.1 1
        refine last_ (i := 15) (N := none) #[true, true, true, true, true, true, true, true, true, true, true, true, true, true, true, true] rfl rfl (one_of HT_.out (by kernel_rfl)) (by decide) (fun K hK => ?_)
        refine skip_ (w1 := ?_) (by rfl) rfl ?_ ?_
        rotate_left
        ·go_simp
         rfl
        refine hK.out _ _ ?_
        clear hK K x0 x1 y0 y1 hHeld
        refine done_ (done_of HT_.out (by kernel_rfl)) ?_
        clear HT_ HW_
        have Nd := aM (HE11.out.own (e' := ed') hR)
        have Na := aM (HE8.out.other (u := .slice Aq8 ld'.length cq8) (u' := .int .i64 ed') e8_11 HE11.out.1)
        have Nb := aM (HE9.out.other (u := .slice Aq8 ld'.length cq8) (u' := .int .i64 ed') e9_11 HE11.out.1)
        have Nc := aM (HE10.out.other (u := .slice Aq8 ld'.length cq8) (u' := .int .i64 ed') e10_11 HE11.out.1)
        replace HB := aM ((HB.out.setCell (p := ⟨g11, 0, none⟩) b11 (.slice Aq8 ld'.length cq8)).setCell (p := ⟨g11, 1, none⟩) b11 (.int .i64 ed'))
        clear hR
        clear HE8
        have HE8 := Na
        clear Na
        clear HE9
        have HE9 := Nb
        clear Nb
        clear HE10
        have HE10 := Nc
        clear Nc
        clear HE11
        have HE11 := Nd
        clear Nd
        generalize hW_ : (Wr8.setCell ⟨g11, 0, none⟩ (.slice Aq8 ld'.length cq8)).setCell ⟨g11, 1, none⟩ (.int .i64 ed') = Ws8 at HE8 HE9 HE10 HE11 HB ⊢
        clear hW_
        go_wp2
        go_roundg k1
        case measure => omega
        case rel => exact ⟨_, _, _, _, _, _, _, _, _, _, _, _, _, _, _, _, _, (by first | rfl | (simp; done) | (simp [*]; done)), HN, ⟨by omega⟩, HE8, HE9, HE10, HE11, HB⟩
       ·have c16b : decide (i < wrap64 a2) = false := decide_eq_false c16
        obtain ⟨rfl, rfl⟩ : lc = lc' ∧ ec = ec' := by simpa [ooC, c16] using hc
        have hd1 : (ed == 0) = false := beq_eq_false_iff_ne.mpr hd0
        obtain ⟨rfl, rfl⟩ : ld = ld' ∧ ed = ed' := by simpa [ooD, ooA, c16, hd0] using hd
        have xa1 : Ws1.cell? ⟨g8, 1, none⟩ = some (.int .i64 ea') := cE ⟨HE8.out.1⟩ 1
        have xb1 : Ws1.cell? ⟨g9, 1, none⟩ = some (.int .i64 eb) := cE ⟨HE9.out.1⟩ 1
        have xd1 : Ws1.cell? ⟨g11, 1, none⟩ = some (.int .i64 ed) := cE ⟨HE11.out.1⟩ 1
        go_wp2
        clear xa1 xb1 xd1
        go_roundg k1
        case measure => omega
        case rel => exact ⟨_, _, _, _, _, _, _, _, _, _, _, _, _, _, _, _, _, (by first | rfl | (simp; done) | (simp [*]; done)), HN, ⟨by omega⟩, HE8, HE9, HE10, HE11, HB⟩
    ·have ha1 : (ea == 0) = false := beq_eq_false_iff_ne.mpr ha0
     obtain ⟨rfl, rfl⟩ : la = la' ∧ ea = ea' := by simpa [ooA, ha0] using ha
     by_cases hb0 : eb = 0
     ·have hb1 : (eb == 0) = true := beq_iff_eq.mpr hb0
      replace hb : ooLearn k lb (rd l1 ((l1.length : Int) - 1 - i)) = some (lb', eb') := by simpa [ooA, hb0] using hb
      by_cases c16 : i < wrap64 a2
      ·have c16b : decide (i < wrap64 a2) = true := decide_eq_true c16
       obtain ⟨rfl, rfl⟩ : ld = ld' ∧ ed = ed' := by simpa [ooD, c16] using hd
       replace hc : ooLearn k lc (rd l1 i) = some (lc', ec') := by simpa [ooC, c16] using hc
       have xa1 : wr.cell? ⟨g8, 1, none⟩ = some (.int .i64 ea) := cE ⟨HE8.out.1⟩ 1
       have xb1 : wr.cell? ⟨g9, 1, none⟩ = some (.int .i64 eb) := cE ⟨HE9.out.1⟩ 1
       have xd1 : wr.cell? ⟨g11, 1, none⟩ = some (.int .i64 ed) := cE ⟨HE11.out.1⟩ 1
       have xb0 : wr.cell? ⟨g9, 0, none⟩ = some (.slice Ab lb.length cb) := cE ⟨HE9.out.1⟩ 0
       go_wp2_with (go_at_call 26; refine (ooLearn_calls HE9.out (below_size HB.out) hb).mono ?_; rintro e Wr9 ⟨v, rfl, Aq9, cq9, rfl, hR, hdd⟩; replace HE8 := aM (HE8.out.below hdd); replace HE9 := aM (HE9.out.below hdd); replace HE10 := aM (HE10.out.below hdd); replace HE11 := aM (HE11.out.below hdd); replace HB := aM (below_step HB.out hdd); clear hdd; have za1 : Wr9.cell? ⟨g8, 1, none⟩ = some (.int .i64 ea) := cE ⟨HE8.out.1⟩ 1; have zb1 : Wr9.cell? ⟨g9, 1, none⟩ = some (.int .i64 eb) := cE ⟨HE9.out.1⟩ 1; have zd1 : Wr9.cell? ⟨g11, 1, none⟩ = some (.int .i64 ed) := cE ⟨HE11.out.1⟩ 1; have zb0 : Wr9.cell? ⟨g9, 0, none⟩ = some (.slice Ab lb.length cb) := cE ⟨HE9.out.1⟩ 0; have y0 := blk_frozen HE9.out.1 0; have y1 := blk_frozen HE9.out.1 1)
       clear xa1 xb1 xd1 xb0 za1 zb1 zd1 zb0 y0 y1
       have Nb := aM (HE9.out.own (e' := eb') hR)
       have Na := aM (HE8.out.other (u := .slice Aq9 lb'.length cq9) (u' := .int .i64 eb') e8_9 HE9.out.1)
       have Nc := aM (HE10.out.other (u := .slice Aq9 lb'.length cq9) (u' := .int .i64 eb') (Ne.symm e9_10) HE9.out.1)
       have Nd := aM (HE11.out.other (u := .slice Aq9 lb'.length cq9) (u' := .int .i64 eb') (Ne.symm e9_11) HE9.out.1)
       replace HB := aM ((HB.out.setCell (p := ⟨g9, 0, none⟩) b9 (.slice Aq9 lb'.length cq9)).setCell (p := ⟨g9, 1, none⟩) b9 (.int .i64 eb'))
       clear hR
       clear HE8
       have HE8 := Na
       clear Na
       clear HE9
       have HE9 := Nb
       clear Nb
       clear HE10
       have HE10 := Nc
       clear Nc
       clear HE11
       have HE11 := Nd
       clear Nd
       generalize hW_ : (Wr9.setCell ⟨g9, 0, none⟩ (.slice Aq9 lb'.length cq9)).setCell ⟨g9, 1, none⟩ (.int .i64 eb') = Ws9 at HE8 HE9 HE10 HE11 HB ⊢
       clear hW_
       replace HE8 := aM (HE8.out.drew)
       replace HE9 := aM (HE9.out.drew)
       replace HE10 := aM (HE10.out.drew)
       replace HE11 := aM (HE11.out.drew)
       replace HB := aM (below_drew1 HB.out)
       have x0 : Ws9.drew.cell? ⟨g10, 0, none⟩ = some (.slice Ac lc.length cc) := cE ⟨HE10.out.1⟩ 0
       obtain ⟨ad_, e_, hx1⟩ := Kd.at_int (Kd.C_below HR1.out HB.out) i hi0 hlt
       cases e_
       refine start_ (n := 16) (S := fun W => W.cell? ⟨g10, 0, none⟩ = some (.slice Ac lc.length cc) ∧ W.cell? (ad.add i.toNat) = some (.int .u8 (rd l1 i))) (ds := [15]) #[false, false, false, false, false, false, false, false, false, false, false, false, false, false, false, false] hmx rfl rfl ⟨x0, hx1⟩ (fun hHeld => ?_)
       clear x0 hx1
       refine with_tabW oo.tab17 oo.bits17 (fun HT_ HW_ => ?_)
       generalize hW_ : Ws9.drew = Wq10 at HE8 HE9 HE10 HE11 HB hHeld ⊢
       clear hW_
       refine pX (i := 0) (N := some 82) rfl rfl HT_ ?_
       refine tX (i := 1) (N := some 83) rfl rfl HT_ HW_ hHeld (Or.inl ⟨by rfl, by rintro w' ⟨s0, s1⟩; go_simp; with_reducible rfl⟩) ?_
       refine pX (i := 2) (N := some 84) rfl rfl HT_ ?_
       refine pX (i := 3) (N := some 85) rfl rfl HT_ ?_
       refine pX (i := 4) (N := some 86) rfl rfl HT_ ?_
       refine tX (i := 5) (N := some 87) rfl rfl HT_ HW_ hHeld (Or.inl ⟨by rfl, by rintro w' ⟨s0, s1⟩; go_simp; with_reducible rfl⟩) ?_
       refine pX (i := 6) (N := some 88) rfl rfl HT_ ?_
       refine pX (i := 7) (N := some 89) rfl rfl HT_ ?_
       refine pX (i := 8) (N := some 90) rfl rfl HT_ ?_
       refine pX (i := 9) (N := some 91) rfl rfl HT_ ?_
       refine pX (i := 10) (N := some 92) rfl rfl HT_ ?_
       refine pX (i := 11) (N := some 93) rfl rfl HT_ ?_
       refine tX (i := 12) (N := some 94) rfl rfl HT_ HW_ hHeld (Or.inl ⟨by rfl, by rintro w' ⟨s0, s1⟩; go_simp; with_reducible rfl⟩) ?_
       refine pX (i := 13) (N := some 95) rfl rfl HT_ ?_
       refine oX (i := 14) (N := some 96) rfl rfl HT_ (fun K hK => ?_)
       refine gS Try.func26 #[.slice Ac lc.length cc, .int .i64 (wrap64 (1 + wrap64 (Int.tmod (rd l1 i) 14))), .bool (decide (rd l1 i ≥ 128))] ?_
       refine (ooLearn_calls HE10.out (below_size HB.out) hc).mono ?_
       rintro e Wr10 ⟨v, rfl, Aq10, cq10, rfl, hR, hdd⟩
       refine ⟨_, rfl, ?_⟩
       replace HE8 := aM (HE8.out.below hdd)
       replace HE9 := aM (HE9.out.below hdd)
       replace HE10 := aM (HE10.out.below hdd)
       replace HE11 := aM (HE11.out.below hdd)
       replace HB := aM (below_step HB.out hdd)
       clear hdd
       obtain ⟨ad_, e_, hx1⟩ := Kd.at_int (Kd.C_below HR1.out HB.out) i hi0 hlt
       cases e_
       refine hK.out _ _ ⟨cE ⟨HE10.out.1⟩ 0, hx1⟩ (fun hHeld => ?_)
       clear hK K hx1
       refine nX (some 96) ?_
       have x0 : Wr10.cell? ⟨g10, 0, none⟩ = some (.slice Ac lc.length cc) := hHeld.1
       have x1 : Wr10.cell? ⟨g10, 1, none⟩ = some (.int .i64 ec) := cE ⟨HE10.out.1⟩ 1
       have y0 := blk_frozen HE10.out.1 0
       have y1 := blk_frozen HE10.out.1 1
       refine last_ (i := 15) (N := none) #[true, true, true, true, true, true, true, true, true, true, true, true, true, true, true, true] rfl rfl (one_of HT_.out (by kernel_rfl)) (by decide) (fun K hK => ?_)
       refine skip_ (w1 := ?_) (by rfl) rfl ?_ ?_
       rotate_left
       ·go_simp
        rfl
       refine hK.out _ _ ?_
       clear hK K x0 x1 y0 y1 hHeld
       refine done_ (done_of HT_.out (by kernel_rfl)) ?_
       clear HT_ HW_
       have Nc := aM (HE10.out.own (e' := ec') hR)
       have Na := aM (HE8.out.other (u := .slice Aq10 lc'.length cq10) (u' := .int .i64 ec') e8_10 HE10.out.1)
       have Nb := aM (HE9.out.other (u := .slice Aq10 lc'.length cq10) (u' := .int .i64 ec') e9_10 HE10.out.1)
       have Nd := aM (HE11.out.other (u := .slice Aq10 lc'.length cq10) (u' := .int .i64 ec') (Ne.symm e10_11) HE10.out.1)
       replace HB := aM ((HB.out.setCell (p := ⟨g10, 0, none⟩) b10 (.slice Aq10 lc'.length cq10)).setCell (p := ⟨g10, 1, none⟩) b10 (.int .i64 ec'))
       clear hR
       clear HE8
       have HE8 := Na
       clear Na
       clear HE9
       have HE9 := Nb
       clear Nb
       clear HE10
       have HE10 := Nc
       clear Nc
       clear HE11
       have HE11 := Nd
       clear Nd
       generalize hW_ : (Wr10.setCell ⟨g10, 0, none⟩ (.slice Aq10 lc'.length cq10)).setCell ⟨g10, 1, none⟩ (.int .i64 ec') = Ws10 at HE8 HE9 HE10 HE11 HB ⊢
       clear hW_
       go_wp2
       go_roundg k1
       case measure => omega
       case rel => exact ⟨_, _, _, _, _, _, _, _, _, _, _, _, _, _, _, _, _, (by first | rfl | (simp; done) | (simp [*]; done)), HN, ⟨by omega⟩, HE8, HE9, HE10, HE11, HB⟩
      ·by_cases hd0 : ed = 0
       ·have c16b : decide (i < wrap64 a2) = false := decide_eq_false c16
        obtain ⟨rfl, rfl⟩ : lc = lc' ∧ ec = ec' := by simpa [ooC, c16] using hc
        have hd1 : (ed == 0) = true := beq_iff_eq.mpr hd0
        replace hd : ooLearn k ld (rd l1 i) = some (ld', ed') := by simpa [ooD, ooA, c16, hd0] using hd
        have xa1 : wr.cell? ⟨g8, 1, none⟩ = some (.int .i64 ea) := cE ⟨HE8.out.1⟩ 1
        have xb1 : wr.cell? ⟨g9, 1, none⟩ = some (.int .i64 eb) := cE ⟨HE9.out.1⟩ 1
        have xd1 : wr.cell? ⟨g11, 1, none⟩ = some (.int .i64 ed) := cE ⟨HE11.out.1⟩ 1
        have xb0 : wr.cell? ⟨g9, 0, none⟩ = some (.slice Ab lb.length cb) := cE ⟨HE9.out.1⟩ 0
        go_wp2_with (go_at_call 26; refine (ooLearn_calls HE9.out (below_size HB.out) hb).mono ?_; rintro e Wr11 ⟨v, rfl, Aq11, cq11, rfl, hR, hdd⟩; replace HE8 := aM (HE8.out.below hdd); replace HE9 := aM (HE9.out.below hdd); replace HE10 := aM (HE10.out.below hdd); replace HE11 := aM (HE11.out.below hdd); replace HB := aM (below_step HB.out hdd); clear hdd; have za1 : Wr11.cell? ⟨g8, 1, none⟩ = some (.int .i64 ea) := cE ⟨HE8.out.1⟩ 1; have zb1 : Wr11.cell? ⟨g9, 1, none⟩ = some (.int .i64 eb) := cE ⟨HE9.out.1⟩ 1; have zd1 : Wr11.cell? ⟨g11, 1, none⟩ = some (.int .i64 ed) := cE ⟨HE11.out.1⟩ 1; have zb0 : Wr11.cell? ⟨g9, 0, none⟩ = some (.slice Ab lb.length cb) := cE ⟨HE9.out.1⟩ 0; have y0 := blk_frozen HE9.out.1 0; have y1 := blk_frozen HE9.out.1 1)
        clear xa1 xb1 xd1 xb0 za1 zb1 zd1 zb0 y0 y1
        have Nb := aM (HE9.out.own (e' := eb') hR)
        have Na := aM (HE8.out.other (u := .slice Aq11 lb'.length cq11) (u' := .int .i64 eb') e8_9 HE9.out.1)
        have Nc := aM (HE10.out.other (u := .slice Aq11 lb'.length cq11) (u' := .int .i64 eb') (Ne.symm e9_10) HE9.out.1)
        have Nd := aM (HE11.out.other (u := .slice Aq11 lb'.length cq11) (u' := .int .i64 eb') (Ne.symm e9_11) HE9.out.1)
        replace HB := aM ((HB.out.setCell (p := ⟨g9, 0, none⟩) b9 (.slice Aq11 lb'.length cq11)).setCell (p := ⟨g9, 1, none⟩) b9 (.int .i64 eb'))
        clear hR
        clear HE8
        have HE8 := Na
        clear Na
        clear HE9
        have HE9 := Nb
        clear Nb
        clear HE10
        have HE10 := Nc
        clear Nc
        clear HE11
        have HE11 := Nd
        clear Nd
        generalize hW_ : (Wr11.setCell ⟨g9, 0, none⟩ (.slice Aq11 lb'.length cq11)).setCell ⟨g9, 1, none⟩ (.int .i64 eb') = Ws11 at HE8 HE9 HE10 HE11 HB ⊢
        clear hW_
        replace HE8 := aM (HE8.out.drew)
        replace HE9 := aM (HE9.out.drew)
        replace HE10 := aM (HE10.out.drew)
        replace HE11 := aM (HE11.out.drew)
        replace HB := aM (below_drew1 HB.out)
        have x0 : Ws11.drew.cell? ⟨g11, 0, none⟩ = some (.slice Ad ld.length cd) := cE ⟨HE11.out.1⟩ 0
        obtain ⟨ad_, e_, hx1⟩ := Kd.at_int (Kd.C_below HR1.out HB.out) i hi0 hlt
        cases e_
        refine start_ (n := 16) (S := fun W => W.cell? ⟨g11, 0, none⟩ = some (.slice Ad ld.length cd) ∧ W.cell? (ad.add i.toNat) = some (.int .u8 (rd l1 i))) (ds := [15]) #[false, false, false, false, false, false, false, false, false, false, false, false, false, false, false, false] hmx rfl rfl ⟨x0, hx1⟩ (fun hHeld => ?_)
        clear x0 hx1
        refine with_tabW oo.tab19 oo.bits19 (fun HT_ HW_ => ?_)
        generalize hW_ : Ws11.drew = Wq12 at HE8 HE9 HE10 HE11 HB hHeld ⊢
        clear hW_
        refine pX (i := 0) (N := some 100) rfl rfl HT_ ?_
        refine tX (i := 1) (N := some 101) rfl rfl HT_ HW_ hHeld (Or.inl ⟨by rfl, by rintro w' ⟨s0, s1⟩; go_simp; with_reducible rfl⟩) ?_
        refine pX (i := 2) (N := some 102) rfl rfl HT_ ?_
        refine pX (i := 3) (N := some 103) rfl rfl HT_ ?_
        refine pX (i := 4) (N := some 104) rfl rfl HT_ ?_
        refine tX (i := 5) (N := some 105) rfl rfl HT_ HW_ hHeld (Or.inl ⟨by rfl, by rintro w' ⟨s0, s1⟩; go_simp; with_reducible rfl⟩) ?_
        refine pX (i := 6) (N := some 106) rfl rfl HT_ ?_
        refine pX (i := 7) (N := some 107) rfl rfl HT_ ?_
        refine pX (i := 8) (N := some 108) rfl rfl HT_ ?_
        refine pX (i := 9) (N := some 109) rfl rfl HT_ ?_
        refine pX (i := 10) (N := some 110) rfl rfl HT_ ?_
        refine pX (i := 11) (N := some 111) rfl rfl HT_ ?_
        refine tX (i := 12) (N := some 112) rfl rfl HT_ HW_ hHeld (Or.inl ⟨by rfl, by rintro w' ⟨s0, s1⟩; go_simp; with_reducible rfl⟩) ?_
        refine pX (i := 13) (N := some 113) rfl rfl HT_ ?_
        refine oX (i := 14) (N := some 114) rfl rfl HT_ (fun K hK => ?_)
        refine gS Try.func26 #[.slice Ad ld.length cd, .int .i64 (wrap64 (1 + wrap64 (Int.tmod (rd l1 i) 14))), .bool (decide (rd l1 i ≥ 128))] ?_
        refine (ooLearn_calls HE11.out (below_size HB.out) hd).mono ?_
        rintro e Wr12 ⟨v, rfl, Aq12, cq12, rfl, hR, hdd⟩
        refine ⟨_, rfl, ?_⟩
        replace HE8 := aM (HE8.out.below hdd)
        replace HE9 := aM (HE9.out.below hdd)
        replace HE10 := aM (HE10.out.below hdd)
        replace HE11 := aM (HE11.out.below hdd)
        replace HB := aM (below_step HB.out hdd)
        clear hdd
        obtain ⟨ad_, e_, hx1⟩ := Kd.at_int (Kd.C_below HR1.out HB.out) i hi0 hlt
        cases e_
        refine hK.out _ _ ⟨cE ⟨HE11.out.1⟩ 0, hx1⟩ (fun hHeld => ?_)
        clear hK K hx1
        refine nX (some 114) ?_
        have x0 : Wr12.cell? ⟨g11, 0, none⟩ = some (.slice Ad ld.length cd) := hHeld.1
        have x1 : Wr12.cell? ⟨g11, 1, none⟩ = some (.int .i64 ed) := cE ⟨HE11.out.1⟩ 1
        have y0 := blk_frozen HE11.out.1 0
        have y1 := blk_frozen HE11.out.1 1
        refine last_ (i := 15) (N := none) #[true, true, true, true, true, true, true, true, true, true, true, true, true, true, true, true] rfl rfl (one_of HT_.out (by kernel_rfl)) (by decide) (fun K hK => ?_)
        refine skip_ (w1 := ?_) (by rfl) rfl ?_ ?_
        rotate_left
        ·go_simp
         rfl
        refine hK.out _ _ ?_
        clear hK K x0 x1 y0 y1 hHeld
        refine done_ (done_of HT_.out (by kernel_rfl)) ?_
        clear HT_ HW_
        have Nd := aM (HE11.out.own (e' := ed') hR)
        have Na := aM (HE8.out.other (u := .slice Aq12 ld'.length cq12) (u' := .int .i64 ed') e8_11 HE11.out.1)
        have Nb := aM (HE9.out.other (u := .slice Aq12 ld'.length cq12) (u' := .int .i64 ed') e9_11 HE11.out.1)
        have Nc := aM (HE10.out.other (u := .slice Aq12 ld'.length cq12) (u' := .int .i64 ed') e10_11 HE11.out.1)
        replace HB := aM ((HB.out.setCell (p := ⟨g11, 0, none⟩) b11 (.slice Aq12 ld'.length cq12)).setCell (p := ⟨g11, 1, none⟩) b11 (.int .i64 ed'))
        clear hR
        clear HE8
        have HE8 := Na
        clear Na
        clear HE9
        have HE9 := Nb
        clear Nb
        clear HE10
        have HE10 := Nc
        clear Nc
        clear HE11
        have HE11 := Nd
        clear Nd
        generalize hW_ : (Wr12.setCell ⟨g11, 0, none⟩ (.slice Aq12 ld'.length cq12)).setCell ⟨g11, 1, none⟩ (.int .i64 ed') = Ws12 at HE8 HE9 HE10 HE11 HB ⊢
        clear hW_
        go_wp2
        go_roundg k1
        case measure => omega
        case rel => exact ⟨_, _, _, _, _, _, _, _, _, _, _, _, _, _, _, _, _, (by first | rfl | (simp; done) | (simp [*]; done)), HN, ⟨by omega⟩, HE8, HE9, HE10, HE11, HB⟩
       ·have c16b : decide (i < wrap64 a2) = false := decide_eq_false c16
        obtain ⟨rfl, rfl⟩ : lc = lc' ∧ ec = ec' := by simpa [ooC, c16] using hc
        have hd1 : (ed == 0) = false := beq_eq_false_iff_ne.mpr hd0
        obtain ⟨rfl, rfl⟩ : ld = ld' ∧ ed = ed' := by simpa [ooD, ooA, c16, hd0] using hd
        have xa1 : wr.cell? ⟨g8, 1, none⟩ = some (.int .i64 ea) := cE ⟨HE8.out.1⟩ 1
        have xb1 : wr.cell? ⟨g9, 1, none⟩ = some (.int .i64 eb) := cE ⟨HE9.out.1⟩ 1
        have xd1 : wr.cell? ⟨g11, 1, none⟩ = some (.int .i64 ed) := cE ⟨HE11.out.1⟩ 1
        have xb0 : wr.cell? ⟨g9, 0, none⟩ = some (.slice Ab lb.length cb) := cE ⟨HE9.out.1⟩ 0
        go_wp2_with (go_at_call 26; refine (ooLearn_calls HE9.out (below_size HB.out) hb).mono ?_; rintro e Wr13 ⟨v, rfl, Aq13, cq13, rfl, hR, hdd⟩; replace HE8 := aM (HE8.out.below hdd); replace HE9 := aM (HE9.out.below hdd); replace HE10 := aM (HE10.out.below hdd); replace HE11 := aM (HE11.out.below hdd); replace HB := aM (below_step HB.out hdd); clear hdd; have za1 : Wr13.cell? ⟨g8, 1, none⟩ = some (.int .i64 ea) := cE ⟨HE8.out.1⟩ 1; have zb1 : Wr13.cell? ⟨g9, 1, none⟩ = some (.int .i64 eb) := cE ⟨HE9.out.1⟩ 1; have zd1 : Wr13.cell? ⟨g11, 1, none⟩ = some (.int .i64 ed) := cE ⟨HE11.out.1⟩ 1; have zb0 : Wr13.cell? ⟨g9, 0, none⟩ = some (.slice Ab lb.length cb) := cE ⟨HE9.out.1⟩ 0; have y0 := blk_frozen HE9.out.1 0; have y1 := blk_frozen HE9.out.1 1)
        clear xa1 xb1 xd1 xb0 za1 zb1 zd1 zb0 y0 y1
        have Nb := aM (HE9.out.own (e' := eb') hR)
        have Na := aM (HE8.out.other (u := .slice Aq13 lb'.length cq13) (u' := .int .i64 eb') e8_9 HE9.out.1)
        have Nc := aM (HE10.out.other (u := .slice Aq13 lb'.length cq13) (u' := .int .i64 eb') (Ne.symm e9_10) HE9.out.1)
        have Nd := aM (HE11.out.other (u := .slice Aq13 lb'.length cq13) (u' := .int .i64 eb') (Ne.symm e9_11) HE9.out.1)
        replace HB := aM ((HB.out.setCell (p := ⟨g9, 0, none⟩) b9 (.slice Aq13 lb'.length cq13)).setCell (p := ⟨g9, 1, none⟩) b9 (.int .i64 eb'))
        clear hR
        clear HE8
        have HE8 := Na
        clear Na
        clear HE9
        have HE9 := Nb
        clear Nb
        clear HE10
        have HE10 := Nc
        clear Nc
        clear HE11
        have HE11 := Nd
        clear Nd
        generalize hW_ : (Wr13.setCell ⟨g9, 0, none⟩ (.slice Aq13 lb'.length cq13)).setCell ⟨g9, 1, none⟩ (.int .i64 eb') = Ws13 at HE8 HE9 HE10 HE11 HB ⊢
        clear hW_
        go_roundg k1
        case measure => omega
        case rel => exact ⟨_, _, _, _, _, _, _, _, _, _, _, _, _, _, _, _, _, (by first | rfl | (simp; done) | (simp [*]; done)), HN, ⟨by omega⟩, HE8, HE9, HE10, HE11, HB⟩
     ·have hb1 : (eb == 0) = false := beq_eq_false_iff_ne.mpr hb0
      obtain ⟨rfl, rfl⟩ : lb = lb' ∧ eb = eb' := by simpa [ooA, hb0] using hb
      by_cases c16 : i < wrap64 a2
      ·have c16b : decide (i < wrap64 a2) = true := decide_eq_true c16
       obtain ⟨rfl, rfl⟩ : ld = ld' ∧ ed = ed' := by simpa [ooD, c16] using hd
       replace hc : ooLearn k lc (rd l1 i) = some (lc', ec') := by simpa [ooC, c16] using hc
       have xa1 : wr.cell? ⟨g8, 1, none⟩ = some (.int .i64 ea) := cE ⟨HE8.out.1⟩ 1
       have xb1 : wr.cell? ⟨g9, 1, none⟩ = some (.int .i64 eb) := cE ⟨HE9.out.1⟩ 1
       have xd1 : wr.cell? ⟨g11, 1, none⟩ = some (.int .i64 ed) := cE ⟨HE11.out.1⟩ 1
       go_wp2
       clear xa1 xb1 xd1
       replace HE8 := aM (HE8.out.drew)
       replace HE9 := aM (HE9.out.drew)
       replace HE10 := aM (HE10.out.drew)
       replace HE11 := aM (HE11.out.drew)
       replace HB := aM (below_drew1 HB.out)
       have x0 : wr.drew.cell? ⟨g10, 0, none⟩ = some (.slice Ac lc.length cc) := cE ⟨HE10.out.1⟩ 0
       obtain ⟨ad_, e_, hx1⟩ := Kd.at_int (Kd.C_below HR1.out HB.out) i hi0 hlt
       cases e_
       refine start_ (n := 16) (S := fun W => W.cell? ⟨g10, 0, none⟩ = some (.slice Ac lc.length cc) ∧ W.cell? (ad.add i.toNat) = some (.int .u8 (rd l1 i))) (ds := [15]) #[false, false, false, false, false, false, false, false, false, false, false, false, false, false, false, false] hmx rfl rfl ⟨x0, hx1⟩ (fun hHeld => ?_)
       clear x0 hx1
       refine with_tabW oo.tab17 oo.bits17 (fun HT_ HW_ => ?_)
       generalize hW_ : wr.drew = Wq14 at HE8 HE9 HE10 HE11 HB hHeld ⊢
       clear hW_
       refine pX (i := 0) (N := some 82) rfl rfl HT_ ?_
       refine tX (i := 1) (N := some 83) rfl rfl HT_ HW_ hHeld (Or.inl ⟨by rfl, by rintro w' ⟨s0, s1⟩; go_simp; with_reducible rfl⟩) ?_
       refine pX (i := 2) (N := some 84) rfl rfl HT_ ?_
       refine pX (i := 3) (N := some 85) rfl rfl HT_ ?_
       refine pX (i := 4) (N := some 86) rfl rfl HT_ ?_
       refine tX (i := 5) (N := some 87) rfl rfl HT_ HW_ hHeld (Or.inl ⟨by rfl, by rintro w' ⟨s0, s1⟩; go_simp; with_reducible rfl⟩) ?_
       refine pX (i := 6) (N := some 88) rfl rfl HT_ ?_
       refine pX (i := 7) (N := some 89) rfl rfl HT_ ?_
       refine pX (i := 8) (N := some 90) rfl rfl HT_ ?_
       refine pX (i := 9) (N := some 91) rfl rfl HT_ ?_
       refine pX (i := 10) (N := some 92) rfl rfl HT_ ?_
       refine pX (i := 11) (N := some 93) rfl rfl HT_ ?_
       refine tX (i := 12) (N := some 94) rfl rfl HT_ HW_ hHeld (Or.inl ⟨by rfl, by rintro w' ⟨s0, s1⟩; go_simp; with_reducible rfl⟩) ?_
       refine pX (i := 13) (N := some 95) rfl rfl HT_ ?_
       refine oX (i := 14) (N := some 96) rfl rfl HT_ (fun K hK => ?_)
       refine gS Try.func26 #[.slice Ac lc.length cc, .int .i64 (wrap64 (1 + wrap64 (Int.tmod (rd l1 i) 14))), .bool (decide (rd l1 i ≥ 128))] ?_
       refine (ooLearn_calls HE10.out (below_size HB.out) hc).mono ?_
       rintro e Wr14 ⟨v, rfl, Aq14, cq14, rfl, hR, hdd⟩
       refine ⟨_, rfl, ?_⟩
       replace HE8 := aM (HE8.out.below hdd)
       replace HE9 := aM (HE9.out.below hdd)
       replace HE10 := aM (HE10.out.below hdd)
       replace HE11 := aM (HE11.out.below hdd)
       replace HB := aM (below_step HB.out hdd)
       clear hdd
       obtain ⟨ad_, e_, hx1⟩ := Kd.at_int (Kd.C_below HR1.out HB.out) i hi0 hlt
       cases e_
       refine hK.out _ _ ⟨cE ⟨HE10.out.1⟩ 0, hx1⟩ (fun hHeld => ?_)
       clear hK K hx1
       refine nX (some 96) ?_
       have x0 : Wr14.cell? ⟨g10, 0, none⟩ = some (.slice Ac lc.length cc) := hHeld.1
       have x1 : Wr14.cell? ⟨g10, 1, none⟩ = some (.int .i64 ec) := cE ⟨HE10.out.1⟩ 1
       have y0 := blk_frozen HE10.out.1 0
       have y1 := blk_frozen HE10.out.1 1
       refine last_ (i := 15) (N := none) #[true, true, true, true, true, true, true, true, true, true, true, true, true, true, true, true] rfl rfl (one_of HT_.out (by kernel_rfl)) (by decide) (fun K hK => ?_)
       refine skip_ (w1 := ?_) (by rfl) rfl ?_ ?_
       rotate_left
       ·go_simp
        rfl
       refine hK.out _ _ ?_
       clear hK K x0 x1 y0 y1 hHeld
       refine done_ (done_of HT_.out (by kernel_rfl)) ?_
       clear HT_ HW_
       have Nc := aM (HE10.out.own (e' := ec') hR)
       have Na := aM (HE8.out.other (u := .slice Aq14 lc'.length cq14) (u' := .int .i64 ec') e8_10 HE10.out.1)
       have Nb := aM (HE9.out.other (u := .slice Aq14 lc'.length cq14) (u' := .int .i64 ec') e9_10 HE10.out.1)
       have Nd := aM (HE11.out.other (u := .slice Aq14 lc'.length cq14) (u' := .int .i64 ec') (Ne.symm e10_11) HE10.out.1)
       replace HB := aM ((HB.out.setCell (p := ⟨g10, 0, none⟩) b10 (.slice Aq14 lc'.length cq14)).setCell (p := ⟨g10, 1, none⟩) b10 (.int .i64 ec'))
       clear hR
       clear HE8
       have HE8 := Na
       clear Na
       clear HE9
       have HE9 := Nb
       clear Nb
       clear HE10
       have HE10 := Nc
       clear Nc
       clear HE11
       have HE11 := Nd
       clear Nd
       generalize hW_ : (Wr14.setCell ⟨g10, 0, none⟩ (.slice Aq14 lc'.length cq14)).setCell ⟨g10, 1, none⟩ (.int .i64 ec') = Ws14 at HE8 HE9 HE10 HE11 HB ⊢
       clear hW_
       go_wp2
       go_roundg k1
       case measure => omega
       case rel => exact ⟨_, _, _, _, _, _, _, _, _, _, _, _, _, _, _, _, _, (by first | rfl | (simp; done) | (simp [*]; done)), HN, ⟨by omega⟩, HE8, HE9, HE10, HE11, HB⟩
      ·by_cases hd0 : ed = 0
       ·have c16b : decide (i < wrap64 a2) = false := decide_eq_false c16
        obtain ⟨rfl, rfl⟩ : lc = lc' ∧ ec = ec' := by simpa [ooC, c16] using hc
        have hd1 : (ed == 0) = true := beq_iff_eq.mpr hd0
        replace hd : ooLearn k ld (rd l1 i) = some (ld', ed') := by simpa [ooD, ooA, c16, hd0] using hd
        have xa1 : wr.cell? ⟨g8, 1, none⟩ = some (.int .i64 ea) := cE ⟨HE8.out.1⟩ 1
        have xb1 : wr.cell? ⟨g9, 1, none⟩ = some (.int .i64 eb) := cE ⟨HE9.out.1⟩ 1
        have xd1 : wr.cell? ⟨g11, 1, none⟩ = some (.int .i64 ed) := cE ⟨HE11.out.1⟩ 1
        go_wp2
        clear xa1 xb1 xd1
        replace HE8 := aM (HE8.out.drew)
        replace HE9 := aM (HE9.out.drew)
        replace HE10 := aM (HE10.out.drew)
        replace HE11 := aM (HE11.out.drew)
        replace HB := aM (below_drew1 HB.out)
        have x0 : wr.drew.cell? ⟨g11, 0, none⟩ = some (.slice Ad ld.length cd) := cE ⟨HE11.out.1⟩ 0
        obtain ⟨ad_, e_, hx1⟩ := Kd.at_int (Kd.C_below HR1.out HB.out) i hi0 hlt
        cases e_
        refine start_ (n := 16) (S := fun W => W.cell? ⟨g11, 0, none⟩ = some (.slice Ad ld.length cd) ∧ W.cell? (ad.add i.toNat) = some (.int .u8 (rd l1 i))) (ds := [15]) #[false, false, false, false, false, false, false, false, false, false, false, false, false, false, false, false] hmx rfl rfl ⟨x0, hx1⟩ (fun hHeld => ?_)
        clear x0 hx1
        refine with_tabW oo.tab19 oo.bits19 (fun HT_ HW_ => ?_)
        generalize hW_ : wr.drew = Wq15 at HE8 HE9 HE10 HE11 HB hHeld ⊢
        clear hW_
        refine pX (i := 0) (N := some 100) rfl rfl HT_ ?_
        refine tX (i := 1) (N := some 101) rfl rfl HT_ HW_ hHeld (Or.inl ⟨by rfl, by rintro w' ⟨s0, s1⟩; go_simp; with_reducible rfl⟩) ?_
        refine pX (i := 2) (N := some 102) rfl rfl HT_ ?_
        refine pX (i := 3) (N := some 103) rfl rfl HT_ ?_
        refine pX (i := 4) (N := some 104) rfl rfl HT_ ?_
        refine tX (i := 5) (N := some 105) rfl rfl HT_ HW_ hHeld (Or.inl ⟨by rfl, by rintro w' ⟨s0, s1⟩; go_simp; with_reducible rfl⟩) ?_
        refine pX (i := 6) (N := some 106) rfl rfl HT_ ?_
        refine pX (i := 7) (N := some 107) rfl rfl HT_ ?_
        refine pX (i := 8) (N := some 108) rfl rfl HT_ ?_
        refine pX (i := 9) (N := some 109) rfl rfl HT_ ?_
        refine pX (i := 10) (N := some 110) rfl rfl HT_ ?_
        refine pX (i := 11) (N := some 111) rfl rfl HT_ ?_
        refine tX (i := 12) (N := some 112) rfl rfl HT_ HW_ hHeld (Or.inl ⟨by rfl, by rintro w' ⟨s0, s1⟩; go_simp; with_reducible rfl⟩) ?_
        refine pX (i := 13) (N := some 113) rfl rfl HT_ ?_
        refine oX (i := 14) (N := some 114) rfl rfl HT_ (fun K hK => ?_)
        refine gS Try.func26 #[.slice Ad ld.length cd, .int .i64 (wrap64 (1 + wrap64 (Int.tmod (rd l1 i) 14))), .bool (decide (rd l1 i ≥ 128))] ?_
        refine (ooLearn_calls HE11.out (below_size HB.out) hd).mono ?_
        rintro e Wr15 ⟨v, rfl, Aq15, cq15, rfl, hR, hdd⟩
        refine ⟨_, rfl, ?_⟩
        replace HE8 := aM (HE8.out.below hdd)
        replace HE9 := aM (HE9.out.below hdd)
        replace HE10 := aM (HE10.out.below hdd)
        replace HE11 := aM (HE11.out.below hdd)
        replace HB := aM (below_step HB.out hdd)
        clear hdd
        obtain ⟨ad_, e_, hx1⟩ := Kd.at_int (Kd.C_below HR1.out HB.out) i hi0 hlt
        cases e_
        refine hK.out _ _ ⟨cE ⟨HE11.out.1⟩ 0, hx1⟩ (fun hHeld => ?_)
        clear hK K hx1
        refine nX (some 114) ?_
        have x0 : Wr15.cell? ⟨g11, 0, none⟩ = some (.slice Ad ld.length cd) := hHeld.1
        have x1 : Wr15.cell? ⟨g11, 1, none⟩ = some (.int .i64 ed) := cE ⟨HE11.out.1⟩ 1
        have y0 := blk_frozen HE11.out.1 0
        have y1 := blk_frozen HE11.out.1 1
        refine last_ (i := 15) (N := none) #[true, true, true, true, true, true, true, true, true, true, true, true, true, true, true, true] rfl rfl (one_of HT_.out (by kernel_rfl)) (by decide) (fun K hK => ?_)
        refine skip_ (w1 := ?_) (by rfl) rfl ?_ ?_
        rotate_left
        ·go_simp
         rfl
        refine hK.out _ _ ?_
        clear hK K x0 x1 y0 y1 hHeld
        refine done_ (done_of HT_.out (by kernel_rfl)) ?_
        clear HT_ HW_
        have Nd := aM (HE11.out.own (e' := ed') hR)
        have Na := aM (HE8.out.other (u := .slice Aq15 ld'.length cq15) (u' := .int .i64 ed') e8_11 HE11.out.1)
        have Nb := aM (HE9.out.other (u := .slice Aq15 ld'.length cq15) (u' := .int .i64 ed') e9_11 HE11.out.1)
        have Nc := aM (HE10.out.other (u := .slice Aq15 ld'.length cq15) (u' := .int .i64 ed') e10_11 HE11.out.1)
        replace HB := aM ((HB.out.setCell (p := ⟨g11, 0, none⟩) b11 (.slice Aq15 ld'.length cq15)).setCell (p := ⟨g11, 1, none⟩) b11 (.int .i64 ed'))
        clear hR
        clear HE8
        have HE8 := Na
        clear Na
        clear HE9
        have HE9 := Nb
        clear Nb
        clear HE10
        have HE10 := Nc
        clear Nc
        clear HE11
        have HE11 := Nd
        clear Nd
        generalize hW_ : (Wr15.setCell ⟨g11, 0, none⟩ (.slice Aq15 ld'.length cq15)).setCell ⟨g11, 1, none⟩ (.int .i64 ed') = Ws15 at HE8 HE9 HE10 HE11 HB ⊢
        clear hW_
        go_wp2
        go_roundg k1
        case measure => omega
        case rel => exact ⟨_, _, _, _, _, _, _, _, _, _, _, _, _, _, _, _, _, (by first | rfl | (simp; done) | (simp [*]; done)), HN, ⟨by omega⟩, HE8, HE9, HE10, HE11, HB⟩
       ·have c16b : decide (i < wrap64 a2) = false := decide_eq_false c16
        obtain ⟨rfl, rfl⟩ : lc = lc' ∧ ec = ec' := by simpa [ooC, c16] using hc
        have hd1 : (ed == 0) = false := beq_eq_false_iff_ne.mpr hd0
        obtain ⟨rfl, rfl⟩ : ld = ld' ∧ ed = ed' := by simpa [ooD, ooA, c16, hd0] using hd
        have xa1 : wr.cell? ⟨g8, 1, none⟩ = some (.int .i64 ea) := cE ⟨HE8.out.1⟩ 1
        have xb1 : wr.cell? ⟨g9, 1, none⟩ = some (.int .i64 eb) := cE ⟨HE9.out.1⟩ 1
        have xd1 : wr.cell? ⟨g11, 1, none⟩ = some (.int .i64 ed) := cE ⟨HE11.out.1⟩ 1
        go_wp2
        clear xa1 xb1 xd1
        go_roundg k1
        case measure => omega
        case rel => exact ⟨_, _, _, _, _, _, _, _, _, _, _, _, _, _, _, _, _, (by first | rfl | (simp; done) | (simp [*]; done)), HN, ⟨by omega⟩, HE8, HE9, HE10, HE11, HB⟩
   ·rw [if_neg hlt] at H1
    cases H1
    have c1b : decide (i < (l1.length : Int)) = false := decide_eq_false hlt
    have H2 := H.out
    rw [ooEnd] at H2
    skip
    have xa1 : wr.cell? ⟨g8, 1, none⟩ = some (.int .i64 rea) := cE ⟨HE8.out.1⟩ 1
    have xb1 : wr.cell? ⟨g9, 1, none⟩ = some (.int .i64 reb) := cE ⟨HE9.out.1⟩ 1
    have xd1 : wr.cell? ⟨g11, 1, none⟩ = some (.int .i64 red) := cE ⟨HE11.out.1⟩ 1
    by_cases u_rea : rea ≠ 0
    ·have z_rea : (rea != 0) = true := bne_iff_ne.mpr u_rea
     go_wp2
     go_ret
     exact ⟨rfl, HB.out⟩
    replace u_rea : rea = 0 := Classical.not_not.mp u_rea
    have z_rea : (rea != 0) = false := bne_eq_false_iff_eq.mpr u_rea
    by_cases u_reb : reb ≠ 0
    ·have z_reb : (reb != 0) = true := bne_iff_ne.mpr u_reb
     go_wp2
     go_ret
     exact ⟨rfl, HB.out⟩
    replace u_reb : reb = 0 := Classical.not_not.mp u_reb
    have z_reb : (reb != 0) = false := bne_eq_false_iff_eq.mpr u_reb
    by_cases u_red : red ≠ 0
    ·have z_red : (red != 0) = true := bne_iff_ne.mpr u_red
     go_wp2
     go_ret
     exact ⟨rfl, HB.out⟩
    replace u_red : red = 0 := Classical.not_not.mp u_red
    have z_red : (red != 0) = false := bne_eq_false_iff_eq.mpr u_red
    rw [if_neg (fun h => h.elim (fun h => h u_rea) (fun h => h.elim (fun h => h u_reb) (fun h => h u_red)))] at H2
    obtain ⟨t1, g1, H2⟩ := Option.bind_eq_some_iff.mp H2
    cases t1
    ·exact absurd H2 (by simp)
    rw [if_pos rfl] at H2
    obtain ⟨⟨j1, f1⟩, g2, H2⟩ := Option.bind_eq_some_iff.mp H2
    obtain ⟨t2, g3, H2⟩ := Option.bind_eq_some_iff.mp H2
    cases t2
    ·exact absurd H2 (by simp)
    rw [if_pos rfl] at H2
    obtain ⟨⟨j2, f2⟩, g4, H2⟩ := Option.bind_eq_some_iff.mp H2
    obtain ⟨t3, g5, H2⟩ := Option.bind_eq_some_iff.mp H2
    cases t3
    ·exact absurd H2 (by simp)
    clear H2
    go_wp2
    clear xa1 xb1 xd1
    replace HE8 := aM (HE8.out.drew)
    replace HE9 := aM (HE9.out.drew)
    replace HE10 := aM (HE10.out.drew)
    replace HE11 := aM (HE11.out.drew)
    replace HB := aM (below_drew1 HB.out)
    refine start_ (n := 27) (S := fun W => W.cell? ⟨g8, 0, none⟩ = some (.slice Aa ra.length ca) ∧ W.cell? ⟨g8, 1, none⟩ = some (.int .i64 rea) ∧ W.cell? ⟨g9, 0, none⟩ = some (.slice Ab rb.length cb) ∧ W.cell? ⟨g10, 0, none⟩ = some (.slice Ac rc.length cc) ∧ W.cell? ⟨g11, 0, none⟩ = some (.slice Ad rd'.length cd)) (ds := []) #[false, false, false, false, false, false, false, false, false, false, false, false, false, false, false, false, false, false, false, false, false, false, false, false, false, false, false] hmx rfl rfl ⟨cE ⟨HE8.out.1⟩ 0, cE ⟨HE8.out.1⟩ 1, cE ⟨HE9.out.1⟩ 0, cE ⟨HE10.out.1⟩ 0, cE ⟨HE11.out.1⟩ 0⟩ (fun hHeld => ?_)
    refine with_tabW oo.tab22 oo.bits22 (fun HT_ HW_ => ?_)
    generalize hW_ : wr.drew = V0 at HE8 HE9 HE10 HE11 HB hHeld ⊢
    clear hW_
    refine pX (i := 0) (N := some 129) rfl rfl HT_ ?_
    refine tX (i := 1) (N := some 130) rfl rfl HT_ HW_ hHeld (Or.inl ⟨by rfl, by rintro w' ⟨s0, s1, s2, s3, s4⟩; go_simp; with_reducible rfl⟩) ?_
    refine pX (i := 2) (N := some 131) rfl rfl HT_ ?_
    refine tX (i := 3) (N := some 132) rfl rfl HT_ HW_ hHeld (Or.inl ⟨by rfl, by rintro w' ⟨s0, s1, s2, s3, s4⟩; go_simp; with_reducible rfl⟩) ?_
    refine oX (i := 4) (N := some 133) rfl rfl HT_ (fun K hK => ?_)
    refine gS Try.func43 #[.slice Aa ra.length ca, .slice Ab rb.length cb] ?_
    refine (paroleref37_Same.calls k _ _ ra _ _ rb true _ (Kd.R_reads' HE8.out.2).2.2 (Kd.R_reads' HE8.out.2).2.1 (Kd.R_reads' HE9.out.2).2.2 (Kd.R_reads' HE9.out.2).2.1 g1).mono ?_
    rintro e V1 ⟨rfl, hdd⟩
    refine ⟨_, rfl, ?_⟩
    replace hdd := Drawn0.below hdd
    replace HE8 := aM (HE8.out.below hdd)
    replace HE9 := aM (HE9.out.below hdd)
    replace HE10 := aM (HE10.out.below hdd)
    replace HE11 := aM (HE11.out.below hdd)
    replace HB := aM (below_step HB.out hdd)
    clear hdd
    refine hK.out _ _ ⟨cE ⟨HE8.out.1⟩ 0, cE ⟨HE8.out.1⟩ 1, cE ⟨HE9.out.1⟩ 0, cE ⟨HE10.out.1⟩ 0, cE ⟨HE11.out.1⟩ 0⟩ (fun hHeld => ?_)
    clear hK K
    refine nX (some 133) ?_
    refine pX (i := 5) (N := some 134) rfl rfl HT_ ?_
    refine pX (i := 6) (N := some 135) rfl rfl HT_ ?_
    refine tX (i := 7) (N := some 136) rfl rfl HT_ HW_ hHeld (Or.inl ⟨by rfl, by rintro w' ⟨s0, s1, s2, s3, s4⟩; go_simp; with_reducible rfl⟩) ?_
    refine pX (i := 8) (N := some 137) rfl rfl HT_ ?_
    refine tX (i := 9) (N := some 138) rfl rfl HT_ HW_ hHeld (Or.inl ⟨by rfl, by rintro w' ⟨s0, s1, s2, s3, s4⟩; go_simp; with_reducible rfl⟩) ?_
    refine tX (i := 11) (N := some 140) rfl rfl HT_ HW_ hHeld (Or.inl ⟨by rfl, by rintro w' ⟨s0, s1, s2, s3, s4⟩; go_simp; with_reducible rfl⟩) ?_
    refine oX (i := 10) (N := some 139) rfl rfl HT_ (fun K hK => ?_)
    refine gS Try.func20 #[.slice Ac rc.length cc, .slice Ad rd'.length cd] ?_
    refine (parolelaw37_joined.calls k _ _ rc _ _ rd' j1 f1 _ (Kd.R_reads' HE10.out.2).2.2 (Kd.R_reads' HE10.out.2).2.1 (Kd.R_reads' HE11.out.2).2.2 (Kd.R_reads' HE11.out.2).2.1 g2).mono ?_
    rintro e V2 ⟨v, rfl, hR, hdd⟩
    refine ⟨_, rfl, ?_⟩
    replace hR := Kd.R_lower hR (below_size HB.out)
    obtain ⟨Aj, cj, rfl⟩ := Kd.R_slice hR
    replace HE8 := aM (HE8.out.below hdd)
    replace HE9 := aM (HE9.out.below hdd)
    replace HE10 := aM (HE10.out.below hdd)
    replace HE11 := aM (HE11.out.below hdd)
    replace HB := aM (below_step HB.out hdd)
    clear hdd
    refine hK.out _ _ ⟨cE ⟨HE8.out.1⟩ 0, cE ⟨HE8.out.1⟩ 1, cE ⟨HE9.out.1⟩ 0, cE ⟨HE10.out.1⟩ 0, cE ⟨HE11.out.1⟩ 0⟩ (fun hHeld => ?_)
    clear hK K
    refine nX (some 139) ?_
    refine oX (i := 12) (N := some 141) rfl rfl HT_ (fun K hK => ?_)
    refine gS Try.func19 #[.agg #[.slice Aj j1.length cj, .int .i64 f1], .agg #[.slice Aa ra.length ca, .int .i64 rea]] ?_ (hargs := by go_simp)
    refine (parolelaw37_same.calls k _ _ j1 f1 _ _ ra rea true _ (Kd.R_reads' hR).2.2 (Kd.R_reads' hR).2.1 (Kd.R_reads' HE8.out.2).2.2 (Kd.R_reads' HE8.out.2).2.1 g3).mono ?_
    rintro e V3 ⟨rfl, hdd⟩
    refine ⟨_, rfl, ?_⟩
    clear hR
    replace HE8 := aM (HE8.out.below hdd)
    replace HE9 := aM (HE9.out.below hdd)
    replace HE10 := aM (HE10.out.below hdd)
    replace HE11 := aM (HE11.out.below hdd)
    replace HB := aM (below_step HB.out hdd)
    clear hdd
    refine hK.out _ _ ⟨cE ⟨HE8.out.1⟩ 0, cE ⟨HE8.out.1⟩ 1, cE ⟨HE9.out.1⟩ 0, cE ⟨HE10.out.1⟩ 0, cE ⟨HE11.out.1⟩ 0⟩ (fun hHeld => ?_)
    clear hK K
    refine nX (some 141) ?_
    refine pX (i := 13) (N := some 142) rfl rfl HT_ ?_
    refine pX (i := 14) (N := some 143) rfl rfl HT_ ?_
    refine pX (i := 15) (N := some 144) rfl rfl HT_ ?_
    refine tX (i := 16) (N := some 145) rfl rfl HT_ HW_ hHeld (Or.inl ⟨by rfl, by rintro w' ⟨s0, s1, s2, s3, s4⟩; go_simp; with_reducible rfl⟩) ?_
    refine pX (i := 17) (N := some 146) rfl rfl HT_ ?_
    refine tX (i := 18) (N := some 147) rfl rfl HT_ HW_ hHeld (Or.inl ⟨by rfl, by rintro w' ⟨s0, s1, s2, s3, s4⟩; go_simp; with_reducible rfl⟩) ?_
    refine tX (i := 20) (N := some 149) rfl rfl HT_ HW_ hHeld (Or.inl ⟨by rfl, by rintro w' ⟨s0, s1, s2, s3, s4⟩; go_simp; with_reducible rfl⟩) ?_
    refine oX (i := 19) (N := some 148) rfl rfl HT_ (fun K hK => ?_)
    refine gS Try.func20 #[.slice Ad rd'.length cd, .slice Ac rc.length cc] ?_
    refine (parolelaw37_joined.calls k _ _ rd' _ _ rc j2 f2 _ (Kd.R_reads' HE11.out.2).2.2 (Kd.R_reads' HE11.out.2).2.1 (Kd.R_reads' HE10.out.2).2.2 (Kd.R_reads' HE10.out.2).2.1 g4).mono ?_
    rintro e V4 ⟨v, rfl, hR, hdd⟩
    refine ⟨_, rfl, ?_⟩
    replace hR := Kd.R_lower hR (below_size HB.out)
    obtain ⟨Ak, ck, rfl⟩ := Kd.R_slice hR
    replace HE8 := aM (HE8.out.below hdd)
    replace HE9 := aM (HE9.out.below hdd)
    replace HE10 := aM (HE10.out.below hdd)
    replace HE11 := aM (HE11.out.below hdd)
    replace HB := aM (below_step HB.out hdd)
    clear hdd
    refine hK.out _ _ ⟨cE ⟨HE8.out.1⟩ 0, cE ⟨HE8.out.1⟩ 1, cE ⟨HE9.out.1⟩ 0, cE ⟨HE10.out.1⟩ 0, cE ⟨HE11.out.1⟩ 0⟩ (fun hHeld => ?_)
    clear hK K
    refine nX (some 148) ?_
    refine oX (i := 21) (N := some 150) rfl rfl HT_ (fun K hK => ?_)
    refine gS Try.func19 #[.agg #[.slice Ak j2.length ck, .int .i64 f2], .agg #[.slice Aa ra.length ca, .int .i64 rea]] ?_ (hargs := by go_simp)
    refine (parolelaw37_same.calls k _ _ j2 f2 _ _ ra rea true _ (Kd.R_reads' hR).2.2 (Kd.R_reads' hR).2.1 (Kd.R_reads' HE8.out.2).2.2 (Kd.R_reads' HE8.out.2).2.1 g5).mono ?_
    rintro e V5 ⟨rfl, hdd⟩
    refine ⟨_, rfl, ?_⟩
    clear hR
    replace HE8 := aM (HE8.out.below hdd)
    replace HE9 := aM (HE9.out.below hdd)
    replace HE10 := aM (HE10.out.below hdd)
    replace HE11 := aM (HE11.out.below hdd)
    replace HB := aM (below_step HB.out hdd)
    clear hdd
    refine hK.out _ _ ⟨cE ⟨HE8.out.1⟩ 0, cE ⟨HE8.out.1⟩ 1, cE ⟨HE9.out.1⟩ 0, cE ⟨HE10.out.1⟩ 0, cE ⟨HE11.out.1⟩ 0⟩ (fun hHeld => ?_)
    clear hK K
    refine nX (some 150) ?_
    refine pX (i := 22) (N := some 151) rfl rfl HT_ ?_
    refine pX (i := 23) (N := some 152) rfl rfl HT_ ?_
    refine pX (i := 24) (N := some 153) rfl rfl HT_ ?_
    refine pX (i := 25) (N := some 154) rfl rfl HT_ ?_
    refine pX (i := 26) (N := some 6) rfl rfl HT_ ?_
    refine done_ (done_of HT_.out (by kernel_rfl)) ?_
    clear hHeld HT_ HW_
    go_wp2
    go_ret
    exact ⟨rfl, HB.out⟩
end Go.Proofs.Ytohnkcmbogcfhaa.P
namespace Go.Proofs.Ytohnkcmbogcfhaa.R
open Go.RowKit Go.Proofs.Ytohnkcmbogcfhaa.P Go.Proofs.YtohnkcmbogcfhaaW.PrintWords Go.Proofs.YtohnkcmbogcfhaaW.PrintLast Go.Proofs.YtohnkcmbogcfhaaW.PrintMore
def mergeL : Nat → List S71 → List S71 → List S71
 | 0, _, _ => []
 | _ + 1, [], [] => []
 | n + 1, x :: a, [] => x :: mergeL n a []
 | n + 1, [], y :: b => y :: mergeL n [] b
 | n + 1, x :: a, y :: b => if x.f0 < y.f0 then x :: mergeL n a (y :: b) else if y.f0 < x.f0 then y :: mergeL n (x :: a) b else ⟨x.f0, wrap64 (x.f1 + y.f1), wrap64 (x.f2 + y.f2)⟩ :: mergeL n a b
theorem rd_cons (x : S71) (a : List S71) : rd_T71 (x :: a) 0 = x := rfl
theorem merge_l0 : ∀ (n : Nat) (a b acc : List S71), a.length + b.length ≤ n → acc.length + n < 5864062014805 → Ev (fun k => api_Answered.l0 k a b acc) (acc ++ mergeL n a b) := by
 intro n
 induction n with
 | zero =>
  intro a b acc h1 h2
  obtain rfl : a = [] := List.length_eq_zero_iff.1 (by omega)
  obtain rfl : b = [] := List.length_eq_zero_iff.1 (by omega)
  refine Ev.succ ?_
  simp only [api_Answered.l0, mergeL, List.append_nil]
  exact Ev.neg (by rw [show wrap64 (((([] : List S71).length : Nat) : Int) + ((([] : List S71).length : Nat) : Int)) = 0 from wrap64_of (by simp) (by simp)]; simp) (Ev.now _)
 | succ n ih =>
  intro a b acc h1 h2
  have hw : wrap64 ((a.length : Int) + (b.length : Int)) = (a.length : Int) + (b.length : Int) := wrap64_of (by omega) (by omega)
  have step : ∀ (a' b' : List S71) (z : S71), a'.length + b'.length ≤ n → Ev (fun k => api_Answered.l0 k a' b' (acc ++ [z])) (acc ++ z :: mergeL n a' b') := by
   intro a' b' z h
   have := ih a' b' (acc ++ [z]) h (by simp; omega)
   simpa using this
  cases a with
  | nil =>
   cases b with
   | nil =>
    refine Ev.succ ?_
    simp only [api_Answered.l0, mergeL, List.append_nil]
    exact Ev.neg (by rw [show wrap64 (((([] : List S71).length : Nat) : Int) + ((([] : List S71).length : Nat) : Int)) = 0 from wrap64_of (by simp) (by simp)]; simp) (Ev.now _)
   | cons y b =>
    simp only [List.length_cons, List.length_nil] at h1 hw
    refine Ev.succ ?_
    simp only [api_Answered.l0, mergeL, rd_cons, odds_Join_2.f, Option.bind_some, List.length_nil, List.length_cons]
    refine Ev.pos (by rw [hw]; omega) (Ev.neg (by omega) (Ev.neg (by simp) (Ev.succ ?_)))
    simp only [api_Answered.j1, rd_cons, List.length_nil, List.length_cons]
    refine Ev.neg (by simp) (Ev.pos (by simp) (Ev.pos (by omega) (Ev.pos (by omega) (Ev.pos (by omega) ?_))))
    exact step [] b y (by simp; omega)
  | cons x a =>
   cases b with
   | nil =>
    simp only [List.length_cons, List.length_nil] at h1 hw
    refine Ev.succ ?_
    simp only [api_Answered.l0, mergeL, rd_cons, odds_Join_2.f, Option.bind_some, List.length_nil, List.length_cons]
    refine Ev.pos (by rw [hw]; omega) (Ev.pos (by simp) (Ev.succ ?_))
    simp only [api_Answered.j1, rd_cons, List.length_nil, List.length_cons]
    refine Ev.pos trivial (Ev.pos (by omega) (Ev.pos (by omega) (Ev.pos (by omega) ?_)))
    exact step a [] x (by simp; omega)
   | cons y b =>
    simp only [List.length_cons] at h1 hw
    refine Ev.succ ?_
    simp only [api_Answered.l0, mergeL, rd_cons, odds_Join_2.f, Option.bind_some, List.length_cons]
    refine Ev.pos (by rw [hw]; omega) (Ev.neg (by omega) (Ev.pos (by omega) (Ev.pos (by omega) (Ev.pos (by omega) (Ev.succ ?_)))))
    simp only [api_Answered.j1, rd_cons, odds_Join_2.f, odds_Join_1.f, Option.bind_some, List.length_cons]
    by_cases hxy : x.f0 < y.f0
    ·rw [if_pos hxy]
     refine Ev.pos (by simpa using hxy) (Ev.pos (by omega) (Ev.pos (by omega) (Ev.pos (by omega) ?_)))
     exact step a (y :: b) x (by simp; omega)
    ·rw [if_neg hxy]
     refine Ev.neg (by simpa using hxy) (Ev.neg (by omega) (Ev.pos (by omega) (Ev.pos (by omega) ?_)))
     by_cases hyx : y.f0 < x.f0
     ·rw [if_pos hyx]
      refine Ev.pos hyx (Ev.pos (by omega) (Ev.pos (by omega) ?_))
      exact step (x :: a) b y (by simp; omega)
     ·rw [if_neg hyx]
      refine Ev.neg hyx (Ev.pos (by omega) (Ev.pos (by omega) (Ev.pos (by omega) ?_)))
      exact step a b _ (by omega)
/-- Which books are right. -/
def okAt (p : Option S71) (x : S71) : Bool := decide (1 ≤ x.f0) && decide (x.f0 ≤ 14) && decide (0 ≤ x.f1) && decide (0 ≤ x.f2) && decide (x.f1 ≤ 1073741824) && decide (x.f2 ≤ 1073741824) && (match p with | none => true | some q => decide (q.f0 < x.f0))
def rightFrom : Option S71 → List S71 → Bool
 | _, [] => true
 | p, x :: l => okAt p x && rightFrom (some x) l
def rightB (l : List S71) : Bool := rightFrom none l
theorem right_l0 (l : List S71) (hl : l.length < 1000000000000) : ∀ (d i : Nat), i + d = l.length → Ev (fun k => odds_Right.l0 k l l (l.length : Int) (i : Int)) (if rightFrom (if i = 0 then none else l[i - 1]?) (l.drop i) then 0 else 1) := by
 intro d
 induction d with
 | zero =>
  intro i h
  refine Ev.succ ?_
  simp only [odds_Right.l0]
  have e : l.drop i = [] := List.drop_eq_nil_of_le (by omega)
  rw [e]
  simp only [rightFrom, if_true]
  exact Ev.neg (by omega) (Ev.now _)
 | succ d ih =>
  intro i h
  have hi : i < l.length := by omega
  refine Ev.succ ?_
  simp only [odds_Right.l0]
  have e : l.drop i = l[i] :: l.drop (i + 1) := List.drop_eq_getElem_cons hi
  have er : rd_T71 l (i : Int) = l[i] := by unfold rd_T71; simp [hi]
  have hw : wrap64 ((i : Int) + 1) = ((i + 1 : Nat) : Int) := by rw [wrap64_of (by omega) (by omega)]; omega
  have hih := ih (i + 1) (by omega)
  rw [e]
  generalize hx : l[i] = x at er ⊢
  have hprev : l[i + 1 - 1]? = some x := by simp [hi, hx]
  rw [hprev] at hih
  simp only [Nat.add_eq_zero_iff, Nat.one_ne_zero, and_false, if_false] at hih
  simp only [er, hw]
  refine Ev.pos (by omega) (Ev.pos (by omega) (Ev.pos (by omega) ?_))
  have bad : ∀ p, okAt p x = false → (if rightFrom p (x :: l.drop (i + 1)) = true then (0 : Int) else 1) = 1 := by
   intro p hp
   simp [rightFrom, hp]
  by_cases c1 : x.f0 < 1
  ·refine Ev.pos c1 ?_
   rw [bad _ (by unfold okAt; simp; omega)]
   exact Ev.now _
  refine Ev.neg c1 ?_
  by_cases c2 : x.f0 > 14
  ·refine Ev.pos c2 ?_
   rw [bad _ (by unfold okAt; simp; omega)]
   exact Ev.now _
  refine Ev.neg c2 ?_
  by_cases c3 : mn x.f1 x.f2 < 0
  ·refine Ev.pos c3 ?_
   rw [bad _ (by unfold okAt; unfold mn at c3; simp; split at c3 <;> omega)]
   exact Ev.now _
  refine Ev.neg c3 ?_
  by_cases c4 : mx x.f1 x.f2 > 1073741824
  ·refine Ev.pos c4 ?_
   rw [bad _ (by unfold okAt; unfold mx at c4; simp; split at c4 <;> omega)]
   exact Ev.now _
  refine Ev.neg c4 ?_
  have hok : okAt none x = true := by
   unfold okAt
   unfold mn at c3
   unfold mx at c4
   simp
   split at c3 <;> split at c4 <;> omega
  by_cases c5 : i = 0
  ·subst c5
   refine Ev.neg (by simp) ?_
   simpa [rightFrom, hok] using hih
  ·refine Ev.pos (by omega) ?_
   have hp : ((i : Int) - 1) = ((i - 1 : Nat) : Int) := by omega
   have hw2 : wrap64 ((i : Int) - 1) = ((i - 1 : Nat) : Int) := by rw [wrap64_of (by omega) (by omega)]; omega
   rw [hw2]
   have hj : i - 1 < l.length := by omega
   have er2 : rd_T71 l ((i - 1 : Nat) : Int) = l[i - 1] := by unfold rd_T71; simp [hj]
   rw [er2]
   refine Ev.pos (by omega) (Ev.pos (by omega) ?_)
   have hq : l[i - 1]? = some l[i - 1] := by simp [hj]
   simp only [c5, if_false]
   rw [hq]
   generalize l[i - 1] = q
   by_cases c6 : q.f0 ≥ x.f0
   ·refine Ev.pos c6 ?_
    rw [bad _ (by unfold okAt; simp; omega)]
    exact Ev.now _
   ·refine Ev.neg c6 ?_
    have hok2 : okAt (some q) x = true := by
     unfold okAt at hok ⊢
     simp at hok ⊢
     omega
    simpa [rightFrom, hok2] using hih
theorem ev_Right (l : List S71) (hl : l.length < 1000000000000) : Ev (fun k => odds_Right.f k l) (if rightB l then 0 else 1) := by
 have := right_l0 l hl l.length 0 (by omega)
 rw [List.drop_zero] at this
 exact this
theorem mergeL_length : ∀ (n : Nat) (a b : List S71), (mergeL n a b).length ≤ n := by
 intro n
 induction n with
 | zero => intro a b; simp [mergeL]
 | succ n ih =>
  intro a b
  cases a <;> cases b <;> simp only [mergeL]
  ·simp
  ·have := ih [] ‹_›; simp; omega
  ·have := ih ‹_› []; simp; omega
  ·split
   ·simp; exact ih _ _
   ·split
    ·simp; exact ih _ _
    ·simp; exact ih _ _
def joinL (a b : List S71) : List S71 := mergeL (a.length + b.length) a b
def joinR (a b : List S71) : List S71 × Int := if rightB (joinL a b) then (joinL a b, 0) else ([], 2)
theorem ev_Join (a b : List S71) (h : a.length + b.length < 1000000000000) : Ev (fun k => odds_Join.f k a b) (joinR a b) := by
 unfold odds_Join.f
 have h1 : Ev (fun k => api_Answered.f k a b) (joinL a b) := by
  have := merge_l0 (a.length + b.length) a b [] (Nat.le_refl _) (by simp; omega)
  simpa [api_Answered.f, joinL] using this
 refine Ev.bind h1 ?_
 have h2 := mergeL_length (a.length + b.length) a b
 refine Ev.bind (ev_Right _ (by unfold joinL; omega)) ?_
 unfold joinR
 cases rightB (joinL a b) <;> simp <;> exact Ev.now _
def learnR (l : List S71) (k : Int) (right : Bool) : List S71 × Int := if k < 1 ∨ 14 < k then ([], 1) else joinR l [if right then ⟨k, 1, 0⟩ else ⟨k, 0, 1⟩]
theorem ev_Learn (l : List S71) (k : Int) (right : Bool) (h : l.length < 100000000000) : Ev (fun n => odds_Learn.f n l k right) (learnR l k right) := by
 unfold odds_Learn.f
 refine Ev.ite (fun c => ?_) (fun c => ?_)
 ·refine Ev.succ ?_
  simp only [odds_Learn.j0]
  unfold learnR
  rw [if_pos (Or.inl c)]
  exact Ev.pos trivial (Ev.now _)
 ·refine Ev.succ ?_
  simp only [odds_Learn.j0]
  unfold learnR
  by_cases c2 : k > 14
  ·rw [if_pos (Or.inr c2)]
   exact Ev.pos (by simpa using c2) (Ev.now _)
  ·rw [if_neg (by omega)]
   refine Ev.neg (by simpa using c2) ?_
   cases right
   ·refine Ev.neg (by simp) ?_
    exact Ev.bind (ev_Join _ _ (by simp; omega)) (Ev.now _)
   ·refine Ev.pos rfl ?_
    exact Ev.bind (ev_Join _ _ (by simp; omega)) (Ev.now _)
end Go.Proofs.Ytohnkcmbogcfhaa.R
namespace Go.Proofs.Ytohnkcmbogcfhaa.R
open Go.RowKit Go.Proofs.Ytohnkcmbogcfhaa.P Go.Proofs.YtohnkcmbogcfhaaW.PrintWords Go.Proofs.YtohnkcmbogcfhaaW.PrintLast Go.Proofs.YtohnkcmbogcfhaaW.PrintMore
def Sorted (l : List S71) : Prop := l.Pairwise (fun x y => x.f0 < y.f0)
/-- An element of a book, but for the greatest count. -/
def okx (x : S71) : Prop := 1 ≤ x.f0 ∧ x.f0 ≤ 14 ∧ 0 ≤ x.f1 ∧ 0 ≤ x.f2
def small (x : S71) : Prop := x.f1 ≤ 1073741824 ∧ x.f2 ≤ 1073741824
def Pre (l : List S71) : Prop := Sorted l ∧ ∀ x ∈ l, okx x
theorem okAt_iff (p : Option S71) (x : S71) : okAt p x = true ↔ okx x ∧ small x ∧ ∀ q, p = some q → q.f0 < x.f0 := by
 unfold okAt okx small
 cases p with
 | none => simp; omega
 | some q => simp; omega
theorem rightFrom_iff : ∀ (l : List S71) (p : Option S71), rightFrom p l = true ↔ Sorted l ∧ (∀ x ∈ l, okx x ∧ small x) ∧ ∀ q, p = some q → ∀ x ∈ l, q.f0 < x.f0 := by
 intro l
 induction l with
 | nil => intro p; simp [rightFrom, Sorted]
 | cons x l ih =>
  intro p
  simp only [rightFrom, Bool.and_eq_true, okAt_iff, ih]
  unfold Sorted
  simp only [List.pairwise_cons, List.mem_cons, forall_eq_or_imp]
  constructor
  ·rintro ⟨⟨h1, h2, h3⟩, h4, h5, h6⟩
   exact ⟨⟨fun y hy => h6 x rfl y hy, h4⟩, ⟨⟨h1, h2⟩, h5⟩, fun q hq => ⟨h3 q hq, fun y hy => Int.lt_trans (h3 q hq) (h6 x rfl y hy)⟩⟩
  ·rintro ⟨⟨h1, h2⟩, ⟨⟨h3, h4⟩, h5⟩, h6⟩
   exact ⟨⟨h3, h4, fun q hq => (h6 q hq).1⟩, h2, h5, fun q hq y hy => by cases hq; exact h1 y hy⟩
theorem rightB_iff (l : List S71) : rightB l = true ↔ Pre l ∧ ∀ x ∈ l, small x := by
 unfold rightB Pre
 rw [rightFrom_iff]
 simp only [reduceCtorEq, false_implies, implies_true, and_true]
 constructor
 ·rintro ⟨h1, h2⟩
  exact ⟨⟨h1, fun x hx => (h2 x hx).1⟩, fun x hx => (h2 x hx).2⟩
 ·rintro ⟨⟨h1, h2⟩, h3⟩
  exact ⟨h1, fun x hx => ⟨h2 x hx, h3 x hx⟩⟩
/-- The counts of a kind. -/
def look (l : List S71) (k : Int) : S71 := (l.find? (fun x => x.f0 == k)).getD ⟨k, 0, 0⟩
def has (l : List S71) (k : Int) : Bool := l.any (fun x => x.f0 == k)
theorem look_nil (k : Int) : look [] k = ⟨k, 0, 0⟩ := rfl
theorem look_cons (x : S71) (l : List S71) (k : Int) : look (x :: l) k = if x.f0 = k then x else look l k := by
 unfold look
 by_cases h : x.f0 = k <;> simp [h]
theorem has_cons (x : S71) (l : List S71) (k : Int) : has (x :: l) k = (x.f0 == k || has l k) := by simp [has]
theorem look_f0 (l : List S71) (k : Int) : (look l k).f0 = k := by
 induction l with
 | nil => rfl
 | cons x l ih =>
  rw [look_cons]
  split
  ·assumption
  ·exact ih
theorem look_not (l : List S71) (k : Int) (h : has l k = false) : look l k = ⟨k, 0, 0⟩ := by
 induction l with
 | nil => rfl
 | cons x l ih =>
  rw [has_cons, Bool.or_eq_false_iff] at h
  rw [look_cons, if_neg (by simpa using h.1), ih h.2]
theorem has_iff (l : List S71) (k : Int) : has l k = true ↔ ∃ x ∈ l, x.f0 = k := by simp [has]
theorem look_mem (l : List S71) (k : Int) (h : has l k = true) : look l k ∈ l := by
 induction l with
 | nil => simp [has] at h
 | cons x l ih =>
  rw [look_cons]
  split
  ·simp
  ·rename_i hne
   rw [has_cons] at h
   have : (x.f0 == k) = false := by simpa using hne
   rw [this, Bool.false_or] at h
   exact List.mem_cons_of_mem _ (ih h)
theorem look_of (l : List S71) (hs : Sorted l) (x : S71) (hx : x ∈ l) : look l x.f0 = x := by
 induction l with
 | nil => simp at hx
 | cons y l ih =>
  unfold Sorted at hs ih
  rw [List.pairwise_cons] at hs
  rw [look_cons]
  rcases List.mem_cons.1 hx with rfl | hx
  ·simp
  ·have := hs.1 x hx
   rw [if_neg (by omega)]
   exact ih hs.2 hx
theorem look_nn (l : List S71) (h : ∀ x ∈ l, okx x) (k : Int) : 0 ≤ (look l k).f1 ∧ 0 ≤ (look l k).f2 := by
 cases hk : has l k with
 | true => have := h _ (look_mem l k hk); unfold okx at this; omega
 | false => rw [look_not l k hk]; simp
theorem look_small (l : List S71) (h : ∀ x ∈ l, small x) (k : Int) : small (look l k) := by
 cases hk : has l k with
 | true => exact h _ (look_mem l k hk)
 | false => rw [look_not l k hk]; simp [small]
/-- Two books in order that hold the same are one. -/
theorem sorted_ext : ∀ (a b : List S71), Sorted a → Sorted b → (∀ k, has a k = has b k) → (∀ k, look a k = look b k) → a = b := by
 intro a
 induction a with
 | nil =>
  intro b _ _ hh _
  cases b with
  | nil => rfl
  | cons y b => have := hh y.f0; simp [has] at this
 | cons x a ih =>
  intro b ha hb hh hl
  cases b with
  | nil => have := hh x.f0; simp [has] at this
  | cons y b =>
   have ha' := ha
   have hb' := hb
   unfold Sorted at ha hb
   rw [List.pairwise_cons] at ha hb
   have hax : ∀ z ∈ a, x.f0 < z.f0 := ha.1
   have hby : ∀ z ∈ b, y.f0 < z.f0 := hb.1
   have h1 : has (y :: b) x.f0 = true := by rw [← hh]; simp [has]
   have h2 : has (x :: a) y.f0 = true := by rw [hh]; simp [has]
   have hxy : x.f0 = y.f0 := by
    obtain ⟨z, hz, hze⟩ := (has_iff _ _).1 h1
    obtain ⟨z', hz', hze'⟩ := (has_iff _ _).1 h2
    rcases List.mem_cons.1 hz with rfl | hz
    ·exact hze.symm
    ·rcases List.mem_cons.1 hz' with rfl | hz'
     ·exact hze'
     ·have := hby z hz; have := hax z' hz'; omega
   have hxe : x = y := by
    have := hl x.f0
    rw [look_cons, look_cons, if_pos rfl, if_pos hxy.symm] at this
    exact this
   subst hxe
   have no : ∀ (c : List S71), (∀ z ∈ c, x.f0 < z.f0) → has c x.f0 = false := by
    intro c hc
    cases hcc : has c x.f0 with
    | false => rfl
    | true => obtain ⟨z, hz, hze⟩ := (has_iff _ _).1 hcc; have := hc z hz; omega
   rw [ih b ha.2 hb.2 (fun k => ?_) (fun k => ?_)]
   ·by_cases hk : x.f0 = k
    ·subst hk; rw [no a hax, no b hby]
    ·have := hh k; rw [has_cons, has_cons] at this; have e : (x.f0 == k) = false := by simpa using hk
     simpa [e] using this
   ·by_cases hk : x.f0 = k
    ·subst hk; rw [look_not a _ (no a hax), look_not b _ (no b hby)]
    ·have := hl k; rw [look_cons, look_cons, if_neg hk, if_neg hk] at this; exact this
/-- What joining gives, kind by kind. -/
theorem merge_spec : ∀ (n : Nat) (a b : List S71), a.length + b.length ≤ n → Sorted a → Sorted b → (∀ x ∈ a, okx x ∧ small x) → (∀ x ∈ b, okx x ∧ small x) →
  Pre (mergeL n a b) ∧ (∀ k, has (mergeL n a b) k = (has a k || has b k)) ∧ (∀ k, look (mergeL n a b) k = ⟨k, (look a k).f1 + (look b k).f1, (look a k).f2 + (look b k).f2⟩) := by
 intro n
 induction n with
 | zero =>
  intro a b h ha hb _ _
  obtain rfl : a = [] := List.length_eq_zero_iff.1 (by omega)
  obtain rfl : b = [] := List.length_eq_zero_iff.1 (by omega)
  simp [mergeL, Pre, Sorted, has, look_nil]
 | succ n ih =>
  intro a b h ha hb oa ob
  cases a with
  | nil =>
   cases b with
   | nil => simp [mergeL, Pre, Sorted, has, look_nil]
   | cons y b =>
    unfold Sorted at hb
    rw [List.pairwise_cons] at hb
    obtain ⟨⟨r1, r2⟩, r3, r4⟩ := ih [] b (by simp at h ⊢; omega) ha hb.2 (by simp) (fun x hx => ob x (by simp [hx]))
    simp only [mergeL]
    have hlt : ∀ z ∈ mergeL n [] b, y.f0 < z.f0 := by
     intro z hz
     have : has (mergeL n [] b) z.f0 = true := (has_iff _ _).2 ⟨z, hz, rfl⟩
     rw [r3] at this
     simp [has] at this
     obtain ⟨w, hw, hwe⟩ := this
     have := hb.1 w hw
     omega
    refine ⟨⟨?_, ?_⟩, ?_, ?_⟩
    ·unfold Sorted; rw [List.pairwise_cons]; exact ⟨hlt, r1⟩
    ·intro x hx
     rcases List.mem_cons.1 hx with rfl | hx
     ·exact (ob _ (by simp)).1
     ·exact r2 x hx
    ·intro k; rw [has_cons, has_cons, r3]; simp [has]
    ·intro k
     rw [look_cons, look_cons, r4, look_nil]
     split
     ·rename_i e; subst e; simp
     ·rfl
  | cons x a =>
   unfold Sorted at ha
   rw [List.pairwise_cons] at ha
   cases b with
   | nil =>
    obtain ⟨⟨r1, r2⟩, r3, r4⟩ := ih a [] (by simp at h ⊢; omega) ha.2 hb (fun x hx => oa x (by simp [hx])) (by simp)
    simp only [mergeL]
    have hlt : ∀ z ∈ mergeL n a [], x.f0 < z.f0 := by
     intro z hz
     have : has (mergeL n a []) z.f0 = true := (has_iff _ _).2 ⟨z, hz, rfl⟩
     rw [r3] at this
     simp [has] at this
     obtain ⟨w, hw, hwe⟩ := this
     have := ha.1 w hw
     omega
    refine ⟨⟨?_, ?_⟩, ?_, ?_⟩
    ·unfold Sorted; rw [List.pairwise_cons]; exact ⟨hlt, r1⟩
    ·intro y hy
     rcases List.mem_cons.1 hy with rfl | hy
     ·exact (oa _ (by simp)).1
     ·exact r2 y hy
    ·intro k; rw [has_cons, has_cons, r3, Bool.or_assoc]
    ·intro k
     rw [look_cons, look_cons, r4, look_nil]
     split
     ·rename_i e; subst e; simp
     ·rfl
   | cons y b =>
    have hb' := hb
    unfold Sorted at hb
    rw [List.pairwise_cons] at hb
    simp only [mergeL]
    have oxx := oa x (by simp)
    have oyy := ob y (by simp)
    by_cases hxy : x.f0 < y.f0
    ·rw [if_pos hxy]
     obtain ⟨⟨r1, r2⟩, r3, r4⟩ := ih a (y :: b) (by simp at h ⊢; omega) ha.2 hb' (fun z hz => oa z (by simp [hz])) ob
     have hlt : ∀ z ∈ mergeL n a (y :: b), x.f0 < z.f0 := by
      intro z hz
      have : has (mergeL n a (y :: b)) z.f0 = true := (has_iff _ _).2 ⟨z, hz, rfl⟩
      rw [r3, Bool.or_eq_true] at this
      rcases this with hh | hh
      ·obtain ⟨w, hw, hwe⟩ := (has_iff _ _).1 hh; have := ha.1 w hw; omega
      ·obtain ⟨w, hw, hwe⟩ := (has_iff _ _).1 hh
       rcases List.mem_cons.1 hw with rfl | hw
       ·omega
       ·have := hb.1 w hw; omega
     have nb : ∀ k, x.f0 = k → has (y :: b) k = false := by
      intro k hk
      cases hc : has (y :: b) k with
      | false => rfl
      | true =>
       obtain ⟨w, hw, hwe⟩ := (has_iff _ _).1 hc
       rcases List.mem_cons.1 hw with rfl | hw
       ·omega
       ·have := hb.1 w hw; omega
     refine ⟨⟨?_, ?_⟩, ?_, ?_⟩
     ·unfold Sorted; rw [List.pairwise_cons]; exact ⟨hlt, r1⟩
     ·intro z hz
      rcases List.mem_cons.1 hz with rfl | hz
      ·exact oxx.1
      ·exact r2 z hz
     ·intro k; rw [has_cons, has_cons, r3, Bool.or_assoc]
     ·intro k
      rw [look_cons, look_cons (x := x), r4]
      split
      ·rename_i e
       rw [look_not _ k (nb k e)]; subst e; simp
      ·rfl
    ·rw [if_neg hxy]
     by_cases hyx : y.f0 < x.f0
     ·rw [if_pos hyx]
      have ha' : Sorted (x :: a) := by unfold Sorted; rw [List.pairwise_cons]; exact ha
      obtain ⟨⟨r1, r2⟩, r3, r4⟩ := ih (x :: a) b (by simp at h ⊢; omega) ha' hb.2 oa (fun z hz => ob z (by simp [hz]))
      have hlt : ∀ z ∈ mergeL n (x :: a) b, y.f0 < z.f0 := by
       intro z hz
       have : has (mergeL n (x :: a) b) z.f0 = true := (has_iff _ _).2 ⟨z, hz, rfl⟩
       rw [r3, Bool.or_eq_true] at this
       rcases this with hh | hh
       ·obtain ⟨w, hw, hwe⟩ := (has_iff _ _).1 hh
        rcases List.mem_cons.1 hw with rfl | hw
        ·omega
        ·have := ha.1 w hw; omega
       ·obtain ⟨w, hw, hwe⟩ := (has_iff _ _).1 hh; have := hb.1 w hw; omega
      have na : ∀ k, y.f0 = k → has (x :: a) k = false := by
       intro k hk
       cases hc : has (x :: a) k with
       | false => rfl
       | true =>
        obtain ⟨w, hw, hwe⟩ := (has_iff _ _).1 hc
        rcases List.mem_cons.1 hw with rfl | hw
        ·omega
        ·have := ha.1 w hw; omega
      refine ⟨⟨?_, ?_⟩, ?_, ?_⟩
      ·unfold Sorted; rw [List.pairwise_cons]; exact ⟨hlt, r1⟩
      ·intro z hz
       rcases List.mem_cons.1 hz with rfl | hz
       ·exact oyy.1
       ·exact r2 z hz
      ·intro k; rw [has_cons, r3, has_cons y b, ← Bool.or_assoc, ← Bool.or_assoc, Bool.or_comm (y.f0 == k)]
      ·intro k
       rw [look_cons, look_cons (x := y), r4]
       split
       ·rename_i e
        rw [look_not _ k (na k e)]; subst e; simp
       ·rfl
     ·rw [if_neg hyx]
      obtain ⟨⟨r1, r2⟩, r3, r4⟩ := ih a b (by simp at h ⊢; omega) ha.2 hb.2 (fun z hz => oa z (by simp [hz])) (fun z hz => ob z (by simp [hz]))
      have exy : x.f0 = y.f0 := by omega
      unfold okx small at oxx oyy
      have w1 : wrap64 (x.f1 + y.f1) = x.f1 + y.f1 := wrap64_of (by omega) (by omega)
      have w2 : wrap64 (x.f2 + y.f2) = x.f2 + y.f2 := wrap64_of (by omega) (by omega)
      rw [w1, w2]
      have hlt : ∀ z ∈ mergeL n a b, x.f0 < z.f0 := by
       intro z hz
       have : has (mergeL n a b) z.f0 = true := (has_iff _ _).2 ⟨z, hz, rfl⟩
       rw [r3, Bool.or_eq_true] at this
       rcases this with hh | hh
       ·obtain ⟨w, hw, hwe⟩ := (has_iff _ _).1 hh; have := ha.1 w hw; omega
       ·obtain ⟨w, hw, hwe⟩ := (has_iff _ _).1 hh; have := hb.1 w hw; omega
      refine ⟨⟨?_, ?_⟩, ?_, ?_⟩
      ·unfold Sorted; rw [List.pairwise_cons]; exact ⟨hlt, r1⟩
      ·intro z hz
       rcases List.mem_cons.1 hz with rfl | hz
       ·unfold okx; simp; omega
       ·exact r2 z hz
      ·intro k
       rw [has_cons, r3, has_cons, has_cons, exy]
       cases (y.f0 == k) <;> simp
      ·intro k
       rw [look_cons, look_cons (x := x), look_cons (x := y), r4]
       simp only
       by_cases e : x.f0 = k
       ·rw [if_pos e, if_pos e, if_pos (by omega)]; subst e; rfl
       ·rw [if_neg e, if_neg e, if_neg (by omega)]
def Book (l : List S71) : Prop := Pre l ∧ ∀ x ∈ l, small x
theorem book_iff (l : List S71) : rightB l = true ↔ Book l := rightB_iff l
theorem join_spec (a b : List S71) (ha : Book a) (hb : Book b) :
  Pre (joinL a b) ∧ (∀ k, has (joinL a b) k = (has a k || has b k)) ∧ (∀ k, look (joinL a b) k = ⟨k, (look a k).f1 + (look b k).f1, (look a k).f2 + (look b k).f2⟩) :=
 merge_spec _ a b (Nat.le_refl _) ha.1.1 hb.1.1 (fun x hx => ⟨ha.1.2 x hx, ha.2 x hx⟩) (fun x hx => ⟨hb.1.2 x hx, hb.2 x hx⟩)
/-- Whether a book's counts are small, said kind by kind. -/
theorem small_all (l : List S71) (hs : Sorted l) : (∀ x ∈ l, small x) ↔ ∀ k, small (look l k) := by
 constructor
 ·exact fun h k => look_small l h k
 ·intro h x hx
  have := h x.f0
  rwa [look_of l hs x hx] at this
theorem sorted_length (l : List S71) (h : Pre l) : l.length ≤ 14 := by
 have key : ∀ (l : List S71) (m : Int), Sorted l → (∀ x ∈ l, m ≤ x.f0 ∧ x.f0 ≤ 14) → m ≤ 15 → (l.length : Int) ≤ 15 - m := by
  intro l
  induction l with
  | nil => intro m _ _ hm; simp; omega
  | cons x l ih =>
   intro m hs hx hm
   unfold Sorted at hs
   rw [List.pairwise_cons] at hs
   have h0 := hx x (by simp)
   have := ih (x.f0 + 1) hs.2 (fun y hy => ⟨by have := hs.1 y hy; omega, (hx y (by simp [hy])).2⟩) (by omega)
   simp only [List.length_cons]
   omega
 have := key l 1 h.1 (fun x hx => by have := h.2 x hx; unfold okx at this; omega) (by omega)
 omega
end Go.Proofs.Ytohnkcmbogcfhaa.R
namespace Go.Proofs.Ytohnkcmbogcfhaa.R
open Go.RowKit Go.Proofs.Ytohnkcmbogcfhaa.P Go.Proofs.YtohnkcmbogcfhaaW.PrintWords Go.Proofs.YtohnkcmbogcfhaaW.PrintLast Go.Proofs.YtohnkcmbogcfhaaW.PrintMore
/-- A number of 128 bits: its upper and its lower half. -/
def hi (m : Nat) : Int := ((m / 18446744073709551616 : Nat) : Int)
def lo (m : Nat) : Int := ((m % 18446744073709551616 : Nat) : Int)
end Go.Proofs.Ytohnkcmbogcfhaa.R
namespace Go.Proofs.Ytohnkcmbogcfhaa.R
open Go.RowKit Go.Proofs.Ytohnkcmbogcfhaa.P Go.Proofs.YtohnkcmbogcfhaaW.PrintWords Go.Proofs.YtohnkcmbogcfhaaW.PrintLast Go.Proofs.YtohnkcmbogcfhaaW.PrintMore
/-- What a description's numbers are. -/
def raw (x : S96) : Prop := (0 ≤ x.f0 ∧ x.f0 ≤ 255) ∧ (0 ≤ x.f1 ∧ x.f1 ≤ 255) ∧ (0 ≤ x.f2 ∧ x.f2 ≤ 65535) ∧ 0 ≤ x.f3 ∧ x.f3 ≤ 65535
theorem wf_u8 {n : Int} (h : (Lit.int .u8 n).wf = true) : 0 ≤ n ∧ n ≤ 255 := by
 simp only [Lit.wf, IntKind.min, IntKind.max, IntKind.signed, IntKind.bits, Bool.and_eq_true] at h
 simpa using h
theorem wf_u16 {n : Int} (h : (Lit.int .u16 n).wf = true) : 0 ≤ n ∧ n ≤ 65535 := by
 simp only [Lit.wf, IntKind.min, IntKind.max, IntKind.signed, IntKind.bits, Bool.and_eq_true] at h
 simpa using h
theorem raw_of {x : S96} (h : (Lit.int .u8 x.f0).wf = true ∧ (Lit.int .u8 x.f1).wf = true ∧ (Lit.int .u16 x.f2).wf = true ∧ (Lit.int .u16 x.f3).wf = true) : raw x :=
 ⟨wf_u8 h.1, wf_u8 h.2.1, wf_u16 h.2.2.1, wf_u16 h.2.2.2⟩
def mkB (x : S96) (k : Int) : S71 := ⟨k, if x.f1 % 8 = 7 then 1073741824 - x.f2 % 3 else x.f2, x.f3⟩
def pickB (l : List S96) (k : Int) : List S71 := match l.find? (fun x => 1 + x.f0 % 14 == k) with
 | some x => [mkB x k]
 | none => []
def madeFrom (l : List S96) : Nat → Int → List S71
 | 0, _ => []
 | d + 1, k => pickB l k ++ madeFrom l d (k + 1)
def madeL (l : List S96) : List S71 := madeFrom l 14 1
theorem made_l1 (l : List S96) (hl : l.length < 1000000) (hr : ∀ x ∈ l, raw x) (k : Int) (hk : 1 ≤ k ∧ k ≤ 14) (acc rest : List S71) (ha : acc.length < 1000000)
  (hnext : ∀ acc', acc'.length ≤ acc.length + 1 → Ev (fun n => paroleref37_Made.l0 n l acc' (k + 1)) (acc' ++ rest)) :
  ∀ (d i : Nat), i + d = l.length → Ev (fun n => paroleref37_Made.l1 n l acc k (i : Int)) (acc ++ (pickB (l.drop i) k ++ rest)) := by
 have hk1 : wrap64 (k + 1) = k + 1 := wrap64_of (by omega) (by omega)
 intro d
 induction d with
 | zero =>
  intro i h
  refine Ev.succ ?_
  simp only [paroleref37_Made.l1]
  refine Ev.neg (by omega) ?_
  rw [hk1, List.drop_eq_nil_of_le (by omega)]
  simpa [pickB] using hnext acc (by omega)
 | succ d ih =>
  intro i h
  have hi : i < l.length := by omega
  refine Ev.succ ?_
  simp only [paroleref37_Made.l1]
  have e : l.drop i = l[i] :: l.drop (i + 1) := List.drop_eq_getElem_cons hi
  have er : rd_T96 l (i : Int) = l[i] := by unfold rd_T96; simp [hi]
  have hw : wrap64 ((i : Int) + 1) = ((i + 1 : Nat) : Int) := by rw [wrap64_of (by omega) (by omega)]; omega
  have hx := hr l[i] (List.getElem_mem hi)
  have hih := ih (i + 1) (by omega)
  rw [e, er, hw, hk1]
  generalize l[i] = x at hx ⊢
  unfold raw at hx
  have m1 : x.f0.tmod 14 = x.f0 % 14 := Int.tmod_eq_emod_of_nonneg hx.1.1
  have m2 : x.f1.tmod 8 = x.f1 % 8 := Int.tmod_eq_emod_of_nonneg hx.2.1.1
  have m3 : x.f2.tmod 3 = x.f2 % 3 := Int.tmod_eq_emod_of_nonneg hx.2.2.1.1
  have w1 : wrap64 (1 + wrap64 (x.f0 % 14)) = 1 + x.f0 % 14 := by rw [wrap64_of (n := x.f0 % 14) (by omega) (by omega), wrap64_of (by omega) (by omega)]
  have w3 : wrap64 (1073741824 - wrap64 (x.f2 % 3)) = 1073741824 - x.f2 % 3 := by rw [wrap64_of (n := x.f2 % 3) (by omega) (by omega), wrap64_of (by omega) (by omega)]
  have w4 : wrap64 x.f3 = x.f3 := wrap64_of (by omega) (by omega)
  have w5 : wrap64 x.f2 = x.f2 := wrap64_of (by omega) (by omega)
  rw [m1, m2, m3, w1, w3, w4, w5]
  refine Ev.pos (by omega) (Ev.pos (by omega) ?_)
  by_cases c : 1 + x.f0 % 14 = k
  ·refine Ev.pos c ?_
   have ep : pickB (x :: l.drop (i + 1)) k = [mkB x k] := by simp [pickB, c]
   rw [ep]
   unfold mkB
   have go : ∀ y : S71, Ev (fun n => paroleref37_Made.l0 n l (acc ++ [y]) (k + 1)) (acc ++ ([y] ++ rest)) := by
    intro y
    have := hnext (acc ++ [y]) (by simp)
    simpa using this
   by_cases c8 : x.f1 % 8 = 7
   ·rw [if_pos c8]
    exact Ev.pos c8 (Ev.pos (by omega) (go _))
   ·rw [if_neg c8]
    exact Ev.neg c8 (Ev.pos (by omega) (go _))
  ·refine Ev.neg c ?_
   have ep : pickB (x :: l.drop (i + 1)) k = pickB (l.drop (i + 1)) k := by simp [pickB, c]
   rw [ep]
   exact hih
theorem made_l0 (l : List S96) (hl : l.length < 1000000) (hr : ∀ x ∈ l, raw x) : ∀ (d : Nat) (k : Int) (acc : List S71), k + d = 15 → 1 ≤ k → acc.length + d < 100 → Ev (fun n => paroleref37_Made.l0 n l acc k) (acc ++ madeFrom l d k) := by
 intro d
 induction d with
 | zero =>
  intro k acc h1 h2 h3
  refine Ev.succ ?_
  simp only [paroleref37_Made.l0, madeFrom, List.append_nil]
  exact Ev.neg (by omega) (Ev.now _)
 | succ d ih =>
  intro k acc h1 h2 h3
  refine Ev.succ ?_
  simp only [paroleref37_Made.l0, madeFrom]
  refine Ev.pos (by omega) ?_
  have := made_l1 l hl hr k ⟨h2, by omega⟩ acc (madeFrom l d (k + 1)) (by omega) (fun acc' ha' => ih (k + 1) acc' (by omega) (by omega) (by omega)) l.length 0 (by omega)
  simpa using this
theorem ev_Made (l : List S96) (hl : l.length < 1000000) (hr : ∀ x ∈ l, raw x) : Ev (fun n => paroleref37_Made.f n l) (madeL l) := by
 have := made_l0 l hl hr 14 1 [] (by omega) (by omega) (by simp)
 simpa [paroleref37_Made.f, madeL] using this
theorem pickB_mem (l : List S96) (hr : ∀ x ∈ l, raw x) (k : Int) (y : S71) (hy : y ∈ pickB l k) : y.f0 = k ∧ 0 ≤ y.f1 ∧ 0 ≤ y.f2 ∧ small y := by
 unfold pickB at hy
 split at hy
 ·rename_i x hx
  have hm := hr x (List.mem_of_find?_eq_some hx)
  simp only [List.mem_singleton] at hy
  subst hy
  unfold raw at hm
  unfold mkB small
  refine ⟨rfl, ?_, ?_, ?_, ?_⟩
  ·simp only; split <;> omega
  ·simp only; omega
  ·simp only; split <;> omega
  ·simp only; omega
 ·simp at hy
theorem madeFrom_mem (l : List S96) (hr : ∀ x ∈ l, raw x) : ∀ (d : Nat) (k : Int) (y : S71), y ∈ madeFrom l d k → k ≤ y.f0 ∧ y.f0 < k + d ∧ 0 ≤ y.f1 ∧ 0 ≤ y.f2 ∧ small y := by
 intro d
 induction d with
 | zero => intro k y hy; simp [madeFrom] at hy
 | succ d ih =>
  intro k y hy
  simp only [madeFrom, List.mem_append] at hy
  rcases hy with hy | hy
  ·have := pickB_mem l hr k y hy
   exact ⟨by omega, by omega, this.2.1, this.2.2.1, this.2.2.2⟩
  ·have := ih (k + 1) y hy
   exact ⟨by omega, by omega, this.2.2.1, this.2.2.2.1, this.2.2.2.2⟩
theorem madeFrom_sorted (l : List S96) (hr : ∀ x ∈ l, raw x) : ∀ (d : Nat) (k : Int), Sorted (madeFrom l d k) := by
 intro d
 induction d with
 | zero => intro k; exact List.Pairwise.nil
 | succ d ih =>
  intro k
  unfold Sorted
  simp only [madeFrom]
  rw [List.pairwise_append]
  refine ⟨?_, ih (k + 1), ?_⟩
  ·unfold pickB; split <;> simp
  ·intro a ha b hb
   have h1 := pickB_mem l hr k a ha
   have h2 := madeFrom_mem l hr d (k + 1) b hb
   omega
theorem made_book (l : List S96) (hr : ∀ x ∈ l, raw x) : Book (madeL l) := by
 refine ⟨⟨madeFrom_sorted l hr 14 1, fun x hx => ?_⟩, fun x hx => ?_⟩
 ·have := madeFrom_mem l hr 14 1 x hx
  unfold okx
  omega
 ·exact (madeFrom_mem l hr 14 1 x hx).2.2.2.2
def cr (l : List S71) (k : Int) : Nat := (look l k).f1.toNat
def cw (l : List S71) (k : Int) : Nat := (look l k).f2.toNat
/-- One answer more. -/
def ans (k : Int) (right : Bool) : S71 := if right then ⟨k, 1, 0⟩ else ⟨k, 0, 1⟩
theorem ans_book (k : Int) (hk : 1 ≤ k ∧ k ≤ 14) (right : Bool) : Book [ans k right] := by
 refine ⟨⟨by simp [Sorted], ?_⟩, ?_⟩ <;> intro x hx <;> simp only [List.mem_singleton] at hx <;> subst hx <;> cases right <;> simp [okx, small, ans] <;> omega
theorem look_ans (k j : Int) (right : Bool) : look [ans k right] j = if k = j then ans k right else ⟨j, 0, 0⟩ := by
 rw [look_cons, look_nil]
 cases right <;> rfl
theorem learnR_of (l : List S71) (k : Int) (hk : 1 ≤ k ∧ k ≤ 14) (right : Bool) : learnR l k right = joinR l [ans k right] := by
 unfold learnR ans
 rw [if_neg (by omega)]
/-- Joined books: a book again, or too great. -/
theorem joinR_cases (a b : List S71) (ha : Book a) (hb : Book b) : (joinR a b = ([], 2) ∧ ¬ Book (joinL a b)) ∨ (joinR a b = (joinL a b, 0) ∧ Book (joinL a b)) := by
 unfold joinR
 cases h : rightB (joinL a b) with
 | true => exact .inr ⟨rfl, (book_iff _).1 h⟩
 | false => exact .inl ⟨rfl, fun hb => by rw [(book_iff _).2 hb] at h; cases h⟩
theorem join_cr (a b : List S71) (ha : Book a) (hb : Book b) (k : Int) : cr (joinL a b) k = cr a k + cr b k ∧ cw (joinL a b) k = cw a k + cw b k := by
 obtain ⟨_, _, h⟩ := join_spec a b ha hb
 have n1 := look_nn a ha.1.2 k
 have n2 := look_nn b hb.1.2 k
 unfold cr cw
 rw [h k]
 simp only
 omega
theorem cr_ans (k j : Int) (right : Bool) : cr [ans k right] j = (if k = j ∧ right = true then 1 else 0) ∧ cw [ans k right] j = (if k = j ∧ right = false then 1 else 0) := by
 unfold cr cw
 rw [look_ans]
 by_cases h : k = j <;> cases right <;> simp [h, ans]
end Go.Proofs.Ytohnkcmbogcfhaa.R
namespace Go.Proofs.Ytohnkcmbogcfhaa.R
open Go.RowKit Go.Proofs.Ytohnkcmbogcfhaa.P Go.Proofs.YtohnkcmbogcfhaaW.PrintWords Go.Proofs.YtohnkcmbogcfhaaW.PrintLast Go.Proofs.YtohnkcmbogcfhaaW.PrintMore
theorem wrap_succ (i n : Nat) (h : i < n) (hn : n < 1000000000000) : wrap64 ((i : Int) + 1) = ((i + 1 : Nat) : Int) := by rw [wrap64_of (by omega) (by omega)]; omega
theorem ref_look (l : List S71) (h : Book l) (k : Int) : (look l k).f1 = (cr l k : Int) ∧ (look l k).f2 = (cw l k : Int) := by
 have := look_nn l h.1.2 k
 unfold cr cw
 omega
theorem same_l0 (l : List S71) (hl : l.length < 1000000000000) : ∀ (d i : Nat), i + d = l.length → Ev (fun k => paroleref37_Same.l0 k l l (i : Int)) true := by
 intro d
 induction d with
 | zero =>
  intro i h
  refine Ev.succ ?_
  simp only [paroleref37_Same.l0]
  exact Ev.neg (by omega) (Ev.now _)
 | succ d ih =>
  intro i h
  have hi : i < l.length := by omega
  refine Ev.succ ?_
  simp only [paroleref37_Same.l0]
  rw [wrap_succ i _ hi hl]
  exact Ev.pos (by omega) (Ev.pos (by omega) (Ev.pos (by omega) (Ev.neg (by simp) (ih (i + 1) (by omega)))))
theorem ev_same (l : List S71) (e : Int) (hl : l.length < 1000000000000) : Ev (fun k => parolelaw37_same.f k l e l e) true := by
 unfold parolelaw37_same.f paroleref37_Same.f
 refine Ev.pos rfl (Ev.bind (g := fun k => if (l.length : Int) = (l.length : Int) then paroleref37_Same.l0 k l l 0 else some false) (a := true) ?_ (Ev.now _))
 exact Ev.pos rfl (same_l0 l hl l.length 0 (by omega))
end Go.Proofs.Ytohnkcmbogcfhaa.R

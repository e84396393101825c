/- FieldBounds: a bound is from 0 to 1, and not greater for more looks; if a promise were broken at this fraction of executions, so many looks would all see it kept with a probability of at most 1/20: for all numbers of looks of 16 bits. The plain law. -/
import Derived.Test.YtfdoncgljohndaacFieldBounds5
import Derived.OpenShut
import Derived.ShutString
import Derived.ChangeOld
import Derived.SizedLaws
import Derived.Deep.OwnRows
import Derived.Laws.Rows
import Derived.Test.YtfdoncgljohndaaRows
set_option linter.unusedVariables false
set_option linter.unusedSimpArgs false
namespace Go.Proofs.Ytfdoncgljohndaa.P
open Go.Proofs.YtfdoncgljohndaaH Go.RowKit Go.Proofs.YtfdoncgljohndaaW.PrintWords Go.Proofs.YtfdoncgljohndaaW.PrintLast Go.Proofs.YtfdoncgljohndaaW.PrintMore
attribute [local go_sem] max2_int min2_int max_two min_two max_three min_three max_four min_four   -- for this text's walks alone
attribute [local go_sem] Go.Proofs.YtfdoncgljohndaaH.cell_set_map
attribute [local go_sem high] eqA43
mutual
def parolelaw32_FieldBounds.j0 : Nat → Bool → Int → Bool → Int → Int → Int → Int → Int → Option (Bool)
 | 0, _, _, _, _, _, _, _, _ => none
 | k + 1, x5, x6, x60, x106000, x106001, x106002, x112000, x112001 => if x60 = true then (some false) else (if (x106000 == x112000 && (x106001 == x112001)) = true then (if x5 = true then (some (decide (x6 ≤ 19))) else (some false)) else ((rat_Sub.f k x112000 x112001 x106000 x106001).bind fun bt115 => (if bt115.2.2 = 0 then (parolelaw32_FieldBounds.l0 k x5 x6 1099511627776 0 bt115.1 bt115.2.1) else (some false))))
def parolelaw32_FieldBounds.l0 : Nat → Bool → Int → Int → Int → Int → Int → Option (Bool)
 | 0, _, _, _, _, _, _ => none
 | k + 1, x5, x6, x13, x14, x119000, x119001 => if x14 < x6 then (if x13 > 54975581388 then (if x119001 = 0 then (none) else (parolelaw32_FieldBounds.l0 k x5 x6 (wrap64 (Int.tdiv (wrap64 ((wrap64 ((wrap64 (x13 * x119000)) + x119001)) - 1)) x119001)) (wrap64 (x14 + 1)) x119000 x119001)) else (if x5 = true then (some (decide (x13 ≤ 54975581388))) else (some false))) else (if x5 = true then (some (decide (x13 ≤ 54975581388))) else (some false))
end
def parolelaw32_FieldBounds.f (k : Nat) (a0 : Int) (a1 : Int) : Option (Bool) := (parolelaw32_examples.f).bind fun t101 => (if t101 = true then ((parolelaw32_bound.f k 0 0 1099511627776 (wrap64 (a0)) 0 0).bind fun bt102 => ((parolelaw32_bound.f k 0 0 1099511627776 (wrap64 ((wrap64 (a0)) + (wrap64 (a1)))) 0 0).bind fun bt106 => (if bt102.2.2 = 0 then (if bt106.2.2 = 0 then ((rat_Cmp.f bt102.1 bt102.2.1 0 1).bind fun t112 => (if t112 ≤ 0 then (parolelaw32_FieldBounds.j0 k t101 (wrap64 (a0)) true bt102.1 bt102.2.1 bt102.2.2 1 1) else ((rat_Cmp.f bt102.1 bt102.2.1 1 1).bind fun t113 => (if t113 > 0 then (parolelaw32_FieldBounds.j0 k t101 (wrap64 (a0)) true bt102.1 bt102.2.1 bt102.2.2 1 1) else ((rat_Cmp.f bt106.1 bt106.2.1 bt102.1 bt102.2.1).bind fun t114 => (parolelaw32_FieldBounds.j0 k t101 (wrap64 (a0)) (decide (t114 > 0)) bt102.1 bt102.2.1 bt102.2.2 1 1)))))) else (parolelaw32_FieldBounds.j0 k t101 (wrap64 (a0)) true bt102.1 bt102.2.1 bt102.2.2 1 1)) else (parolelaw32_FieldBounds.j0 k t101 (wrap64 (a0)) true bt102.1 bt102.2.1 bt102.2.2 1 1)))) else (some false))
set_option maxHeartbeats 40000000 in
set_option maxRecDepth 100000 in
theorem parolelaw32_FieldBounds.calls (k : Nat) (a0 : Int) (a1 : Int) (r : Bool) (w : World) (hT : r = true) (h : parolelaw32_FieldBounds.f k a0 a1 = some r) :
  Calls Try.prog 8 #[.int .u16 a0, .int .u16 a1] w fun e w' => e = .returned (.bool r) ∧ Below w.heap.size w w' := by
 have hu40 := Try.underlying40; have hu45 := Try.underlying45; have hu43 := Try.underlying43; have HB := aM (Below.refl w.heap.size w); have HT := aM hT; clear hT
 have H : ((parolelaw32_examples.f).bind fun t101 => (if t101 = true then ((parolelaw32_bound.f k 0 0 1099511627776 (wrap64 (a0)) 0 0).bind fun bt102 => ((parolelaw32_bound.f k 0 0 1099511627776 (wrap64 ((wrap64 (a0)) + (wrap64 (a1)))) 0 0).bind fun bt106 => (if bt102.2.2 = 0 then (if bt106.2.2 = 0 then ((rat_Cmp.f bt102.1 bt102.2.1 0 1).bind fun t112 => (if t112 ≤ 0 then (parolelaw32_FieldBounds.j0 k t101 (wrap64 (a0)) true bt102.1 bt102.2.1 bt102.2.2 1 1) else ((rat_Cmp.f bt102.1 bt102.2.1 1 1).bind fun t113 => (if t113 > 0 then (parolelaw32_FieldBounds.j0 k t101 (wrap64 (a0)) true bt102.1 bt102.2.1 bt102.2.2 1 1) else ((rat_Cmp.f bt106.1 bt106.2.1 bt102.1 bt102.2.1).bind fun t114 => (parolelaw32_FieldBounds.j0 k t101 (wrap64 (a0)) (decide (t114 > 0)) bt102.1 bt102.2.1 bt102.2.2 1 1)))))) else (parolelaw32_FieldBounds.j0 k t101 (wrap64 (a0)) true bt102.1 bt102.2.1 bt102.2.2 1 1)) else (parolelaw32_FieldBounds.j0 k t101 (wrap64 (a0)) true bt102.1 bt102.2.1 bt102.2.2 1 1)))) else (some false))) = some r := h
 clear h; replace H := Option.bind_eq_some_iff.mp H
 obtain ⟨t101, A30, H⟩ := H
 replace H : (if t101 = true then ((parolelaw32_bound.f k 0 0 1099511627776 (wrap64 (a0)) 0 0).bind fun bt102 => ((parolelaw32_bound.f k 0 0 1099511627776 (wrap64 ((wrap64 (a0)) + (wrap64 (a1)))) 0 0).bind fun bt106 => (if bt102.2.2 = 0 then (if bt106.2.2 = 0 then ((rat_Cmp.f bt102.1 bt102.2.1 0 1).bind fun t112 => (if t112 ≤ 0 then (parolelaw32_FieldBounds.j0 k t101 (wrap64 (a0)) true bt102.1 bt102.2.1 bt102.2.2 1 1) else ((rat_Cmp.f bt102.1 bt102.2.1 1 1).bind fun t113 => (if t113 > 0 then (parolelaw32_FieldBounds.j0 k t101 (wrap64 (a0)) true bt102.1 bt102.2.1 bt102.2.2 1 1) else ((rat_Cmp.f bt106.1 bt106.2.1 bt102.1 bt102.2.1).bind fun t114 => (parolelaw32_FieldBounds.j0 k t101 (wrap64 (a0)) (decide (t114 > 0)) bt102.1 bt102.2.1 bt102.2.2 1 1)))))) else (parolelaw32_FieldBounds.j0 k t101 (wrap64 (a0)) true bt102.1 bt102.2.1 bt102.2.2 1 1)) else (parolelaw32_FieldBounds.j0 k t101 (wrap64 (a0)) true bt102.1 bt102.2.1 bt102.2.2 1 1)))) else (some false)) = some r := H
 have A3 := aM A30; clear A30
 by_cases c4 : t101 = true
 rotate_left
 ·replace c4 := Bool.eq_false_iff.mpr c4
  subst c4
  have H1 : (some false) = some r := by rw [if_neg (show ¬ (false = true) by decide)] at H; exact H
  clear H; have H := H1; clear H1
  exact absurd ((Option.some.inj H).trans HT.out) (by decide)
 subst c4
 have H1 : ((parolelaw32_bound.f k 0 0 1099511627776 (wrap64 (a0)) 0 0).bind fun bt102 => ((parolelaw32_bound.f k 0 0 1099511627776 (wrap64 ((wrap64 (a0)) + (wrap64 (a1)))) 0 0).bind fun bt106 => (if bt102.2.2 = 0 then (if bt106.2.2 = 0 then ((rat_Cmp.f bt102.1 bt102.2.1 0 1).bind fun t112 => (if t112 ≤ 0 then (parolelaw32_FieldBounds.j0 k true (wrap64 (a0)) true bt102.1 bt102.2.1 bt102.2.2 1 1) else ((rat_Cmp.f bt102.1 bt102.2.1 1 1).bind fun t113 => (if t113 > 0 then (parolelaw32_FieldBounds.j0 k true (wrap64 (a0)) true bt102.1 bt102.2.1 bt102.2.2 1 1) else ((rat_Cmp.f bt106.1 bt106.2.1 bt102.1 bt102.2.1).bind fun t114 => (parolelaw32_FieldBounds.j0 k true (wrap64 (a0)) (decide (t114 > 0)) bt102.1 bt102.2.1 bt102.2.2 1 1)))))) else (parolelaw32_FieldBounds.j0 k true (wrap64 (a0)) true bt102.1 bt102.2.1 bt102.2.2 1 1)) else (parolelaw32_FieldBounds.j0 k true (wrap64 (a0)) true bt102.1 bt102.2.1 bt102.2.2 1 1)))) = some r := by first | (rw [if_pos rfl] at H; exact H) | (rw [if_pos trivial] at H; exact H)
 clear H; have H := H1; clear H1; replace H := Option.bind_eq_some_iff.mp H
 obtain ⟨⟨t102, t103, t104⟩, A50, H⟩ := H
 replace H : ((parolelaw32_bound.f k 0 0 1099511627776 (wrap64 ((wrap64 (a0)) + (wrap64 (a1)))) 0 0).bind fun bt106 => (if t104 = 0 then (if bt106.2.2 = 0 then ((rat_Cmp.f t102 t103 0 1).bind fun t112 => (if t112 ≤ 0 then (parolelaw32_FieldBounds.j0 k true (wrap64 (a0)) true t102 t103 t104 1 1) else ((rat_Cmp.f t102 t103 1 1).bind fun t113 => (if t113 > 0 then (parolelaw32_FieldBounds.j0 k true (wrap64 (a0)) true t102 t103 t104 1 1) else ((rat_Cmp.f bt106.1 bt106.2.1 t102 t103).bind fun t114 => (parolelaw32_FieldBounds.j0 k true (wrap64 (a0)) (decide (t114 > 0)) t102 t103 t104 1 1)))))) else (parolelaw32_FieldBounds.j0 k true (wrap64 (a0)) true t102 t103 t104 1 1)) else (parolelaw32_FieldBounds.j0 k true (wrap64 (a0)) true t102 t103 t104 1 1))) = some r := H
 have A5 := aM A50; clear A50; replace H := Option.bind_eq_some_iff.mp H
 obtain ⟨⟨t106, t107, t108⟩, A60, H⟩ := H
 replace H : (if t104 = 0 then (if t108 = 0 then ((rat_Cmp.f t102 t103 0 1).bind fun t112 => (if t112 ≤ 0 then (parolelaw32_FieldBounds.j0 k true (wrap64 (a0)) true t102 t103 t104 1 1) else ((rat_Cmp.f t102 t103 1 1).bind fun t113 => (if t113 > 0 then (parolelaw32_FieldBounds.j0 k true (wrap64 (a0)) true t102 t103 t104 1 1) else ((rat_Cmp.f t106 t107 t102 t103).bind fun t114 => (parolelaw32_FieldBounds.j0 k true (wrap64 (a0)) (decide (t114 > 0)) t102 t103 t104 1 1)))))) else (parolelaw32_FieldBounds.j0 k true (wrap64 (a0)) true t102 t103 t104 1 1)) else (parolelaw32_FieldBounds.j0 k true (wrap64 (a0)) true t102 t103 t104 1 1)) = some r := H
 have A6 := aM A60; clear A60; have HC7 := aM H; clear H
 go_enter Try.func8, Try.ntmps8
 go_upto_region 9 with (first | ((with_reducible refine gate_callee (f := 10) rfl ?_); refine gL (some 15) Try.func10 #[] ?_; (with_reducible refine (parolelaw32_examples.calls  true _ A3.out).mono ?_); rintro e w8 ⟨rfl, hb⟩; refine ⟨_, rfl, ?_⟩; replace HB := sB HB hb; (try clear hb)) | ((with_reducible refine gate_callee (f := 21) rfl ?_); refine gL (some 22) Try.func21 #[.agg #[.int .i64 0, .int .i64 0, .int .i64 1099511627776, .int .i64 (wrap64 (a0)), .int .i64 0, .int .i64 0]] ?_; (with_reducible refine (parolelaw32_bound.calls k 0 0 1099511627776 (wrap64 (a0)) 0 0 t102 t103 t104 _ A5.out).mono ?_); rintro e w9 ⟨rfl, hb⟩; refine ⟨_, rfl, ?_⟩; replace HB := sB HB hb; (try clear hb)) | ((with_reducible refine gate_dst (N := 7) rfl ?_); refine bE (N := 7) (cs := #[.int .i64 0, .int .i64 0, .int .i64 0]) (t := 45) ?_; intro gb105 hg w10 hbox hb; have BK105 := aM (hbox); have GW105 := gE hg HB; have GE105 := gE hg HB; replace HB := sB HB hb; clear hb hbox hg; obtain ⟨hcz11_0, hcz11_1, hcz11_2, hfz11_0, hfz11_1, hfz11_2⟩ := cZ3 BK105) | ((with_reducible refine gate_callee (f := 21) rfl ?_); refine gL (some 28) Try.func21 #[.agg #[.int .i64 0, .int .i64 0, .int .i64 1099511627776, .int .i64 (wrap64 ((wrap64 (a0)) + (wrap64 (a1)))), .int .i64 0, .int .i64 0]] ?_; (with_reducible refine (parolelaw32_bound.calls k 0 0 1099511627776 (wrap64 ((wrap64 (a0)) + (wrap64 (a1)))) 0 0 t106 t107 t108 _ A6.out).mono ?_); rintro e w12 ⟨rfl, hb⟩; refine ⟨_, rfl, ?_⟩; replace BK105 := aM (blk_below (g := gb105) (o := .cells #[.int .i64 t102, .int .i64 t103, .int .i64 t104] 45 (0, 0)) (by refine bM ?_; refine blk_put (cs := #[.int .i64 t102, .int .i64 t103, .int .i64 0]) ?_ 2 _ rfl; refine bM ?_; refine blk_put (cs := #[.int .i64 t102, .int .i64 0, .int .i64 0]) ?_ 1 _ rfl; refine bM ?_; refine blk_put (cs := #[.int .i64 0, .int .i64 0, .int .i64 0]) ?_ 0 _ rfl; exact bD BK105) hb); replace HB := sB HB hb; (try clear hb)) | ((with_reducible refine gate_dst (N := 8) rfl ?_); refine bE (N := 8) (cs := #[.int .i64 0, .int .i64 0, .int .i64 0]) (t := 45) ?_; intro gb109 hg w13 hbox hb; have BK109 := aM (hbox); have GW109 := gE hg HB; have GE109 := gE hg HB; have NB105_109 := nL hg BK105; replace BK105 := bB BK105 hb; replace HB := sB HB hb; clear hb hbox hg; have hnb14 := NB105_109.out.symm; have hnc14 := NB105_109.out; obtain ⟨hcz15_0, hcz15_1, hcz15_2, hfz15_0, hfz15_1, hfz15_2⟩ := cZ3 BK109) | ((with_reducible refine gate_dst (N := 9) rfl ?_); refine bE (N := 9) (cs := #[.int .i64 0, .int .i64 0]) (t := 43) ?_; intro gb110 hg w16 hbox hb; have BK110 := aM (hbox); have GW110 := gE hg HB; have GE110 := gE hg HB; have NB105_110 := aM ((by rw [hg]; exact Nat.ne_of_lt (blk_lt (g := gb105) (o := .cells #[.int .i64 t102, .int .i64 t103, .int .i64 t104] 45 (0, 0)) (bF BK105)) : gb105 ≠ gb110)); have NB110_105 := aM ((by rw [hg]; exact Nat.ne_of_gt (blk_lt (g := gb105) (o := .cells #[.int .i64 t102, .int .i64 t103, .int .i64 t104] 45 (0, 0)) (bF BK105)) : gb110 ≠ gb105)); have NB109_110 := aM ((by rw [hg]; exact Nat.ne_of_lt (blk_lt (g := gb109) (o := .cells #[.int .i64 t106, .int .i64 t107, .int .i64 t108] 45 (0, 0)) (by refine bM ?_; refine blk_put (cs := #[.int .i64 t106, .int .i64 t107, .int .i64 0]) ?_ 2 _ rfl; refine bM ?_; refine blk_put (cs := #[.int .i64 t106, .int .i64 0, .int .i64 0]) ?_ 1 _ rfl; refine bM ?_; refine blk_put (cs := #[.int .i64 0, .int .i64 0, .int .i64 0]) ?_ 0 _ rfl; exact bD BK109)) : gb109 ≠ gb110)); have NB110_109 := aM ((by rw [hg]; exact Nat.ne_of_gt (blk_lt (g := gb109) (o := .cells #[.int .i64 t106, .int .i64 t107, .int .i64 t108] 45 (0, 0)) (by refine bM ?_; refine blk_put (cs := #[.int .i64 t106, .int .i64 t107, .int .i64 0]) ?_ 2 _ rfl; refine bM ?_; refine blk_put (cs := #[.int .i64 t106, .int .i64 0, .int .i64 0]) ?_ 1 _ rfl; refine bM ?_; refine blk_put (cs := #[.int .i64 0, .int .i64 0, .int .i64 0]) ?_ 0 _ rfl; exact bD BK109)) : gb110 ≠ gb109)); replace BK105 := aM (blk_below (g := gb105) (o := .cells #[.int .i64 t102, .int .i64 t103, .int .i64 t104] 45 (0, 0)) (bF BK105) hb); replace BK109 := aM (blk_below (g := gb109) (o := .cells #[.int .i64 t106, .int .i64 t107, .int .i64 t108] 45 (0, 0)) (by refine bM ?_; refine blk_put (cs := #[.int .i64 t106, .int .i64 t107, .int .i64 0]) ?_ 2 _ rfl; refine bM ?_; refine blk_put (cs := #[.int .i64 t106, .int .i64 0, .int .i64 0]) ?_ 1 _ rfl; refine bM ?_; refine blk_put (cs := #[.int .i64 0, .int .i64 0, .int .i64 0]) ?_ 0 _ rfl; exact bD BK109) hb); replace HB := sB HB hb; clear hb hbox hg; have hnb17 := NB105_110.out.symm; have hnc17 := NB105_110.out; have hnb18 := NB109_110.out.symm; have hnc18 := NB109_110.out; obtain ⟨hcz19_0, hcz19_1, hfz19_0, hfz19_1⟩ := cZ2 BK110) | ((with_reducible refine gate_dst (N := 10) rfl ?_); refine bE (N := 10) (cs := #[.int .i64 0, .int .i64 0]) (t := 43) ?_; intro gb111 hg w20 hbox hb; have BK111 := aM (hbox); have GW111 := gE hg HB; have GE111 := gE hg HB; have NB105_111 := aM ((by rw [hg]; exact Nat.ne_of_lt (blk_lt (g := gb105) (o := .cells #[.int .i64 t102, .int .i64 t103, .int .i64 t104] 45 (0, 0)) (bF BK105)) : gb105 ≠ gb111)); have NB111_105 := aM ((by rw [hg]; exact Nat.ne_of_gt (blk_lt (g := gb105) (o := .cells #[.int .i64 t102, .int .i64 t103, .int .i64 t104] 45 (0, 0)) (bF BK105)) : gb111 ≠ gb105)); have NB109_111 := aM ((by rw [hg]; exact Nat.ne_of_lt (blk_lt (g := gb109) (o := .cells #[.int .i64 t106, .int .i64 t107, .int .i64 t108] 45 (0, 0)) (bF BK109)) : gb109 ≠ gb111)); have NB111_109 := aM ((by rw [hg]; exact Nat.ne_of_gt (blk_lt (g := gb109) (o := .cells #[.int .i64 t106, .int .i64 t107, .int .i64 t108] 45 (0, 0)) (bF BK109)) : gb111 ≠ gb109)); have NB110_111 := aM ((by rw [hg]; exact Nat.ne_of_lt (blk_lt (g := gb110) (o := .cells #[.int .i64 0, .int .i64 1] 43 (0, 0)) (by refine bM ?_; refine blk_put (cs := #[.int .i64 0, .int .i64 0]) ?_ 1 _ rfl; refine bM ?_; refine blk_put (cs := #[.int .i64 0, .int .i64 0]) ?_ 0 _ rfl; exact bD BK110)) : gb110 ≠ gb111)); have NB111_110 := aM ((by rw [hg]; exact Nat.ne_of_gt (blk_lt (g := gb110) (o := .cells #[.int .i64 0, .int .i64 1] 43 (0, 0)) (by refine bM ?_; refine blk_put (cs := #[.int .i64 0, .int .i64 0]) ?_ 1 _ rfl; refine bM ?_; refine blk_put (cs := #[.int .i64 0, .int .i64 0]) ?_ 0 _ rfl; exact bD BK110)) : gb111 ≠ gb110)); replace BK105 := aM (blk_below (g := gb105) (o := .cells #[.int .i64 t102, .int .i64 t103, .int .i64 t104] 45 (0, 0)) (bF BK105) hb); replace BK109 := aM (blk_below (g := gb109) (o := .cells #[.int .i64 t106, .int .i64 t107, .int .i64 t108] 45 (0, 0)) (bF BK109) hb); replace BK110 := aM (blk_below (g := gb110) (o := .cells #[.int .i64 0, .int .i64 1] 43 (0, 0)) (by refine bM ?_; refine blk_put (cs := #[.int .i64 0, .int .i64 0]) ?_ 1 _ rfl; refine bM ?_; refine blk_put (cs := #[.int .i64 0, .int .i64 0]) ?_ 0 _ rfl; exact bD BK110) hb); replace HB := sB HB hb; clear hb hbox hg; have hnb21 := NB105_111.out.symm; have hnc21 := NB105_111.out; have hnb22 := NB109_111.out.symm; have hnc22 := NB109_111.out; have hnb23 := NB110_111.out.symm; have hnc23 := NB110_111.out; obtain ⟨hcz24_0, hcz24_1, hfz24_0, hfz24_1⟩ := cZ2 BK111))
 (try simp only [Act.put, List.setIfInBounds_toArray, List.set_cons_zero, List.set_cons_succ])
 go_cut [60] (fun v60 wc => ∃ (kq : Nat) (x60_6 : Bool), v60 = .bool x60_6 ∧ Aside0 (parolelaw32_FieldBounds.j0 kq true (wrap64 (a0)) x60_6 t102 t103 t104 1 1 = some r) ∧ Aside0 (kq ≤ k) ∧ Aside0 (wc.heap[gb105]? = some (.cells #[.int .i64 t102, .int .i64 t103, .int .i64 t104] 45 (0, 0))) ∧ Aside0 (wc.heap[gb109]? = some (.cells #[.int .i64 t106, .int .i64 t107, .int .i64 t108] 45 (0, 0))) ∧ Aside0 (wc.heap[gb110]? = some (.cells #[.int .i64 0, .int .i64 1] 43 (0, 0))) ∧ Aside0 (wc.heap[gb111]? = some (.cells #[.int .i64 1, .int .i64 1] 43 (0, 0))) ∧ Aside0 (Below w.heap.size w wc))
 case first =>
  have H := HC7.out; clear HC7
  by_cases c25 : t104 = 0
  ·rw [if_pos c25] at H
   have c25b0 : (t104 == 0) = true := beq_iff_eq.mpr c25
   have c25b1 : (t104 != 0) = false := bne_eq_false_iff_eq.mpr c25
   clear c25
   (first | rw [c25b0] | (simp only [i64_w, i32_w]; rw [c25b0]) | skip)
   by_cases c26 : t108 = 0
   ·rw [if_pos c26] at H
    have c26b0 : (t108 == 0) = true := beq_iff_eq.mpr c26
    have c26b1 : (t108 != 0) = false := bne_eq_false_iff_eq.mpr c26
    clear c26; replace H := Option.bind_eq_some_iff.mp H
    obtain ⟨t112, A270, H⟩ := H
    replace H : (if t112 ≤ 0 then (parolelaw32_FieldBounds.j0 k true (wrap64 (a0)) true t102 t103 t104 1 1) else ((rat_Cmp.f t102 t103 1 1).bind fun t113 => (if t113 > 0 then (parolelaw32_FieldBounds.j0 k true (wrap64 (a0)) true t102 t103 t104 1 1) else ((rat_Cmp.f t106 t107 t102 t103).bind fun t114 => (parolelaw32_FieldBounds.j0 k true (wrap64 (a0)) (decide (t114 > 0)) t102 t103 t104 1 1))))) = some r := H
    have A27 := aM A270; clear A270
    by_cases c28 : t112 ≤ 0
    ·rw [if_pos c28] at H
     have c28b0 : decide (t112 ≤ 0) = true := decide_eq_true c28
     clear c28; have H' := aM H; clear H; have hnb29 := NB105_109.out; have hnc29 := NB105_109.out.symm; have hnb30 := NB105_110.out; have hnc30 := NB105_110.out.symm; have hnb31 := NB105_111.out; have hnc31 := NB105_111.out.symm; obtain ⟨hcz32_0, hcz32_1, hcz32_2, hfz32_0, hfz32_1, hfz32_2⟩ := cZ3 BK105; have hnb33 := NB109_110.out; have hnc33 := NB109_110.out.symm; have hnb34 := NB109_111.out; have hnc34 := NB109_111.out.symm; obtain ⟨hcz35_0, hcz35_1, hcz35_2, hfz35_0, hfz35_1, hfz35_2⟩ := cZ3 BK109; have hnb36 := NB110_111.out; have hnc36 := NB110_111.out.symm; obtain ⟨hcz37_0, hcz37_1, hfz37_0, hfz37_1⟩ := cZ2 BK110
     go_wp2_with (first | (go_at_call 24; (with_reducible refine (rat_Cmp.calls t102 t103 0 1 t112 _ A27.out).mono ?_); rintro e w38 ⟨rfl, hb⟩; replace BK105 := aM (blk_below (g := gb105) (o := .cells #[.int .i64 t102, .int .i64 t103, .int .i64 t104] 45 (0, 0)) (bF BK105) hb); replace BK109 := aM (blk_below (g := gb109) (o := .cells #[.int .i64 t106, .int .i64 t107, .int .i64 t108] 45 (0, 0)) (bF BK109) hb); replace BK110 := aM (blk_below (g := gb110) (o := .cells #[.int .i64 0, .int .i64 1] 43 (0, 0)) (bF BK110) hb); replace BK111 := aM (blk_below (g := gb111) (o := .cells #[.int .i64 1, .int .i64 1] 43 (0, 0)) (by refine bM ?_; refine blk_put (cs := #[.int .i64 1, .int .i64 0]) ?_ 1 _ rfl; refine bM ?_; refine blk_put (cs := #[.int .i64 0, .int .i64 0]) ?_ 0 _ rfl; exact bD BK111) hb); replace HB := sB HB hb; (try clear hb)))
     go_meet
     case rel => exact ⟨_, (true), (by first | rfl | (simp; done) | (simp [*]; done)), H', ⟨by first | omega | exact Nat.le_refl _⟩, ⟨by exact bD BK105⟩, ⟨by exact bD BK109⟩, ⟨by exact bD BK110⟩, ⟨by exact bD BK111⟩, ⟨sD HB⟩⟩
    ·rw [if_neg c28] at H
     have c28b0 : decide (t112 ≤ 0) = false := decide_eq_false c28
     clear c28; replace H := Option.bind_eq_some_iff.mp H
     obtain ⟨t113, A390, H⟩ := H
     replace H : (if t113 > 0 then (parolelaw32_FieldBounds.j0 k true (wrap64 (a0)) true t102 t103 t104 1 1) else ((rat_Cmp.f t106 t107 t102 t103).bind fun t114 => (parolelaw32_FieldBounds.j0 k true (wrap64 (a0)) (decide (t114 > 0)) t102 t103 t104 1 1))) = some r := H
     have A39 := aM A390; clear A390
     by_cases c40 : t113 > 0
     ·rw [if_pos c40] at H
      have c40b0 : decide (0 < t113) = true := decide_eq_true c40
      clear c40; have H' := aM H; clear H; have hnb41 := NB105_109.out; have hnc41 := NB105_109.out.symm; have hnb42 := NB105_110.out; have hnc42 := NB105_110.out.symm; have hnb43 := NB105_111.out; have hnc43 := NB105_111.out.symm; obtain ⟨hcz44_0, hcz44_1, hcz44_2, hfz44_0, hfz44_1, hfz44_2⟩ := cZ3 BK105; have hnb45 := NB109_110.out; have hnc45 := NB109_110.out.symm; have hnb46 := NB109_111.out; have hnc46 := NB109_111.out.symm; obtain ⟨hcz47_0, hcz47_1, hcz47_2, hfz47_0, hfz47_1, hfz47_2⟩ := cZ3 BK109; have hnb48 := NB110_111.out; have hnc48 := NB110_111.out.symm; obtain ⟨hcz49_0, hcz49_1, hfz49_0, hfz49_1⟩ := cZ2 BK110
      go_wp2_with (first | (go_at_call 24; (with_reducible refine (rat_Cmp.calls t102 t103 0 1 t112 _ A27.out).mono ?_); rintro e w50 ⟨rfl, hb⟩; replace BK105 := aM (blk_below (g := gb105) (o := .cells #[.int .i64 t102, .int .i64 t103, .int .i64 t104] 45 (0, 0)) (bF BK105) hb); replace BK109 := aM (blk_below (g := gb109) (o := .cells #[.int .i64 t106, .int .i64 t107, .int .i64 t108] 45 (0, 0)) (bF BK109) hb); replace BK110 := aM (blk_below (g := gb110) (o := .cells #[.int .i64 0, .int .i64 1] 43 (0, 0)) (bF BK110) hb); replace BK111 := aM (blk_below (g := gb111) (o := .cells #[.int .i64 1, .int .i64 1] 43 (0, 0)) (by refine bM ?_; refine blk_put (cs := #[.int .i64 1, .int .i64 0]) ?_ 1 _ rfl; refine bM ?_; refine blk_put (cs := #[.int .i64 0, .int .i64 0]) ?_ 0 _ rfl; exact bD BK111) hb); replace HB := sB HB hb; (try clear hb); obtain ⟨hcz51_0, hcz51_1, hcz51_2, hfz51_0, hfz51_1, hfz51_2⟩ := cZ3 BK105; obtain ⟨hcz52_0, hcz52_1, hfz52_0, hfz52_1⟩ := cZ2 BK111) | (go_at_call 24; (with_reducible refine (rat_Cmp.calls t102 t103 1 1 t113 _ A39.out).mono ?_); rintro e w53 ⟨rfl, hb⟩; replace BK105 := bB BK105 hb; replace BK109 := bB BK109 hb; replace BK110 := bB BK110 hb; replace BK111 := bB BK111 hb; replace HB := sB HB hb; (try clear hb)))
      go_meet
      case rel => exact ⟨_, (true), (by first | rfl | (simp; done) | (simp [*]; done)), H', ⟨by first | omega | exact Nat.le_refl _⟩, ⟨by exact bD BK105⟩, ⟨by exact bD BK109⟩, ⟨by exact bD BK110⟩, ⟨by exact bD BK111⟩, ⟨sD HB⟩⟩
     ·rw [if_neg c40] at H
      have c40b0 : decide (0 < t113) = false := decide_eq_false c40
      clear c40; replace H := Option.bind_eq_some_iff.mp H
      obtain ⟨t114, A540, H⟩ := H
      replace H : (parolelaw32_FieldBounds.j0 k true (wrap64 (a0)) (decide (t114 > 0)) t102 t103 t104 1 1) = some r := H
      have A54 := aM A540; clear A540; have H' := aM H; clear H; have hnb55 := NB105_109.out; have hnc55 := NB105_109.out.symm; have hnb56 := NB105_110.out; have hnc56 := NB105_110.out.symm; have hnb57 := NB105_111.out; have hnc57 := NB105_111.out.symm; obtain ⟨hcz58_0, hcz58_1, hcz58_2, hfz58_0, hfz58_1, hfz58_2⟩ := cZ3 BK105; have hnb59 := NB109_110.out; have hnc59 := NB109_110.out.symm; have hnb60 := NB109_111.out; have hnc60 := NB109_111.out.symm; obtain ⟨hcz61_0, hcz61_1, hcz61_2, hfz61_0, hfz61_1, hfz61_2⟩ := cZ3 BK109; have hnb62 := NB110_111.out; have hnc62 := NB110_111.out.symm; obtain ⟨hcz63_0, hcz63_1, hfz63_0, hfz63_1⟩ := cZ2 BK110
      go_wp2_with (first | (go_at_call 24; (with_reducible refine (rat_Cmp.calls t102 t103 0 1 t112 _ A27.out).mono ?_); rintro e w64 ⟨rfl, hb⟩; replace BK105 := aM (blk_below (g := gb105) (o := .cells #[.int .i64 t102, .int .i64 t103, .int .i64 t104] 45 (0, 0)) (bF BK105) hb); replace BK109 := aM (blk_below (g := gb109) (o := .cells #[.int .i64 t106, .int .i64 t107, .int .i64 t108] 45 (0, 0)) (bF BK109) hb); replace BK110 := aM (blk_below (g := gb110) (o := .cells #[.int .i64 0, .int .i64 1] 43 (0, 0)) (bF BK110) hb); replace BK111 := aM (blk_below (g := gb111) (o := .cells #[.int .i64 1, .int .i64 1] 43 (0, 0)) (by refine bM ?_; refine blk_put (cs := #[.int .i64 1, .int .i64 0]) ?_ 1 _ rfl; refine bM ?_; refine blk_put (cs := #[.int .i64 0, .int .i64 0]) ?_ 0 _ rfl; exact bD BK111) hb); replace HB := sB HB hb; (try clear hb); obtain ⟨hcz65_0, hcz65_1, hcz65_2, hfz65_0, hfz65_1, hfz65_2⟩ := cZ3 BK105; obtain ⟨hcz66_0, hcz66_1, hfz66_0, hfz66_1⟩ := cZ2 BK111) | (go_at_call 24; (with_reducible refine (rat_Cmp.calls t102 t103 1 1 t113 _ A39.out).mono ?_); rintro e w67 ⟨rfl, hb⟩; replace BK105 := bB BK105 hb; replace BK109 := bB BK109 hb; replace BK110 := bB BK110 hb; replace BK111 := bB BK111 hb; replace HB := sB HB hb; (try clear hb); obtain ⟨hcz68_0, hcz68_1, hcz68_2, hfz68_0, hfz68_1, hfz68_2⟩ := cZ3 BK109; obtain ⟨hcz69_0, hcz69_1, hcz69_2, hfz69_0, hfz69_1, hfz69_2⟩ := cZ3 BK105) | (go_at_call 24; (with_reducible refine (rat_Cmp.calls t106 t107 t102 t103 t114 _ A54.out).mono ?_); rintro e w70 ⟨rfl, hb⟩; replace BK105 := bB BK105 hb; replace BK109 := bB BK109 hb; replace BK110 := bB BK110 hb; replace BK111 := bB BK111 hb; replace HB := sB HB hb; (try clear hb)))
      go_meet
      case rel => exact ⟨_, (decide (t114 > 0)), (by first | rfl | (simp; done) | (simp [*]; done)), H', ⟨by first | omega | exact Nat.le_refl _⟩, ⟨by exact bD BK105⟩, ⟨by exact bD BK109⟩, ⟨by exact bD BK110⟩, ⟨by exact bD BK111⟩, ⟨sD HB⟩⟩
   ·rw [if_neg c26] at H
    have c26b0 : (t108 == 0) = false := beq_eq_false_iff_ne.mpr c26
    have c26b1 : (t108 != 0) = true := bne_iff_ne.mpr c26
    have H' := aM H; clear H; have hnb71 := NB105_109.out; have hnc71 := NB105_109.out.symm; have hnb72 := NB105_110.out; have hnc72 := NB105_110.out.symm; have hnb73 := NB105_111.out; have hnc73 := NB105_111.out.symm; obtain ⟨hcz74_0, hcz74_1, hcz74_2, hfz74_0, hfz74_1, hfz74_2⟩ := cZ3 BK105; have hnb75 := NB109_110.out; have hnc75 := NB109_110.out.symm; have hnb76 := NB109_111.out; have hnc76 := NB109_111.out.symm; obtain ⟨hcz77_0, hcz77_1, hcz77_2, hfz77_0, hfz77_1, hfz77_2⟩ := cZ3 BK109
    go_wp2
    go_meet
    case rel => exact ⟨_, (true), (by first | rfl | (simp; done) | (simp [*]; done)), H', ⟨by first | omega | exact Nat.le_refl _⟩, ⟨bF BK105⟩, ⟨bF BK109⟩, ⟨bF BK110⟩, ⟨by refine bM ?_; refine blk_put (cs := #[.int .i64 1, .int .i64 0]) ?_ 1 _ rfl; refine bM ?_; refine blk_put (cs := #[.int .i64 0, .int .i64 0]) ?_ 0 _ rfl; exact bD BK111⟩, ⟨sD HB⟩⟩
  ·rw [if_neg c25] at H
   have c25b0 : (t104 == 0) = false := beq_eq_false_iff_ne.mpr c25
   have c25b1 : (t104 != 0) = true := bne_iff_ne.mpr c25
   (first | rw [c25b0] | (simp only [i64_w, i32_w]; rw [c25b0]) | skip)
   have H' := aM H; clear H; have hnb78 := NB105_109.out; have hnc78 := NB105_109.out.symm; have hnb79 := NB105_110.out; have hnc79 := NB105_110.out.symm; have hnb80 := NB105_111.out; have hnc80 := NB105_111.out.symm; obtain ⟨hcz81_0, hcz81_1, hcz81_2, hfz81_0, hfz81_1, hfz81_2⟩ := cZ3 BK105
   go_wp2
   go_meet
   case rel => exact ⟨_, (true), (by first | rfl | (simp; done) | (simp [*]; done)), H', ⟨by first | omega | exact Nat.le_refl _⟩, ⟨bF BK105⟩, ⟨bF BK109⟩, ⟨bF BK110⟩, ⟨by refine bM ?_; refine blk_put (cs := #[.int .i64 1, .int .i64 0]) ?_ 1 _ rfl; refine bM ?_; refine blk_put (cs := #[.int .i64 0, .int .i64 0]) ?_ 0 _ rfl; exact bD BK111⟩, ⟨sD HB⟩⟩
 case rest =>
  clear HC7
  try clear c1
  try clear c2
  try clear p2
  try clear c3
  try clear c4
  try clear c5
  try clear c6
  try clear p6
  try clear c7
  try clear c8
  try clear c10
  try clear c14
  try clear c17
  try clear c18
  try clear c21
  try clear c22
  try clear c23
  try clear c25
  try clear c25b0
  try clear c25b1
  try clear c26
  try clear c26b0
  try clear c26b1
  try clear c28
  try clear c28b0
  try clear c29
  try clear c30
  try clear c31
  try clear c33
  try clear c34
  try clear c36
  try clear c40
  try clear c40b0
  try clear c41
  try clear c42
  try clear c43
  try clear c45
  try clear c46
  try clear c48
  try clear c55
  try clear c56
  try clear c57
  try clear c59
  try clear c60
  try clear c62
  try clear p64
  try clear c71
  try clear c72
  try clear c73
  try clear c75
  try clear c76
  try clear c78
  try clear c79
  try clear c80
  try clear hcz11_0
  try clear hcz11_1
  try clear hcz11_2
  try clear hcz15_0
  try clear hcz15_1
  try clear hcz15_2
  try clear hcz19_0
  try clear hcz19_1
  try clear hcz24_0
  try clear hcz24_1
  try clear hcz32_0
  try clear hcz32_1
  try clear hcz32_2
  try clear hcz35_0
  try clear hcz35_1
  try clear hcz35_2
  try clear hcz37_0
  try clear hcz37_1
  try clear hcz44_0
  try clear hcz44_1
  try clear hcz44_2
  try clear hcz47_0
  try clear hcz47_1
  try clear hcz47_2
  try clear hcz49_0
  try clear hcz49_1
  try clear hcz51_0
  try clear hcz51_1
  try clear hcz51_2
  try clear hcz52_0
  try clear hcz52_1
  try clear hcz58_0
  try clear hcz58_1
  try clear hcz58_2
  try clear hcz61_0
  try clear hcz61_1
  try clear hcz61_2
  try clear hcz63_0
  try clear hcz63_1
  try clear hcz65_0
  try clear hcz65_1
  try clear hcz65_2
  try clear hcz66_0
  try clear hcz66_1
  try clear hcz68_0
  try clear hcz68_1
  try clear hcz68_2
  try clear hcz69_0
  try clear hcz69_1
  try clear hcz69_2
  try clear hcz74_0
  try clear hcz74_1
  try clear hcz74_2
  try clear hcz77_0
  try clear hcz77_1
  try clear hcz77_2
  try clear hcz81_0
  try clear hcz81_1
  try clear hcz81_2
  try clear hfz11_0
  try clear hfz11_1
  try clear hfz11_2
  try clear hfz15_0
  try clear hfz15_1
  try clear hfz15_2
  try clear hfz19_0
  try clear hfz19_1
  try clear hfz24_0
  try clear hfz24_1
  try clear hfz32_0
  try clear hfz32_1
  try clear hfz32_2
  try clear hfz35_0
  try clear hfz35_1
  try clear hfz35_2
  try clear hfz37_0
  try clear hfz37_1
  try clear hfz44_0
  try clear hfz44_1
  try clear hfz44_2
  try clear hfz47_0
  try clear hfz47_1
  try clear hfz47_2
  try clear hfz49_0
  try clear hfz49_1
  try clear hfz51_0
  try clear hfz51_1
  try clear hfz51_2
  try clear hfz52_0
  try clear hfz52_1
  try clear hfz58_0
  try clear hfz58_1
  try clear hfz58_2
  try clear hfz61_0
  try clear hfz61_1
  try clear hfz61_2
  try clear hfz63_0
  try clear hfz63_1
  try clear hfz65_0
  try clear hfz65_1
  try clear hfz65_2
  try clear hfz66_0
  try clear hfz66_1
  try clear hfz68_0
  try clear hfz68_1
  try clear hfz68_2
  try clear hfz69_0
  try clear hfz69_1
  try clear hfz69_2
  try clear hfz74_0
  try clear hfz74_1
  try clear hfz74_2
  try clear hfz77_0
  try clear hfz77_1
  try clear hfz77_2
  try clear hfz81_0
  try clear hfz81_1
  try clear hfz81_2
  obtain ⟨kq, x60_6, rfl, HA, HJ6, BK105, BK109, BK110, BK111, HB⟩ := hcut
  cases kq with
  | zero => exact absurd HA.out (by simp [parolelaw32_FieldBounds.j0])
  | succ kj6 =>
   have H := HA.out; clear HA
   simp only [parolelaw32_FieldBounds.j0] at H
   by_cases c82 : x60_6 = true
   ·subst c82
    have H1 : (some false) = some r := by first | (rw [if_pos rfl] at H; exact H) | (rw [if_pos trivial] at H; exact H)
    clear H; have H := H1; clear H1
    exact absurd ((Option.some.inj H).trans HT.out) (by decide)
   ·replace c82 := Bool.eq_false_iff.mpr c82
    subst c82
    have H1 : (if (t102 == 1 && (t103 == 1)) = true then (if true = true then (some (decide ((wrap64 (a0)) ≤ 19))) else (some false)) else ((rat_Sub.f kj6 1 1 t102 t103).bind fun bt115 => (if bt115.2.2 = 0 then (parolelaw32_FieldBounds.l0 kj6 true (wrap64 (a0)) 1099511627776 0 bt115.1 bt115.2.1) else (some false)))) = some r := by rw [if_neg (show ¬ (false = true) by decide)] at H; exact H
    clear H; have H := H1; clear H1
    by_cases c83 : (t102 == 1 && (t103 == 1)) = true
    ·rw [if_pos c83] at H
     have c83b0 : (t102 == 1 && (t103 == 1)) = true := c83
     (try (have c83b1 : decide (t102 = 1 && (t103 == 1)) = true := by simpa using c83))
     (try (have c83b2 : (t102 == 1 && (t103 == 1)) = true := by simpa using c83))
     clear c83
     by_cases c84 : true = true
     ·clear c84
      have H1 : (some (decide ((wrap64 (a0)) ≤ 19))) = some r := by first | (rw [if_pos rfl] at H; exact H) | (rw [if_pos trivial] at H; exact H)
      clear H; have H := H1; clear H1
      obtain rfl := Option.some.inj H
      have hnb85 := NB105_109.out; have hnc85 := NB105_109.out.symm; have hnb86 := NB105_110.out; have hnc86 := NB105_110.out.symm; have hnb87 := NB105_111.out; have hnc87 := NB105_111.out.symm; obtain ⟨hcz88_0, hcz88_1, hcz88_2, hfz88_0, hfz88_1, hfz88_2⟩ := cZ3 BK105; have hnb89 := NB109_111.out.symm; have hnc89 := NB109_111.out; have hnb90 := NB110_111.out.symm; have hnc90 := NB110_111.out; obtain ⟨hcz91_0, hcz91_1, hfz91_0, hfz91_1⟩ := cZ2 BK111
      go_wp2
      go_ret
      exact ⟨by first | rfl | (simp [errW_none, errW_some] <;> rfl) | (simp [*, errW_none, errW_some] <;> rfl), sD HB⟩
     ·exact absurd rfl c84
    ·rw [if_neg c83] at H
     have c83b0 : (t102 == 1 && (t103 == 1)) = false := by simpa using c83
     (try (have c83b1 : decide (t102 = 1 && (t103 == 1)) = false := by simpa using c83))
     (try (have c83b2 : (t102 == 1 && (t103 == 1)) = false := by simpa using c83))
     (try (have c83b3 : ¬ (t102 = 1 && (t103 == 1)) := by simpa using c83))
     clear c83; replace H := Option.bind_eq_some_iff.mp H
     obtain ⟨⟨t115, t116, t117⟩, A920, H⟩ := H
     replace H : (if t117 = 0 then (parolelaw32_FieldBounds.l0 kj6 true (wrap64 (a0)) 1099511627776 0 t115 t116) else (some false)) = some r := H
     have A92 := aM A920; clear A920
     by_cases c93 : t117 = 0
     ·rw [if_pos c93] at H
      have c93b0 : (t117 == 0) = true := beq_iff_eq.mpr c93
      have c93b1 : (t117 != 0) = false := bne_eq_false_iff_eq.mpr c93
      clear c93; have H' := aM H; clear H; have hnb94 := NB105_109.out; have hnc94 := NB105_109.out.symm; have hnb95 := NB105_110.out; have hnc95 := NB105_110.out.symm; have hnb96 := NB105_111.out; have hnc96 := NB105_111.out.symm; obtain ⟨hcz97_0, hcz97_1, hcz97_2, hfz97_0, hfz97_1, hfz97_2⟩ := cZ3 BK105; have hnb98 := NB109_111.out.symm; have hnc98 := NB109_111.out; have hnb99 := NB110_111.out.symm; have hnc99 := NB110_111.out; obtain ⟨hcz100_0, hcz100_1, hfz100_0, hfz100_1⟩ := cZ2 BK111
      go_wp2_with (first | ((with_reducible refine gate_callee (f := 25) rfl ?_); refine gL (some 74) Try.func25 #[.agg #[.int .i64 1, .int .i64 1], .agg #[.int .i64 t102, .int .i64 t103]] ?_; (with_reducible refine (rat_Sub.calls kj6 1 1 t102 t103 t115 t116 t117 _ A92.out).mono ?_); rintro e w101 ⟨rfl, hb⟩; refine ⟨_, rfl, ?_⟩; replace BK105 := bB BK105 hb; replace BK109 := bB BK109 hb; replace BK110 := bB BK110 hb; replace BK111 := bB BK111 hb; replace HB := sB HB hb; (try clear hb)) | ((with_reducible refine gate_dst (N := 11) rfl ?_); refine bE (N := 11) (cs := #[.int .i64 0, .int .i64 0]) (t := 43) ?_; intro gb118 hg w102 hbox hb; have BK118 := aM (hbox); have GW118 := gE hg HB; have GE118 := gE hg HB; have NB105_118 := nL hg BK105; have NB109_118 := nL hg BK109; have NB110_118 := nL hg BK110; have NB111_118 := nL hg BK111; replace BK105 := bB BK105 hb; replace BK109 := bB BK109 hb; replace BK110 := bB BK110 hb; replace BK111 := bB BK111 hb; replace HB := sB HB hb; clear hb hbox hg; have hnb103 := NB105_118.out.symm; have hnc103 := NB105_118.out; have hnb104 := NB109_118.out.symm; have hnc104 := NB109_118.out; have hnb105 := NB110_118.out.symm; have hnc105 := NB110_118.out; have hnb106 := NB111_118.out.symm; have hnc106 := NB111_118.out; obtain ⟨hcz107_0, hcz107_1, hfz107_0, hfz107_1⟩ := cZ2 BK118))
      go_loopg [13, 14] kj6 (fun kq v13 v14 w' => ∃ (x13_2 : Int) (x14_2 : Int), v13 = .int .i64 x13_2 ∧ v14 = .int .i64 x14_2 ∧ Aside0 (parolelaw32_FieldBounds.l0 kq true (wrap64 (a0)) x13_2 x14_2 t115 t116 = some r) ∧ Aside0 (kq ≤ kj6) ∧ Aside0 (w'.heap[gb105]? = some (.cells #[.int .i64 t102, .int .i64 t103, .int .i64 t104] 45 (0, 0))) ∧ Aside0 (w'.heap[gb109]? = some (.cells #[.int .i64 t106, .int .i64 t107, .int .i64 t108] 45 (0, 0))) ∧ Aside0 (w'.heap[gb110]? = some (.cells #[.int .i64 0, .int .i64 1] 43 (0, 0))) ∧ Aside0 (w'.heap[gb111]? = some (.cells #[.int .i64 1, .int .i64 1] 43 (0, 0))) ∧ Aside0 (w'.heap[gb118]? = some (.cells #[.int .i64 t115, .int .i64 t116] 43 (0, 0))) ∧ Aside0 (Below w.heap.size w w'))
      case atStart => exact ⟨(1099511627776), (0), (by first | rfl | (simp; done) | (simp [*]; done)), (by first | rfl | (simp; done) | (simp [*]; done)), H', ⟨Nat.le_refl _⟩, ⟨bF BK105⟩, ⟨bF BK109⟩, ⟨bF BK110⟩, ⟨bF BK111⟩, ⟨by refine bM ?_; refine blk_put (cs := #[.int .i64 t115, .int .i64 0]) ?_ 1 _ rfl; refine bM ?_; refine blk_put (cs := #[.int .i64 0, .int .i64 0]) ?_ 0 _ rfl; exact bD BK118⟩, ⟨sD HB⟩⟩
      case round =>
       clear H'
       try clear c1
       try clear c2
       try clear p2
       try clear c3
       try clear c4
       try clear c5
       try clear c6
       try clear p6
       try clear c7
       try clear c8
       try clear c9
       try clear c10
       try clear c14
       try clear c17
       try clear c18
       try clear c21
       try clear c22
       try clear c23
       try clear c25
       try clear c25b0
       try clear c25b1
       try clear c26
       try clear c26b0
       try clear c26b1
       try clear c28
       try clear c28b0
       try clear c29
       try clear c30
       try clear c31
       try clear c33
       try clear c34
       try clear c36
       try clear c40
       try clear c40b0
       try clear c41
       try clear c42
       try clear c43
       try clear c45
       try clear c46
       try clear c48
       try clear c55
       try clear c56
       try clear c57
       try clear c59
       try clear c60
       try clear c62
       try clear p64
       try clear c71
       try clear c72
       try clear c73
       try clear c75
       try clear c76
       try clear c78
       try clear c79
       try clear c80
       try clear c82
       try clear c83
       try clear c83b0
       try clear c83b1
       try clear c83b2
       try clear c84
       try clear c85
       try clear c86
       try clear c87
       try clear c89
       try clear c90
       try clear c93
       try clear c93b0
       try clear c93b1
       try clear c94
       try clear c95
       try clear c96
       try clear c98
       try clear c99
       try clear c103
       try clear c104
       try clear c105
       try clear c106
       try clear hcz100_0
       try clear hcz100_1
       try clear hcz107_0
       try clear hcz107_1
       try clear hcz11_0
       try clear hcz11_1
       try clear hcz11_2
       try clear hcz15_0
       try clear hcz15_1
       try clear hcz15_2
       try clear hcz19_0
       try clear hcz19_1
       try clear hcz24_0
       try clear hcz24_1
       try clear hcz32_0
       try clear hcz32_1
       try clear hcz32_2
       try clear hcz35_0
       try clear hcz35_1
       try clear hcz35_2
       try clear hcz37_0
       try clear hcz37_1
       try clear hcz44_0
       try clear hcz44_1
       try clear hcz44_2
       try clear hcz47_0
       try clear hcz47_1
       try clear hcz47_2
       try clear hcz49_0
       try clear hcz49_1
       try clear hcz51_0
       try clear hcz51_1
       try clear hcz51_2
       try clear hcz52_0
       try clear hcz52_1
       try clear hcz58_0
       try clear hcz58_1
       try clear hcz58_2
       try clear hcz61_0
       try clear hcz61_1
       try clear hcz61_2
       try clear hcz63_0
       try clear hcz63_1
       try clear hcz65_0
       try clear hcz65_1
       try clear hcz65_2
       try clear hcz66_0
       try clear hcz66_1
       try clear hcz68_0
       try clear hcz68_1
       try clear hcz68_2
       try clear hcz69_0
       try clear hcz69_1
       try clear hcz69_2
       try clear hcz74_0
       try clear hcz74_1
       try clear hcz74_2
       try clear hcz77_0
       try clear hcz77_1
       try clear hcz77_2
       try clear hcz81_0
       try clear hcz81_1
       try clear hcz81_2
       try clear hcz88_0
       try clear hcz88_1
       try clear hcz88_2
       try clear hcz91_0
       try clear hcz91_1
       try clear hcz97_0
       try clear hcz97_1
       try clear hcz97_2
       try clear hfz100_0
       try clear hfz100_1
       try clear hfz107_0
       try clear hfz107_1
       try clear hfz11_0
       try clear hfz11_1
       try clear hfz11_2
       try clear hfz15_0
       try clear hfz15_1
       try clear hfz15_2
       try clear hfz19_0
       try clear hfz19_1
       try clear hfz24_0
       try clear hfz24_1
       try clear hfz32_0
       try clear hfz32_1
       try clear hfz32_2
       try clear hfz35_0
       try clear hfz35_1
       try clear hfz35_2
       try clear hfz37_0
       try clear hfz37_1
       try clear hfz44_0
       try clear hfz44_1
       try clear hfz44_2
       try clear hfz47_0
       try clear hfz47_1
       try clear hfz47_2
       try clear hfz49_0
       try clear hfz49_1
       try clear hfz51_0
       try clear hfz51_1
       try clear hfz51_2
       try clear hfz52_0
       try clear hfz52_1
       try clear hfz58_0
       try clear hfz58_1
       try clear hfz58_2
       try clear hfz61_0
       try clear hfz61_1
       try clear hfz61_2
       try clear hfz63_0
       try clear hfz63_1
       try clear hfz65_0
       try clear hfz65_1
       try clear hfz65_2
       try clear hfz66_0
       try clear hfz66_1
       try clear hfz68_0
       try clear hfz68_1
       try clear hfz68_2
       try clear hfz69_0
       try clear hfz69_1
       try clear hfz69_2
       try clear hfz74_0
       try clear hfz74_1
       try clear hfz74_2
       try clear hfz77_0
       try clear hfz77_1
       try clear hfz77_2
       try clear hfz81_0
       try clear hfz81_1
       try clear hfz81_2
       try clear hfz88_0
       try clear hfz88_1
       try clear hfz88_2
       try clear hfz91_0
       try clear hfz91_1
       try clear hfz97_0
       try clear hfz97_1
       try clear hfz97_2
       try clear p2
       try clear p6
       try clear p64
       obtain ⟨x13_2, x14_2, rfl, rfl, HA, HK2, BK105, BK109, BK110, BK111, BK118, HB⟩ := hrel
       cases gk with
       | zero => exact absurd HA.out (by simp [parolelaw32_FieldBounds.l0])
       | succ k2 =>
        have H := HA.out; clear HA
        simp only [parolelaw32_FieldBounds.l0] at H
        by_cases c108 : x14_2 < (wrap64 (a0))
        ·rw [if_pos c108] at H
         have c108b0 : decide (x14_2 < (wrap64 (a0))) = true := decide_eq_true c108
         clear c108
         by_cases c109 : x13_2 > 54975581388
         ·rw [if_pos c109] at H
          have c109b0 : decide (54975581388 < x13_2) = true := decide_eq_true c109
          clear c109
          by_cases c110 : t116 = 0
          ·rw [if_pos c110] at H
           exact absurd H (by simp)
          ·rw [if_neg c110] at H
           have c110b0 : (t116 == 0) = false := beq_eq_false_iff_ne.mpr c110
           have c110b1 : (t116 != 0) = true := bne_iff_ne.mpr c110
           have H' := aM H; clear H; have hnb111 := NB105_118.out.symm; have hnc111 := NB105_118.out; have hnb112 := NB109_118.out.symm; have hnc112 := NB109_118.out; have hnb113 := NB110_118.out.symm; have hnc113 := NB110_118.out; have hnb114 := NB111_118.out.symm; have hnc114 := NB111_118.out; obtain ⟨hcz115_0, hcz115_1, hfz115_0, hfz115_1⟩ := cZ2 BK118
           go_wp2
           go_roundg k2
           case measure => have := HJ6.out; have := HK2.out; omega
           case rel => exact ⟨(wrap64 (Int.tdiv (wrap64 ((wrap64 ((wrap64 (x13_2 * t115)) + t116)) - 1)) t116)), (wrap64 (x14_2 + 1)), (by first | rfl | (simp; done) | (simp [*]; done)), (by first | rfl | (simp; done) | (simp [*]; done)), H', ⟨by have := HJ6.out; have := HK2.out; omega⟩, ⟨by exact bD BK105⟩, ⟨by exact bD BK109⟩, ⟨by exact bD BK110⟩, ⟨by exact bD BK111⟩, ⟨by exact bD BK118⟩, ⟨sD HB⟩⟩
         ·rw [if_neg c109] at H
          have c109b0 : decide (54975581388 < x13_2) = false := decide_eq_false c109
          clear c109
          by_cases c116 : true = true
          ·clear c116
           have H1 : (some (decide (x13_2 ≤ 54975581388))) = some r := by first | (rw [if_pos rfl] at H; exact H) | (rw [if_pos trivial] at H; exact H)
           clear H; have H := H1; clear H1
           obtain rfl := Option.some.inj H
           go_wp2
           go_ret
           exact ⟨by first | rfl | (simp [errW_none, errW_some] <;> rfl) | (simp [*, errW_none, errW_some] <;> rfl), sD HB⟩
          ·exact absurd rfl c116
        ·rw [if_neg c108] at H
         have c108b0 : decide (x14_2 < (wrap64 (a0))) = false := decide_eq_false c108
         clear c108
         by_cases c117 : true = true
         ·clear c117
          have H1 : (some (decide (x13_2 ≤ 54975581388))) = some r := by first | (rw [if_pos rfl] at H; exact H) | (rw [if_pos trivial] at H; exact H)
          clear H; have H := H1; clear H1
          obtain rfl := Option.some.inj H
          go_wp2
          go_ret
          exact ⟨by first | rfl | (simp [errW_none, errW_some] <;> rfl) | (simp [*, errW_none, errW_some] <;> rfl), sD HB⟩
         ·exact absurd rfl c117
     ·rw [if_neg c93] at H
      have c93b0 : (t117 == 0) = false := beq_eq_false_iff_ne.mpr c93
      have c93b1 : (t117 != 0) = true := bne_iff_ne.mpr c93
      exact absurd ((Option.some.inj H).trans HT.out) (by decide)
/-- THE ONE PURE STATEMENT of parolelaw32_FieldBounds: yours. -/
def parolelaw32_FieldBounds.Pure : Prop := ∀ (a0 : Int) (a1 : Int), (Lit.int .u16 a0).wf = true → (Lit.int .u16 a1).wf = true → ∃ k, parolelaw32_FieldBounds.f k a0 a1 = some true
theorem parolelaw32_FieldBounds.walk (P : parolelaw32_FieldBounds.Pure) (a0 : Int) (a1 : Int) (w : World) (w0 : (Lit.int .u16 a0).wf = true) (w1 : (Lit.int .u16 a1).wf = true) :
  Calls Try.prog 8 #[.int .u16 a0, .int .u16 a1] w fun e w' => e = .returned (.bool true) ∧ Below w.heap.size w w' := by
 obtain ⟨k, h⟩ := P a0 a1 w0 w1
 refine (parolelaw32_FieldBounds.calls k a0 a1 true w rfl h).mono ?_
 rintro e w' ⟨rfl, hd⟩
 exact ⟨rfl, hd⟩
end Go.Proofs.Ytfdoncgljohndaa.P
namespace Go.Proofs.Ytfdoncgljohndaa.R
open Go.RowKit Go.Proofs.Ytfdoncgljohndaa.P Go.Proofs.YtfdoncgljohndaaW.PrintWords Go.Proofs.YtfdoncgljohndaaW.PrintLast Go.Proofs.YtfdoncgljohndaaW.PrintMore
theorem wrap64_of {n : Int} (h0 : -9223372036854775808 ≤ n) (h1 : n ≤ 9223372036854775807) : wrap64 n = n := by
 unfold wrap64
 omega
theorem u64_of {n : Int} (h0 : 0 ≤ n) (h1 : n ≤ 18446744073709551615) : IntKind.u64.wrap n = n := by
 unfold IntKind.wrap
 simp [IntKind.signed, IntKind.bits]
 omega
theorem u64_def (n : Int) : IntKind.u64.wrap n = n % 18446744073709551616 := by
 unfold IntKind.wrap
 simp [IntKind.signed, IntKind.bits]
theorem Ev.pos {α : Type} {c : Prop} [Decidable c] {g f : Nat → Option α} {r : α} (hc : c) (h : Ev g r) : Ev (fun n => if c then g n else f n) r := Ev.congr (fun _ => if_pos hc) h
theorem Ev.neg {α : Type} {c : Prop} [Decidable c] {g f : Nat → Option α} {r : α} (hc : ¬ c) (h : Ev f r) : Ev (fun n => if c then g n else f n) r := Ev.congr (fun _ => if_neg hc) h
theorem Ev.succ {α : Type} {g : Nat → Option α} {r : α} (h : Ev (fun k => g (k + 1)) r) : Ev g r := Ev.step (fun _ => rfl) h
theorem Ev.const {α : Type} {o : Option α} {r : α} (h : o = some r) : Ev (fun _ => o) r := ⟨0, fun _ _ => h⟩
theorem Ev.cbind {α β : Type} {o : Option α} {f : Nat → α → Option β} {a : α} {r : β} (h : o = some a) (k : Ev (fun n => f n a) r) : Ev (fun n => o.bind (f n)) r := Ev.bind (Ev.const h) k
theorem gcd_l1 (x10 : List Int) (x11 x12 : Int) : ∀ (b a : Nat) (r : Int), Ev (fun k => rat_gcd.l0 k (Nat.gcd a b : Int) x10 x11 (wrap64 (x12 + 1))) r → Ev (fun k => rat_gcd.l1 k (a : Int) (b : Int) x10 x11 x12) r := by
 intro b
 induction b using Nat.strongRecOn with
 | _ b ih =>
  intro a r h
  refine Ev.succ ?_
  simp only [rat_gcd.l1]
  by_cases hb : b = 0
  ·subst hb
   refine Ev.neg (by simp) ?_
   simpa using h
  ·refine Ev.pos (by omega) (Ev.neg (by omega) ?_)
   have e : Int.tmod (a : Int) (b : Int) = ((a % b : Nat) : Int) := rfl
   rw [e]
   refine ih (a % b) (Nat.mod_lt _ (by omega)) b r ?_
   rw [Nat.gcd_comm, ← Nat.gcd_rec, Nat.gcd_comm]
   exact h
theorem gcd2 (a b : Nat) : Ev (fun k => rat_gcd.f k [(a : Int), (b : Int)]) (Nat.gcd a b : Int) := by
 unfold rat_gcd.f
 refine Ev.pos (by simp) (Ev.pos (by simp) ?_)
 simp only [rd, List.drop, List.getD, List.length]
 refine Ev.succ ?_
 simp only [rat_gcd.l0]
 refine Ev.pos (by simp) (Ev.pos (by simp) (Ev.pos (by simp) ?_))
 refine gcd_l1 _ _ _ b a _ ?_
 refine Ev.succ ?_
 simp only [rat_gcd.l0]
 exact Ev.neg (by rw [wrap64_of (by omega) (by omega)]; simp) (Ev.now _)
theorem number_small (neg : Bool) (lo : Nat) (h : lo ≤ 4611686018427387904) : Ev (fun k => rat_wide_number.f k neg 0 (lo : Int)) (if neg then -(lo : Int) else (lo : Int), true) := by
 unfold rat_wide_number.f
 refine Ev.neg (by omega) (Ev.succ ?_)
 simp only [rat_wide_number.j0]
 refine Ev.neg (by simp; omega) ?_
 rw [wrap64_of (n := (lo : Int)) (by omega) (by omega), wrap64_of (n := -(lo : Int)) (by omega) (by omega)]
 cases neg <;> simp <;> exact Ev.now _
theorem made_small (neg : Bool) (a b : Nat) (ha : a ≤ 4611686018427387904) (hb : b ≤ 4611686018427387904) : Ev (fun k => rat_made.f k neg 0 (a : Int) false 0 (b : Int)) (if neg then -(a : Int) else (a : Int), (b : Int), 0) := by
 unfold rat_made.f
 refine Ev.bind (number_small neg a ha) (Ev.bind (number_small false b hb) ?_)
 exact Ev.pos rfl (Ev.pos rfl (Ev.now _))
/-- New of two numbers that are not negative. -/
theorem new_nat (n d : Nat) (hn : n ≤ 4611686018427387904) (hd : 0 < d) (hd2 : d ≤ 4611686018427387904) : Ev (fun k => rat_New.f k (n : Int) (d : Int)) (((n / Nat.gcd n d : Nat) : Int), ((d / Nat.gcd n d : Nat) : Int), 0) := by
 unfold rat_New.f
 refine Ev.neg (by omega) ?_
 by_cases h0 : n = 0
 ·subst h0
  refine Ev.pos (by simp) ?_
  simp only [rat_zero.f, Option.bind_some, Nat.gcd_zero_left, Nat.zero_div, Nat.div_self hd]
  exact Ev.now _
 ·refine Ev.neg (by omega) ?_
  have ea : ∀ m : Nat, m ≤ 4611686018427387904 → rat_abs.f (m : Int) = some (m : Int) := by
   intro m hm
   unfold rat_abs.f
   rw [if_neg (by omega), u64_of (by omega) (by omega)]
  have hg : 0 < Nat.gcd n d := Nat.gcd_pos_of_pos_right _ hd
  refine Ev.cbind (ea n hn) (Ev.cbind (ea d hd2) (Ev.bind (gcd2 n d) (Ev.cbind (ea n hn) (Ev.neg (by omega) (Ev.cbind (ea d hd2) ?_)))))
  have e1 : ∀ m : Nat, m ≤ 4611686018427387904 → IntKind.u64.wrap (Int.tdiv (m : Int) (Nat.gcd n d : Int)) = ((m / Nat.gcd n d : Nat) : Int) := by
   intro m hm
   have e : Int.tdiv (m : Int) (Nat.gcd n d : Int) = ((m / Nat.gcd n d : Nat) : Int) := rfl
   have h1 := Nat.div_le_self m (Nat.gcd n d)
   rw [e]
   generalize m / Nat.gcd n d = q at h1
   exact u64_of (by omega) (by omega)
  rw [e1 n hn, e1 d hd2]
  have e2 : (decide ((n : Int) < 0) != decide ((d : Int) < 0)) = false := by
   rw [decide_eq_false (by omega), decide_eq_false (by omega)]; rfl
  rw [e2]
  refine Ev.bind (made_small false _ _ (Nat.le_trans (Nat.div_le_self _ _) hn) (Nat.le_trans (Nat.div_le_self _ _) hd2)) ?_
  exact Ev.now _
end Go.Proofs.Ytfdoncgljohndaa.R
namespace Go.Proofs.Ytfdoncgljohndaa.R
open Go.RowKit Go.Fld Go.Proofs.Ytfdoncgljohndaa.P Go.Proofs.YtfdoncgljohndaaW.PrintWords Go.Proofs.YtfdoncgljohndaaW.PrintLast Go.Proofs.YtfdoncgljohndaaW.PrintMore
/-- A number of 64 bits, as_ a natural number. -/
def u (w : Int) : Nat := (w % 18446744073709551616).toNat
end Go.Proofs.Ytfdoncgljohndaa.R
namespace Go.Proofs.Ytfdoncgljohndaa.R
open Go.RowKit Go.Fld Go.Proofs.Ytfdoncgljohndaa.P Go.Proofs.YtfdoncgljohndaaW.PrintWords Go.Proofs.YtfdoncgljohndaaW.PrintLast Go.Proofs.YtfdoncgljohndaaW.PrintMore
theorem wf_u16 {n : Int} (h : (Lit.int .u16 n).wf = true) : 0 ≤ n ∧ n ≤ 65535 := by
 simp only [Lit.wf, IntKind.min, IntKind.max, IntKind.signed, IntKind.bits, Bool.and_eq_true] at h
 simpa using h
theorem wf_i64 {n : Int} (h : (Lit.int .i64 n).wf = true) : -9223372036854775808 ≤ n ∧ n ≤ 9223372036854775807 := by
 simp only [Lit.wf, IntKind.min, IntKind.max, IntKind.signed, IntKind.bits, Bool.and_eq_true] at h
 simpa using h
end Go.Proofs.Ytfdoncgljohndaa.R
namespace Go.Proofs.Ytfdoncgljohndaa.R
open Go.RowKit Go.Fld Go.Proofs.Ytfdoncgljohndaa.P Go.Proofs.YtfdoncgljohndaaW.PrintWords Go.Proofs.YtfdoncgljohndaaW.PrintLast Go.Proofs.YtfdoncgljohndaaW.PrintMore
theorem new01 : Ev (fun k => rat_New.f k 0 1) (0, 1, 0) := by
 have := new_nat 0 1 (by omega) (by omega) (by omega)
 simp only [Nat.gcd_one_right, Nat.zero_div, Nat.div_one] at this
 exact this
/-- The bound. -/
def boundR (seen looked broken : Nat) : Int × Int × Int :=
 if broken = 0 then if looked = seen then (0, 1, 0) else ((((19 : Nat) / Nat.gcd 19 (max 19 looked) : Nat) : Int), ((max 19 looked / Nat.gcd 19 (max 19 looked) : Nat) : Int), 0) else (0, 0, 320)
theorem ev_bound (a0 a1 a5 : Int) (seen looked broken : Nat) (hl : looked ≤ 4611686018427387904) : Ev (fun k => parolelaw32_bound.f k a0 a1 (seen : Int) (looked : Int) (broken : Int) a5) (boundR seen looked broken) := by
 unfold parolelaw32_bound.f
 have : Ev (fun k => field_Bound.f k a0 a1 (seen : Int) (looked : Int) (broken : Int) a5) (boundR seen looked broken) := by
  unfold field_Bound.f boundR
  by_cases hb : broken = 0
  ·rw [if_pos hb]
   refine Ev.pos (by omega) ?_
   by_cases hs : looked = seen
   ·rw [if_pos hs]
    refine Ev.pos (by omega) ?_
    exact Ev.bind new01 (Ev.now _)
   ·rw [if_neg hs]
    refine Ev.neg (by omega) ?_
    have e : mx 19 (looked : Int) = ((max 19 looked : Nat) : Int) := by unfold mx; omega
    rw [e]
    exact Ev.bind (new_nat 19 (max 19 looked) (by omega) (by omega) (by omega)) (Ev.now _)
  ·rw [if_neg hb]
   exact Ev.neg (by omega) (Ev.now _)
 exact Ev.bind this (Ev.now _)
end Go.Proofs.Ytfdoncgljohndaa.R
namespace Go.Proofs.Ytfdoncgljohndaa.R
open Go.RowKit Go.Proofs.Ytfdoncgljohndaa.P Go.Proofs.YtfdoncgljohndaaW.PrintWords Go.Proofs.YtfdoncgljohndaaW.PrintLast Go.Proofs.YtfdoncgljohndaaW.PrintMore
theorem u64_mask (x : Int) (h0 : 0 ≤ x) (h1 : x ≤ 18446744073709551615) : Go.bits .and .u64 x 4294967295 = x % 4294967296 :=
 bits_mask .u64 64 (by decide) (fun n h0 h1 => u64_of h0 (by omega)) 32 (by decide) x h0 (by omega)
theorem mul64 (a b : Nat) (ha : a ≤ 18446744073709551615) (hb : b ≤ 18446744073709551615) : bits_Mul64.f (a : Int) (b : Int) = some (((a * b / 18446744073709551616 : Nat) : Int), ((a * b % 18446744073709551616 : Nat) : Int)) := by
 obtain ⟨x1, hx1⟩ : ∃ x1, x1 = a / 4294967296 := ⟨_, rfl⟩
 obtain ⟨x0, hx0⟩ : ∃ x0, x0 = a % 4294967296 := ⟨_, rfl⟩
 obtain ⟨y1, hy1⟩ : ∃ y1, y1 = b / 4294967296 := ⟨_, rfl⟩
 obtain ⟨y0, hy0⟩ : ∃ y0, y0 = b % 4294967296 := ⟨_, rfl⟩
 have ea : a = x1 * 4294967296 + x0 := by omega
 have eb : b = y1 * 4294967296 + y0 := by omega
 have bx1 : x1 ≤ 4294967295 := by omega
 have bx0 : x0 ≤ 4294967295 := by omega
 have by1 : y1 ≤ 4294967295 := by omega
 have by0 : y0 ≤ 4294967295 := by omega
 have i1 : (a : Int) / 4294967296 = (x1 : Int) := by omega
 have i2 : (b : Int) / 4294967296 = (y1 : Int) := by omega
 have i3 : Go.bits .and .u64 (a : Int) 4294967295 = (x0 : Int) := by rw [u64_mask _ (by omega) (by omega)]; omega
 have i4 : Go.bits .and .u64 (b : Int) 4294967295 = (y0 : Int) := by rw [u64_mask _ (by omega) (by omega)]; omega
 have p11 : x1 * y1 ≤ 4294967295 * 4294967295 := Nat.mul_le_mul bx1 by1
 have p10 : x1 * y0 ≤ 4294967295 * 4294967295 := Nat.mul_le_mul bx1 by0
 have p01 : x0 * y1 ≤ 4294967295 * 4294967295 := Nat.mul_le_mul bx0 by1
 have p00 : x0 * y0 ≤ 4294967295 * 4294967295 := Nat.mul_le_mul bx0 by0
 have eab : a * b = (x1 * y1) * 18446744073709551616 + (x1 * y0 + x0 * y1) * 4294967296 + x0 * y0 := by
  rw [ea, eb]
  grind
 have c11 : (x1 : Int) * (y1 : Int) = ((x1 * y1 : Nat) : Int) := by push_cast; rfl
 have c10 : (x1 : Int) * (y0 : Int) = ((x1 * y0 : Nat) : Int) := by push_cast; rfl
 have c01 : (x0 : Int) * (y1 : Int) = ((x0 * y1 : Nat) : Int) := by push_cast; rfl
 have c00 : (x0 : Int) * (y0 : Int) = ((x0 * y0 : Nat) : Int) := by push_cast; rfl
 have cab : (a : Int) * (b : Int) = ((a * b : Nat) : Int) := by push_cast; rfl
 unfold bits_Mul64.f
 rw [i1, i2, i3, i4, c11, c10, c01, c00, cab]
 generalize x1 * y1 = P11 at *
 generalize x1 * y0 = P10 at *
 generalize x0 * y1 = P01 at *
 generalize x0 * y0 = P00 at *
 generalize a * b = AB at *
 have w00 : IntKind.u64.wrap (P00 : Int) = (P00 : Int) := u64_of (by omega) (by omega)
 have w11 : IntKind.u64.wrap (P11 : Int) = (P11 : Int) := u64_of (by omega) (by omega)
 have w10 : IntKind.u64.wrap (P10 : Int) = (P10 : Int) := u64_of (by omega) (by omega)
 have w01 : IntKind.u64.wrap (P01 : Int) = (P01 : Int) := u64_of (by omega) (by omega)
 rw [w00, w11, w10, w01]
 have wt : IntKind.u64.wrap ((P10 : Int) + (P00 : Int) / 4294967296) = ((P10 + P00 / 4294967296 : Nat) : Int) := by rw [u64_of (by omega) (by omega)]; omega
 rw [wt]
 obtain ⟨T, hT⟩ : ∃ T, T = P10 + P00 / 4294967296 := ⟨_, rfl⟩
 rw [← hT]
 rw [u64_mask (T : Int) (by omega) (by omega)]
 have ww : IntKind.u64.wrap ((T : Int) % 4294967296 + (P01 : Int)) = ((T % 4294967296 + P01 : Nat) : Int) := by rw [u64_of (by omega) (by omega)]; omega
 rw [ww]
 have wh : IntKind.u64.wrap ((P11 : Int) + (T : Int) / 4294967296) = ((P11 + T / 4294967296 : Nat) : Int) := by rw [u64_of (by omega) (by omega)]; omega
 rw [wh, u64_of (by omega) (by omega), u64_def]
 congr 1
 refine Prod.ext ?_ ?_
 ·simp only; omega
 ·simp only; omega
theorem abs_of (a : Int) (h0 : -9223372036854775808 ≤ a) (h1 : a ≤ 9223372036854775807) : rat_abs.f a = some (a.natAbs : Int) := by
 unfold rat_abs.f
 by_cases h : a < 0
 ·rw [if_pos h, u64_def, u64_def]
  congr 1
  omega
 ·rw [if_neg h, u64_of (by omega) (by omega)]
  congr 1
  omega
/-- A number of 128 bits: its upper and its lower half. -/
def hi (m : Nat) : Int := ((m / 18446744073709551616 : Nat) : Int)
def lo (m : Nat) : Int := ((m % 18446744073709551616 : Nat) : Int)
theorem times_of (a b : Int) (ha0 : -9223372036854775808 ≤ a) (ha1 : a ≤ 9223372036854775807) (hb0 : -9223372036854775808 ≤ b) (hb1 : b ≤ 9223372036854775807) :
  rat_times.f a b = some ((decide (a < 0) != decide (b < 0)), hi (a.natAbs * b.natAbs), lo (a.natAbs * b.natAbs)) := by
 unfold rat_times.f
 rw [abs_of a ha0 ha1, abs_of b hb0 hb1]
 simp only [Option.bind_some]
 rw [mul64 _ _ (by omega) (by omega)]
 rfl
theorem atLeast_of (s t : Bool) (m n : Nat) : rat_wide_atLeast.f s (hi m) (lo m) t (hi n) (lo n) = some (decide (n ≤ m)) := by
 unfold rat_wide_atLeast.f hi lo
 by_cases h1 : ((m / 18446744073709551616 : Nat) : Int) > ((n / 18446744073709551616 : Nat) : Int)
 ·rw [if_pos h1, decide_eq_true (by omega)]
 ·rw [if_neg h1]
  by_cases h2 : ((m / 18446744073709551616 : Nat) : Int) = ((n / 18446744073709551616 : Nat) : Int)
  ·rw [if_pos h2]
   congr 1
   rw [decide_eq_decide]
   omega
  ·rw [if_neg h2, decide_eq_false (by omega)]
theorem sub_of (m n : Nat) (hm : m < 340282366920938463463374607431768211456) (h : n ≤ m) :
  ∃ c, bits_Sub64.f (lo m) (lo n) 0 = some (lo (m - n), c) ∧ ∃ c', bits_Sub64.f (hi m) (hi n) c = some (hi (m - n), c') := by
 unfold bits_Sub64.f hi lo
 rw [if_pos (by omega)]
 refine ⟨if ((m % 18446744073709551616 : Nat) : Int) < ((n % 18446744073709551616 : Nat) : Int) + 0 then 1 else 0, ?_, ?_⟩
 ·refine congrArg some (Prod.ext ?_ rfl)
  simp only
  omega
 ·rw [if_pos (by split <;> omega)]
  generalize hc : (if ((m % 18446744073709551616 : Nat) : Int) < ((n % 18446744073709551616 : Nat) : Int) + 0 then (1 : Int) else 0) = c
  refine ⟨if ((m / 18446744073709551616 : Nat) : Int) < ((n / 18446744073709551616 : Nat) : Int) + c then 1 else 0, congrArg some (Prod.ext ?_ rfl)⟩
  simp only
  split at hc <;> omega
theorem plus_of (s t : Bool) (m n : Nat) (hm : m < 170141183460469231731687303715884105728) (hn : n < 170141183460469231731687303715884105728) :
  rat_wide_plus.f s (hi m) (lo m) t (hi n) (lo n) = some (if s = t then (s, hi (m + n), lo (m + n)) else if n ≤ m then (s, hi (m - n), lo (m - n)) else (t, hi (n - m), lo (n - m))) := by
 unfold rat_wide_plus.f
 by_cases hst : s = t
 ·subst hst
  rw [if_pos (by simp), if_pos rfl]
  unfold bits_Add64.f hi lo
  rw [if_pos (by omega)]
  simp only [Option.bind_some]
  rw [if_pos (by omega)]
  simp only [Option.bind_some]
  refine congrArg some (Prod.ext rfl (Prod.ext ?_ ?_))
  ·simp only; omega
  ·simp only; omega
 ·rw [if_neg (by simpa using hst), if_neg hst, atLeast_of]
  simp only [Option.bind_some]
  by_cases hle : n ≤ m
  ·rw [if_pos (by simpa using hle), if_pos hle]
   obtain ⟨c, e1, c', e2⟩ := sub_of m n (by omega) hle
   rw [e1]
   simp only [Option.bind_some]
   rw [e2]
   rfl
  ·rw [if_neg (by simpa using hle), if_neg hle]
   obtain ⟨c, e1, c', e2⟩ := sub_of n m (by omega) (by omega)
   rw [e1]
   simp only [Option.bind_some]
   rw [e2]
   rfl
theorem prod_lt (a b : Nat) (ha : a ≤ 9223372036854775808) (hb : b ≤ 9223372036854775808) : a * b < 170141183460469231731687303715884105728 := by
 have := Nat.mul_le_mul ha hb
 omega
/-- Fractions that are not negative are compared by their cross products. -/
theorem cmp_nat (an ad bn bd : Nat) (h1 : an ≤ 9223372036854775807) (h2 : ad ≤ 9223372036854775807) (h3 : bn ≤ 9223372036854775807) (h4 : bd ≤ 9223372036854775807) :
  rat_Cmp.f (an : Int) (ad : Int) (bn : Int) (bd : Int) = some (if an = bn ∧ ad = bd then 0 else if an * bd < bn * ad then -1 else 1) := by
 unfold rat_Cmp.f
 by_cases he : an = bn ∧ ad = bd
 ·rw [if_pos (by simp; omega), if_pos he]
 ·rw [if_neg (by simp; omega), if_neg he, times_of _ _ (by omega) (by omega) (by omega) (by omega)]
  simp only [Option.bind_some]
  rw [times_of _ _ (by omega) (by omega) (by omega) (by omega)]
  simp only [Option.bind_some, Int.natAbs_natCast]
  have e1 : ∀ x y : Nat, (decide ((x : Int) < 0) != decide ((y : Int) < 0)) = false := by
   intro x y
   rw [decide_eq_false (by omega), decide_eq_false (by omega)]; rfl
  rw [e1, e1, plus_of _ _ _ _ (prod_lt _ _ (by omega) (by omega)) (prod_lt _ _ (by omega) (by omega))]
  simp only [Bool.not_false, Option.bind_some, Bool.false_eq_true, if_false]
  by_cases hlt : an * bd < bn * ad
  ·have h' : ¬ (bn * ad ≤ an * bd) := by omega
   simp only [if_neg h', if_pos hlt, if_true]
  ·have h' : bn * ad ≤ an * bd := by omega
   simp only [if_pos h', if_neg hlt, Bool.false_eq_true, if_false]
end Go.Proofs.Ytfdoncgljohndaa.R
namespace Go.Proofs.Ytfdoncgljohndaa.R
open Go.RowKit Go.Proofs.Ytfdoncgljohndaa.P Go.Proofs.YtfdoncgljohndaaW.PrintWords Go.Proofs.YtfdoncgljohndaaW.PrintLast Go.Proofs.YtfdoncgljohndaaW.PrintMore
def rn (N D : Nat) : Nat := N / Nat.gcd N D
def rd_ (N D : Nat) : Nat := D / Nat.gcd N D
theorem red_eq (N D : Nat) : N = rn N D * Nat.gcd N D ∧ D = rd_ N D * Nat.gcd N D :=
 ⟨(Nat.div_mul_cancel (Nat.gcd_dvd_left N D)).symm, (Nat.div_mul_cancel (Nat.gcd_dvd_right N D)).symm⟩
theorem red_gcd (N D : Nat) (hD : 0 < D) : Nat.gcd (rn N D) (rd_ N D) = 1 := Nat.coprime_div_gcd_div_gcd (Nat.gcd_pos_of_pos_right N hD)
theorem rn_le (N D : Nat) : rn N D ≤ N := Nat.div_le_self _ _
theorem rd_le (N D : Nat) : rd_ N D ≤ D := Nat.div_le_self _ _
theorem rd_pos (N D : Nat) (hD : 0 < D) : 0 < rd_ N D := Nat.div_pos (Nat.le_of_dvd hD (Nat.gcd_dvd_right N D)) (Nat.gcd_pos_of_pos_right N hD)
theorem rn_pos (N D : Nat) (hN : 0 < N) : 0 < rn N D := Nat.div_pos (Nat.le_of_dvd hN (Nat.gcd_dvd_left N D)) (Nat.gcd_pos_of_pos_left D hN)
/-- Cross products keep their order when fractions are reduced. -/
theorem cross_lt (N1 D1 N2 D2 : Nat) (h1 : 0 < D1) (h2 : 0 < D2) : rn N1 D1 * rd_ N2 D2 < rn N2 D2 * rd_ N1 D1 ↔ N1 * D2 < N2 * D1 := by
 obtain ⟨e1, e2⟩ := red_eq N1 D1
 obtain ⟨e3, e4⟩ := red_eq N2 D2
 have g1 : 0 < Nat.gcd N1 D1 := Nat.gcd_pos_of_pos_right N1 h1
 have g2 : 0 < Nat.gcd N2 D2 := Nat.gcd_pos_of_pos_right N2 h2
 have k1 : N1 * D2 = (rn N1 D1 * rd_ N2 D2) * (Nat.gcd N1 D1 * Nat.gcd N2 D2) := by
  conv => lhs; rw [e1, e4]
  exact Nat.mul_mul_mul_comm _ _ _ _
 have k2 : N2 * D1 = (rn N2 D2 * rd_ N1 D1) * (Nat.gcd N1 D1 * Nat.gcd N2 D2) := by
  conv => lhs; rw [e3, e2]
  rw [Nat.mul_comm (Nat.gcd N1 D1)]
  exact Nat.mul_mul_mul_comm _ _ _ _
 rw [k1, k2]
 exact (Nat.mul_lt_mul_right (Nat.mul_pos g1 g2)).symm
theorem cmp_less (N1 D1 N2 D2 : Nat) (h1 : 0 < D1) (h2 : 0 < D2) (b1 : N1 ≤ 9223372036854775807) (b2 : D1 ≤ 9223372036854775807) (b3 : N2 ≤ 9223372036854775807) (b4 : D2 ≤ 9223372036854775807) (h : N1 * D2 < N2 * D1) :
  rat_Cmp.f (rn N1 D1 : Int) (rd_ N1 D1 : Int) (rn N2 D2 : Int) (rd_ N2 D2 : Int) = some (-1) := by
 have hc := (cross_lt N1 D1 N2 D2 h1 h2).2 h
 rw [cmp_nat _ _ _ _ (Nat.le_trans (rn_le _ _) b1) (Nat.le_trans (rd_le _ _) b2) (Nat.le_trans (rn_le _ _) b3) (Nat.le_trans (rd_le _ _) b4)]
 rw [if_neg (fun he => by rw [he.1, he.2] at hc; exact Nat.lt_irrefl _ hc), if_pos hc]
theorem hi_small (m : Nat) (h : m ≤ 18446744073709551615) : hi m = 0 := by unfold hi; omega
theorem lo_small (m : Nat) (h : m ≤ 18446744073709551615) : lo m = (m : Int) := by unfold lo; omega
theorem times_nat (a b : Nat) (ha : a ≤ 4611686018427387904) (hb : b ≤ 4611686018427387904) : rat_times.f (a : Int) (b : Int) = some (false, hi (a * b), lo (a * b)) := by
 rw [times_of _ _ (by omega) (by omega) (by omega) (by omega), decide_eq_false (by omega), decide_eq_false (by omega), Int.natAbs_natCast, Int.natAbs_natCast]
 rfl
theorem made_hilo (a b : Nat) (ha : a ≤ 4611686018427387904) (hb : b ≤ 4611686018427387904) : Ev (fun k => rat_made.f k false (hi a) (lo a) false (hi b) (lo b)) ((a : Int), (b : Int), 0) := by
 rw [hi_small a (by omega), lo_small a (by omega), hi_small b (by omega), lo_small b (by omega)]
 exact made_small false a b ha hb
theorem div64_small (m d : Nat) (hm : m ≤ 18446744073709551615) (hd0 : 0 < d) (hd : d ≤ 18446744073709551615) : bits_Div64.f (Int.tmod (hi m) (d : Int)) (lo m) (d : Int) = some (((m / d : Nat) : Int), ((m % d : Nat) : Int)) := by
 rw [hi_small m hm, lo_small m hm]
 unfold bits_Div64.f
 rw [Int.zero_tmod, if_pos (by omega)]
 rfl
theorem over_small (m d : Nat) (hm : m ≤ 18446744073709551615) (hd0 : 0 < d) (hd : d ≤ 18446744073709551615) : rat_wide_over.f false (hi m) (lo m) (d : Int) = some (false, hi (m / d), lo (m / d)) := by
 unfold rat_wide_over.f
 rw [if_neg (by omega), div64_small m d hm hd0 hd]
 have h1 := Nat.div_le_self m d
 rw [hi_small m hm, Int.zero_tdiv, hi_small _ (Nat.le_trans h1 hm), lo_small _ (Nat.le_trans h1 hm)]
 rfl
theorem rem_small (m d : Nat) (hm : m ≤ 18446744073709551615) (hd0 : 0 < d) (hd : d ≤ 18446744073709551615) : bits_Rem64.f (hi m) (lo m) (d : Int) = some ((m % d : Nat) : Int) := by
 unfold bits_Rem64.f
 rw [if_neg (by omega), div64_small m d hm hd0 hd]
 rfl
theorem zero_of (s : Bool) (m : Nat) (hm : m ≤ 18446744073709551615) : rat_wide_zero.f s (hi m) (lo m) = some (decide (m = 0)) := by
 unfold rat_wide_zero.f
 rw [hi_small m hm, lo_small m hm, if_pos rfl]
 congr 1
 rw [Bool.eq_iff_iff]
 simp
theorem ev_rest (n d : Nat) (h0 : 0 < n) (h : n < d) (hd : d ≤ 4611686018427387904) : Ev (fun k => rat_Sub.f k 1 1 (n : Int) (d : Int)) (((d - n : Nat) : Int), (d : Int), 0) := by
 unfold rat_Sub.f rat_Add.f
 rw [u64_of (n := 1) (by omega) (by omega), u64_of (n := (d : Int)) (by omega) (by omega)]
 have hg := gcd2 1 d
 rw [Nat.gcd_one_left] at hg
 refine Ev.bind (a := (((d - n : Nat) : Int), (d : Int), 0)) (Ev.bind hg ?_) (Ev.now _)
 have w1 : wrap64 ((1 : Nat) : Int) = 1 := wrap64_of (by omega) (by omega)
 have wd : wrap64 (Int.tdiv (d : Int) 1) = (d : Int) := by rw [Int.tdiv_one, wrap64_of (by omega) (by omega)]
 have w2 : wrap64 (Int.tdiv 1 1) = 1 := by rw [Int.tdiv_one, wrap64_of (by omega) (by omega)]
 have w3 : wrap64 (-(n : Int)) = -(n : Int) := wrap64_of (by omega) (by omega)
 simp only [w1, wd, w2, w3]
 have t1 : rat_times.f 1 (d : Int) = some (false, hi d, lo d) := by
  have := times_nat 1 d (by omega) hd
  rwa [Nat.one_mul] at this
 have t2 : rat_times.f (-(n : Int)) 1 = some (true, hi n, lo n) := by
  rw [times_of _ _ (by omega) (by omega) (by omega) (by omega), decide_eq_true (by omega), decide_eq_false (by omega)]
  have : (-(n : Int)).natAbs * (1 : Int).natAbs = n := by rw [Int.natAbs_neg, Int.natAbs_natCast]; simp
  rw [this]; rfl
 refine Ev.neg (by omega) (Ev.cbind t1 (Ev.cbind t2 (Ev.cbind (plus_of false true d n (by omega) (by omega)) ?_)))
 simp only [Bool.false_eq_true, if_false, if_pos (Nat.le_of_lt h)]
 refine Ev.cbind (zero_of _ _ (by omega)) (Ev.neg (by simp; omega) ?_)
 have r := rem_small (d - n) 1 (by omega) (by omega) (by omega)
 have hg2 := gcd2 0 1
 rw [Nat.mod_one] at r
 refine Ev.cbind r (Ev.bind hg2 ?_)
 have ov := over_small (d - n) 1 (by omega) (by omega) (by omega)
 rw [Nat.div_one] at ov
 refine Ev.cbind ov ?_
 have w4 : wrap64 ((Nat.gcd 0 1 : Nat) : Int) = 1 := wrap64_of (by decide) (by decide)
 simp only [w4, wd, w2]
 exact Ev.neg (by omega) (Ev.cbind t1 (Ev.bind (made_hilo _ _ (by omega) hd) (Ev.now _)))
end Go.Proofs.Ytfdoncgljohndaa.R
namespace Go.Fld
/-- Bernoulli's inequality, without fractions. -/
theorem bernoulli (x y : Nat) : ∀ m : Nat, x ^ m * (x + m * y) ≤ (x + y) ^ m * x
 | 0 => by simp
 | m + 1 => by
  have ih := bernoulli x y m
  have h1 : x ^ m * (x + m * y) * (x + y) ≤ (x + y) ^ m * x * (x + y) := Nat.mul_le_mul_right _ ih
  have e1 : (x + y) ^ (m + 1) * x = (x + y) ^ m * x * (x + y) := by rw [Nat.pow_succ]; grind
  have e2 : x ^ m * (x + m * y) * (x + y) = x ^ (m + 1) * (x + (m + 1) * y) + x ^ m * (m * y * y) := by rw [Nat.pow_succ]; grind
  omega
theorem ten_of (x y m : Nat) (hx : 0 < x) (h : 9 * x ≤ m * y) : 10 * x ^ m ≤ (x + y) ^ m := by
 have hb := bernoulli x y m
 have h1 : x ^ m * (10 * x) ≤ x ^ m * (x + m * y) := Nat.mul_le_mul_left _ (by omega)
 have h2 : x ^ m * (10 * x) = 10 * x ^ m * x := by grind
 exact Nat.le_of_mul_le_mul_right (by rw [← h2]; exact Nat.le_trans h1 hb) hx
theorem hundred_of (x y n : Nat) (hx : 0 < x) (h : 9 * x ≤ (n / 2) * y) : 100 * x ^ n ≤ (x + y) ^ n := by
 have ht := ten_of x y (n / 2) hx h
 have hs : (10 * x ^ (n / 2)) * (10 * x ^ (n / 2)) ≤ (x + y) ^ (n / 2) * (x + y) ^ (n / 2) := Nat.mul_le_mul ht ht
 have e1 : (x + y) ^ (n / 2) * (x + y) ^ (n / 2) = (x + y) ^ (n / 2 + n / 2) := (Nat.pow_add _ _ _).symm
 have e2 : (10 * x ^ (n / 2)) * (10 * x ^ (n / 2)) = 100 * x ^ (n / 2 + n / 2) := by rw [Nat.pow_add]; grind
 rw [e1, e2] at hs
 rcases Nat.mod_two_eq_zero_or_one n with h0 | h0
 ·rwa [show n / 2 + n / 2 = n by omega] at hs
 ·obtain ⟨q, hq⟩ : ∃ q, q = n / 2 + n / 2 := ⟨_, rfl⟩
  have hn : n = q + 1 := by omega
  rw [← hq] at hs
  rw [hn, Nat.pow_succ, Nat.pow_succ, ← Nat.mul_assoc]
  exact Nat.mul_le_mul hs (by omega)
/-- One look. -/
theorem look_step (D N x l : Nat) (hD : 0 < D) (hx : D = x + N) : (D : Int) * ((N : Int) * (((l * x + D - 1) / D : Nat) : Int) - ((D : Int) - 1)) ≤ ((N : Int) * (l : Int) - ((D : Int) - 1)) * (x : Int) := by
 obtain ⟨q, hq⟩ : ∃ q, q = (l * x + D - 1) / D := ⟨_, rfl⟩
 have h : q * D ≤ l * x + D - 1 := by rw [hq]; exact Nat.div_mul_le_self _ _
 rw [← hq]
 have h2 : q * D + 1 ≤ l * x + D := by omega
 have h3 : ((q * D + 1 : Nat) : Int) ≤ ((l * x + D : Nat) : Int) := by exact_mod_cast h2
 simp only [Int.natCast_add, Int.natCast_mul] at h3
 have h4 : (0 : Int) ≤ (N : Int) * ((l : Int) * (x : Int) + (D : Int) - ((q : Int) * (D : Int) + 1)) := Int.mul_nonneg (by omega) (by have : ((1 : Nat) : Int) = 1 := rfl; omega)
 have hD' : (D : Int) = (x : Int) + (N : Int) := by exact_mod_cast hx
 have e : ((N : Int) * (l : Int) - ((D : Int) - 1)) * (x : Int) - (D : Int) * ((N : Int) * (q : Int) - ((D : Int) - 1)) = (N : Int) * ((l : Int) * (x : Int) + (D : Int) - ((q : Int) * (D : Int) + 1)) := by rw [hD']; grind
 omega
/-- What is left at a number of looks. -/
def Pot (D N x : Nat) (i l : Nat) : Prop := (D : Int) ^ i * ((N : Int) * (l : Int) - ((D : Int) - 1)) ≤ ((N : Int) * 1099511627776 - ((D : Int) - 1)) * (x : Int) ^ i
theorem pot_start (D N x : Nat) : Pot D N x 0 1099511627776 := by unfold Pot; simp
theorem pot_step {D N x i l : Nat} (hD : 0 < D) (hx : D = x + N) (h : Pot D N x i l) : Pot D N x (i + 1) ((l * x + D - 1) / D) := by
 unfold Pot at h ⊢
 have hs := look_step D N x l hD hx
 generalize (((l * x + D - 1) / D : Nat) : Int) = q at hs
 have hp : (0 : Int) ≤ (D : Int) ^ i := Int.pow_nonneg (by omega)
 have h1 := Int.mul_le_mul_of_nonneg_left hs hp
 have h2 := Int.mul_le_mul_of_nonneg_right h (show (0 : Int) ≤ (x : Int) by omega)
 rw [Int.pow_succ, Int.pow_succ]
 have e1 : (D : Int) ^ i * (D : Int) * ((N : Int) * q - ((D : Int) - 1)) = (D : Int) ^ i * ((D : Int) * ((N : Int) * q - ((D : Int) - 1))) := by grind
 have e2 : ((N : Int) * 1099511627776 - ((D : Int) - 1)) * ((x : Int) ^ i * (x : Int)) = ((N : Int) * 1099511627776 - ((D : Int) - 1)) * (x : Int) ^ i * (x : Int) := by grind
 have e3 : (D : Int) ^ i * (((N : Int) * (l : Int) - ((D : Int) - 1)) * (x : Int)) = (D : Int) ^ i * ((N : Int) * (l : Int) - ((D : Int) - 1)) * (x : Int) := by grind
 rw [e1, e2]
 rw [e3] at h1
 exact Int.le_trans h1 h2
/-- After n looks. -/
theorem pot_end {D N x n l : Nat} (hN : 0 < N) (hx0 : 0 < x) (hx : D = x + N) (hD : D ≤ 65535) (h9 : 9 * x ≤ (n / 2) * N) (h : Pot D N x n l) : l ≤ 54975581388 := by
 unfold Pot at h
 have hh := hundred_of x N n hx0 h9
 rw [← hx] at hh
 have hh' : (100 : Int) * (x : Int) ^ n ≤ (D : Int) ^ n := by exact_mod_cast hh
 have hxp : (0 : Int) < (x : Int) ^ n := Int.pow_pos (by omega)
 have hNl : (l : Int) ≤ (N : Int) * (l : Int) := by
  have := Nat.le_mul_of_pos_left l hN
  exact_mod_cast this
 by_cases hneg : (N : Int) * (l : Int) - ((D : Int) - 1) ≤ 0
 ·omega
 ·have h1 : (100 : Int) * (x : Int) ^ n * ((N : Int) * (l : Int) - ((D : Int) - 1)) ≤ (D : Int) ^ n * ((N : Int) * (l : Int) - ((D : Int) - 1)) := Int.mul_le_mul_of_nonneg_right hh' (by omega)
  have h2 := Int.le_trans h1 h
  have e1 : (100 : Int) * (x : Int) ^ n * ((N : Int) * (l : Int) - ((D : Int) - 1)) = (100 * ((N : Int) * (l : Int) - ((D : Int) - 1))) * (x : Int) ^ n := by grind
  rw [e1] at h2
  have h3 := Int.le_of_mul_le_mul_right h2 hxp
  -- 100 (N l - (D - 1)) ≤ N 2^40 - (D - 1)
  have h4 : (N : Int) * (100 * (l : Int)) ≤ (N : Int) * (1099511627776 + 99 * 65535) := by
   have e2 : (N : Int) * (100 * (l : Int)) = 100 * ((N : Int) * (l : Int)) := by grind
   have e3 : (N : Int) * (1099511627776 + 99 * 65535) = (N : Int) * 1099511627776 + (N : Int) * (99 * 65535) := by grind
   rw [e2, e3]
   have : (1 : Int) * (99 * 65535) ≤ (N : Int) * (99 * 65535) := Int.mul_le_mul_of_nonneg_right (by omega) (by omega)
   omega
  have h5 := Int.le_of_mul_le_mul_left h4 (show (0 : Int) < (N : Int) by omega)
  omega
end Go.Fld
namespace Go.Proofs.Ytfdoncgljohndaa.Pure
open Go.RowKit Go.Fld Go.Proofs.Ytfdoncgljohndaa.P Go.Proofs.Ytfdoncgljohndaa.R Go.Proofs.YtfdoncgljohndaaW.PrintWords Go.Proofs.YtfdoncgljohndaaW.PrintLast Go.Proofs.YtfdoncgljohndaaW.PrintMore
theorem fb_arith (p D : Nat) (hp : p ≤ 72056494526300160) (hD : D ≤ 65535) (hD0 : 0 < D) (hq : (p + D - 1) / D ≤ 1099511627776) :
  wrap64 (Int.tdiv (wrap64 (wrap64 (wrap64 (p : Int) + (D : Int)) - 1)) (D : Int)) = (((p + D - 1) / D : Nat) : Int) := by
 rw [wrap64_of (n := (p : Int)) (by omega) (by omega), wrap64_of (n := (p : Int) + (D : Int)) (by omega) (by omega), wrap64_of (n := (p : Int) + (D : Int) - 1) (by omega) (by omega)]
 have e3 : (p : Int) + (D : Int) - 1 = ((p + D - 1 : Nat) : Int) := by omega
 rw [e3]
 have e4 : Int.tdiv ((p + D - 1 : Nat) : Int) (D : Int) = (((p + D - 1) / D : Nat) : Int) := rfl
 rw [e4]
 generalize (p + D - 1) / D = q at hq
 exact wrap64_of (by omega) (by omega)
theorem fb_le (l x D N : Nat) (hl : l ≤ 1099511627776) (hN : 0 < N) (hx : D = x + N) (hD : D ≤ 65535) : l * x ≤ 72056494526300160 ∧ (l * x + D - 1) / D ≤ 1099511627776 := by
 have hlx : l * x ≤ 1099511627776 * x := Nat.mul_le_mul_right _ hl
 refine ⟨by omega, Nat.div_le_of_le_mul ?_⟩
 omega
theorem fb_l0 (n D N x : Nat) (hn : n ≤ 65535) (hN : 0 < N) (hx0 : 0 < x) (hx : D = x + N) (hD : D ≤ 65535) (h9 : 9 * x ≤ (n / 2) * N) : ∀ (d i l : Nat), i + d = n → l ≤ 1099511627776 → Pot D N x i l →
  Ev (fun k => parolelaw32_FieldBounds.l0 k true (n : Int) (l : Int) (i : Int) (x : Int) (D : Int)) true := by
 intro d
 induction d with
 | zero =>
  intro i l hi hl hp
  refine Ev.succ ?_
  simp only [parolelaw32_FieldBounds.l0]
  obtain rfl : i = n := by omega
  have := pot_end hN hx0 hx hD h9 hp
  refine Ev.neg (by omega) (Ev.pos trivial ?_)
  rw [decide_eq_true (by omega)]
  exact Ev.now _
 | succ d ih =>
  intro i l hi hl hp
  refine Ev.succ ?_
  simp only [parolelaw32_FieldBounds.l0]
  refine Ev.pos (by omega) ?_
  by_cases hb : (l : Int) > 54975581388
  ·refine Ev.pos hb (Ev.neg (by omega) ?_)
   obtain ⟨hlx, hq⟩ := fb_le l x D N hl hN hx hD
   have e0 : (l : Int) * (x : Int) = ((l * x : Nat) : Int) := by rw [Int.natCast_mul]
   have hp' := pot_step (by omega) hx hp
   have hi2 : i + 1 + d = n := by omega
   have hw : wrap64 ((i : Int) + 1) = ((i + 1 : Nat) : Int) := by rw [wrap64_of (by omega) (by omega)]; omega
   rw [e0, fb_arith _ D hlx hD (by omega) hq, hw]
   exact ih (i + 1) _ hi2 hq hp'
  ·refine Ev.neg hb (Ev.pos trivial ?_)
   rw [decide_eq_true (by omega)]
   exact Ev.now _
theorem boundR_looks (n : Nat) (hn : n ≤ 200000) : boundR 1099511627776 n 0 = ((rn 19 (max 19 n) : Int), (rd_ 19 (max 19 n) : Int), 0) := by
 unfold boundR rn rd_
 rw [if_pos rfl, if_neg (by omega)]
theorem FieldBounds : parolelaw32_FieldBounds.Pure := by
 intro a0 a1 h0 h1
 have b0 := wf_u16 h0
 have b1 := wf_u16 h1
 obtain ⟨n, rfl⟩ := Int.eq_ofNat_of_zero_le b0.1
 obtain ⟨m, rfl⟩ := Int.eq_ofNat_of_zero_le b1.1
 refine Ev.rounds (g := fun k => parolelaw32_FieldBounds.f k (n : Int) (m : Int)) ?_
 unfold parolelaw32_FieldBounds.f
 have w0 : wrap64 (n : Int) = (n : Int) := wrap64_of (by omega) (by omega)
 have w1 : wrap64 (m : Int) = (m : Int) := wrap64_of (by omega) (by omega)
 have w2 : wrap64 ((n : Int) + (m : Int)) = ((n + m : Nat) : Int) := by rw [wrap64_of (by omega) (by omega)]; omega
 rw [w0, w1, w2]
 clear w0 w1 w2
 have ha := ev_bound 0 0 0 1099511627776 n 0 (by omega)
 have hb := ev_bound 0 0 0 1099511627776 (n + m) 0 (by omega)
 rw [boundR_looks _ (by omega)] at ha hb
 refine Ev.cbind (a := true) rfl (Ev.pos rfl (Ev.bind ha (Ev.bind hb (Ev.pos rfl (Ev.pos rfl ?_)))))
 obtain ⟨M, hM⟩ : ∃ M, M = max 19 n := ⟨_, rfl⟩
 obtain ⟨M2, hM2⟩ : ∃ M, M = max 19 (n + m) := ⟨_, rfl⟩
 rw [← hM, ← hM2]
 have p19 : 0 < rn 19 M := rn_pos 19 M (by omega)
 have pM : 0 < rd_ 19 M := rd_pos 19 M (by omega)
 have l19 : rn 19 M ≤ 19 := rn_le 19 M
 have lM : rd_ 19 M ≤ M := rd_le 19 M
 have l19' : rn 19 M2 ≤ 19 := rn_le 19 M2
 have lM' : rd_ 19 M2 ≤ M2 := rd_le 19 M2
 obtain ⟨q1, q2⟩ := red_eq 19 M
 have hg : 0 < Nat.gcd 19 M := Nat.gcd_pos_of_pos_left M (by omega)
 have hcop := red_gcd 19 M (by omega)
 have hAB : rn 19 M ≤ rd_ 19 M := by
  have : rn 19 M * Nat.gcd 19 M ≤ rd_ 19 M * Nat.gcd 19 M := by rw [← q1, ← q2]; omega
  exact Nat.le_of_mul_le_mul_right this hg
 have c1 := cmp_nat (rn 19 M) (rd_ 19 M) 0 1 (by omega) (by omega) (by omega) (by omega)
 rw [if_neg (by omega), if_neg (by omega)] at c1
 have c2 : ∃ t, rat_Cmp.f (rn 19 M : Int) (rd_ 19 M : Int) 1 1 = some t ∧ ¬ t > 0 := by
  have := cmp_nat (rn 19 M) (rd_ 19 M) 1 1 (by omega) (by omega) (by omega) (by omega)
  refine ⟨_, this, ?_⟩
  by_cases he : rn 19 M = rd_ 19 M
  ·rw [← he, Nat.gcd_self] at hcop
   rw [if_pos ⟨hcop, by rw [← he]; exact hcop⟩]
   omega
  ·split
   ·omega
   ·rw [if_pos (by omega)]
    omega
 obtain ⟨t2, hc2, ht2⟩ := c2
 have c3 : ∃ t, rat_Cmp.f (rn 19 M2 : Int) (rd_ 19 M2 : Int) (rn 19 M : Int) (rd_ 19 M : Int) = some t ∧ ¬ t > 0 := by
  by_cases he : M2 = M
  ·rw [he]
   refine ⟨_, cmp_nat (rn 19 M) (rd_ 19 M) (rn 19 M) (rd_ 19 M) (by omega) (by omega) (by omega) (by omega), ?_⟩
   rw [if_pos ⟨rfl, rfl⟩]
   omega
  ·exact ⟨-1, cmp_less 19 M2 19 M (by omega) (by omega) (by omega) (by omega) (by omega) (by omega) (by omega), by omega⟩
 obtain ⟨t3, hc3, ht3⟩ := c3
 refine Ev.cbind c1 (Ev.neg (by omega) (Ev.cbind hc2 (Ev.neg ht2 (Ev.cbind hc3 ?_))))
 rw [decide_eq_false ht3]
 refine Ev.succ ?_
 simp only [parolelaw32_FieldBounds.j0]
 refine Ev.neg (by simp) ?_
 by_cases he : rn 19 M = 1 ∧ rd_ 19 M = 1
 ·rw [he.1] at q1
  rw [he.2] at q2
  rw [he.1, he.2]
  refine Ev.pos (by decide) (Ev.pos trivial ?_)
  rw [decide_eq_true (by omega)]
  exact Ev.now _
 ·have hlt : rn 19 M < rd_ 19 M := by
   rcases Nat.lt_or_ge (rn 19 M) (rd_ 19 M) with h | h
   ·exact h
   ·exfalso
    have e : rn 19 M = rd_ 19 M := by omega
    rw [← e, Nat.gcd_self] at hcop
    exact he ⟨hcop, by rw [← e]; exact hcop⟩
  have hMn : M = n := by
   rcases Nat.lt_or_ge n 20 with h | h
   ·exfalso
    have : M = 19 := by omega
    rw [this] at hlt
    unfold rn rd_ at hlt
    omega
   ·omega
  refine Ev.neg ?_ (Ev.bind (ev_rest (rn 19 M) (rd_ 19 M) p19 hlt (by omega)) (Ev.pos rfl ?_))
  ·intro h
   simp only [Bool.and_eq_true, beq_iff_eq] at h
   exact he ⟨by omega, by omega⟩
  ·refine fb_l0 n (rd_ 19 M) (rn 19 M) (rd_ 19 M - rn 19 M) (by omega) p19 (by omega) (by omega) (by omega) ?_ n 0 1099511627776 (by omega) (by omega) (pot_start _ _ _)
   refine Nat.le_of_mul_le_mul_right ?_ hg
   have e1 : 9 * (rd_ 19 M - rn 19 M) * Nat.gcd 19 M = 9 * (M - 19) := by
    rw [Nat.mul_assoc, Nat.sub_mul, ← q1, ← q2]
   have e2 : n / 2 * rn 19 M * Nat.gcd 19 M = n / 2 * 19 := by rw [Nat.mul_assoc, ← q1]
   rw [e1, e2]
   omega
end Go.Proofs.Ytfdoncgljohndaa.Pure
namespace Go.Proofs.Ytfdoncgljohndaa.fieldBounds
open Go.ChangeShapes Go.WideShapes Go.ChangeAt Go.RowKit
open Go.ChangeMaps (open_string shut_string)
theorem own : ownKnob Try.prog.godebug = none := by kernel_rfl
set_option maxRecDepth 100000 in
theorem lifted (os : Os) (started : os.Started) (H : Type) (enc : TypeId × Value → H) :
  ReturnsInHanded {} Try.checked os 8 .any (Rows.fieldBoundsSpec.pre6 enc Try.prog Try.f8 Rows.fieldBoundsRow.domain false) (Rows.fieldBoundsSpec.post enc Try.prog Try.f8 false true false false) := by
 refine returnsInHanded_of_change_sized (C := Try.checked) own started (by kernel_rfl) Try.func8
  (ChangeSpec.witness6 (enc := enc) (C := Try.checked) false ⟨#[], #[.int .u16 0, .int .u16 0], []⟩ 8 (by kernel_rfl) (by kernel_rfl) (by kernel_rfl) (by kernel_rfl)) ?_
 intro W base args ds gs before hval0 hW hcnd hsz0 _
 have hsz : (DataW.weightsEach Try.prog (Try.f8.params.toList ++ Rows.fieldBoundsSpec.plain.varTypes Try.prog) (ds ++ gs)).all (· ≤ reachBytes) = true := hsz0
 have hval : ∀ (j : Nat) t v, Try.f8.params[j]? = some t → args[j]? = some v → Value.okWide Try.prog W .any base t v := hval0
 have hW' := hW
 obtain ⟨p, q, hA0, hV, rfl, hfz, hnd⟩ := hW
 have hA : DataW.TrodAll enc Try.prog W 0 (fun _ => true) true Try.f8.params.toList args.toList ds p := hA0
 rw [Try.params8] at hA hval hsz
 obtain ⟨v0, vs0, d0, ds0, p0, q0, hargs, rfl, rfl, h0, r0⟩ := trodAll_cons hA
 obtain ⟨v1, vs1, d1, ds1, p1, q1, rfl, rfl, rfl, h1, r1⟩ := trodAll_cons r0
 obtain ⟨rfl, rfl, rfl⟩ := trodAll_nil r1
 obtain rfl : args = #[v0, v1] := by cases args; simp_all
 obtain ⟨rfl, rfl⟩ := trodVars_none hV
 obtain ⟨a0, rfl, rfl, rfl, w0⟩ := open_int Try.underlying61 (hval 0 61 v0 rfl rfl) h0
 obtain ⟨a1, rfl, rfl, rfl, w1⟩ := open_int Try.underlying61 (hval 1 61 v1 rfl rfl) h1
 clear hA0 hval0 hsz0 hsz
 refine (P.parolelaw32_FieldBounds.walk Pure.FieldBounds a0 a1 W w0 w1).mono fun e W' ⟨he, bel⟩ => ?_
 subst he
 exact ⟨_, rfl, _, _, _, [], _, [], hW', trodAll_mk1 (shut_bool Try.underlying4 _), (trodAll_cons_mk (shut_int Try.underlying61 w0) (trodAll_cons_mk (shut_int Try.underlying61 w1) trodAll_mk0)), rfl, bel.frame _, fun h => by cases h⟩
theorem over : Rows.fieldBoundsRow.holds Try.pinned (OpenSpec.ofChange Rows.fieldBoundsSpec) :=
 OpenClaim.holds_of_wide 8 Try.f8 rfl rfl rfl rfl rfl rfl rfl ⟨rfl, rfl, rfl, rfl, rfl⟩ rfl rfl rfl rfl rfl (by kernel_rfl) Try.func8 (by kernel_rfl)
  (of_decide_eq_true (by kernel_rfl)) (by unfold Func.isWrapper; first | (rw [if_pos (by decide +kernel)]; kernel_rfl) | (rw [if_neg (by decide +kernel)]; exact ⟨rfl, rfl⟩))
  (fun os started H enc _ => lifted os started H enc)
theorem proved : Rows.FieldBoundsSaid := over
end Go.Proofs.Ytfdoncgljohndaa.fieldBounds
namespace Go.Proofs.Ytfdoncgljohndaa
/-- The row, under a short name, for the claim. -/
theorem fieldBounds_holds : Rows.FieldBoundsSaid := fieldBounds.proved
end Go.Proofs.Ytfdoncgljohndaa

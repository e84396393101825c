/- A part of the claim PriceSettles: lemmas, printed functions with their contracts, plain laws. -/
import Derived.Test.YtohnkcmbogcfhaacPriceSettles6
set_option linter.unusedVariables false
set_option linter.unusedSimpArgs false
namespace Go.Proofs.Ytohnkcmbogcfhaa.P
open Go.Proofs.YtohnkcmbogcfhaaH Go.RowKit Go.Proofs.YtohnkcmbogcfhaaW.PrintWords Go.Proofs.YtohnkcmbogcfhaaW.PrintLast Go.Proofs.YtohnkcmbogcfhaaW.PrintMore
attribute [local go_sem] max2_int min2_int max_two min_two max_three min_three max_four min_four   -- for this text's walks alone
attribute [local go_sem] Go.Proofs.YtohnkcmbogcfhaaH.cell_set_map
def rat_Sum.l0 : Nat → Int → List (S35) → Int → Int → Int → Int → Option (Int × Int × Int)
 | 0, _, _, _, _, _, _ => none
 | k + 1, x5, x12, x13, x14, x106000, x106001 => if x14 < x13 then (if 0 ≤ x14 then (if x14 < (x12.length : Int) then ((rat_Add.f k x106000 x106001 ((rd_T35 x12 x14).f0) ((rd_T35 x12 x14).f1)).bind fun bt108 => (if bt108.2.2 = 0 then (rat_Sum.l0 k bt108.2.2 x12 x13 (wrap64 (x14 + 1)) bt108.1 bt108.2.1) else (some (bt108.1, bt108.2.1, bt108.2.2)))) else (none)) else (none)) else (some (x106000, x106001, x5))
def rat_Sum.f (k : Nat) (l0 : List (S35)) : Option (Int × Int × Int) := (rat_zero.f).bind fun bt102 => (rat_Sum.l0 k bt102.2.2 l0 (l0.length : Int) 0 bt102.1 bt102.2.1)
set_option maxHeartbeats 40000000 in
set_option maxRecDepth 100000 in
theorem rat_Sum.calls (k : Nat) (A0 : Option Addr) (c0 : Nat) (l0 : List (S35)) (r1 : Int) (r2 : Int) (r3 : Int) (w : World) (hr0 : Kd.C k35 w A0 l0.length l0) (hc0 : l0.length ≤ c0) (h : rat_Sum.f k l0 = some (r1, r2, r3)) :
  Calls Try.prog 102 #[.slice A0 l0.length c0] w fun e w' => e = .returned (.tuple #[.agg #[.int .i64 r1, .int .i64 r2], .int .i64 r3]) ∧ Below w.heap.size w w' := by
 have hu35 := Try.underlying35; have HR0 := aM hr0; have HC0 := aM hc0; clear hr0 hc0; have HB := aM (Below.refl w.heap.size w)
 have H : ((rat_zero.f).bind fun bt102 => (rat_Sum.l0 k bt102.2.2 l0 (l0.length : Int) 0 bt102.1 bt102.2.1)) = some (r1, r2, r3) := h
 clear h; replace H := Option.bind_eq_some_iff.mp H
 obtain ⟨⟨t102, t103, t104⟩, A20, H⟩ := H
 replace H : (rat_Sum.l0 k t104 l0 (l0.length : Int) 0 t102 t103) = some (r1, r2, r3) := H
 have A2 := aM A20; clear A20; have H' := aM H; clear H
 go_enter Try.func102, Try.ntmps102
 go_wp2_with (first | ((with_reducible refine gate_dst (N := 2) rfl ?_); refine bE (N := 2) (cs := #[.int .i64 0, .int .i64 0]) (t := 35) ?_; intro gb101 hg w3 hbox hb; have BK101 := aM (hbox); have GW101 := gE hg HB; have GE101 := gE hg HB; replace HB := sB HB hb; clear hb hbox hg) | ((with_reducible refine gate_callee (f := 75) rfl ?_); refine gL (some 9) Try.func75 #[] ?_; (with_reducible refine (rat_zero.calls  t102 t103 t104 _ A2.out).mono ?_); rintro e w4 ⟨rfl, hb⟩; refine ⟨_, rfl, ?_⟩; replace BK101 := bB BK101 hb; replace HB := sB HB hb; (try clear hb)) | ((with_reducible refine gate_dst (N := 4) rfl ?_); refine bE (N := 4) (cs := #[.int .i64 0, .int .i64 0]) (t := 35) ?_; intro gb105 hg w5 hbox hb; have BK105 := aM (hbox); have GW105 := gE hg HB; have GE105 := gE hg HB; obtain ⟨NB101_105, NB105_101⟩ := nB hg BK101; replace BK101 := bB BK101 hb; replace HB := sB HB hb; clear hb hbox hg; have hnb6 := NB105_101.out; have hnc6 := NB101_105.out; obtain ⟨hcz7_0, hcz7_1, hfz7_0, hfz7_1⟩ := cZ2 BK105))
 go_loopg [5, 14] k (fun kq v5 v14 w' => ∃ (x5_1 : Int) (x14_1 : Int) (x106000_1 : Int) (x106001_1 : Int), v5 = .int .i64 x5_1 ∧ v14 = .int .i64 x14_1 ∧ Aside0 (rat_Sum.l0 kq x5_1 l0 (l0.length : Int) x14_1 x106000_1 x106001_1 = some (r1, r2, r3)) ∧ Aside0 (kq ≤ k) ∧ Aside0 (w'.heap[gb101]? = some (.cells #[.int .i64 0, .int .i64 0] 35 (0, 0))) ∧ Aside0 (w'.heap[gb105]? = some (.cells #[.int .i64 x106000_1, .int .i64 x106001_1] 35 (0, 0))) ∧ Aside0 (Below w.heap.size w w'))
 case atStart => exact ⟨(t104), (0), (t102), (t103), (by first | rfl | (simp; done) | (simp [*]; done)), (by first | rfl | (simp; done) | (simp [*]; done)), H', ⟨Nat.le_refl _⟩, ⟨bF BK101⟩, ⟨by refine bM ?_; refine blk_put (cs := #[.int .i64 t102, .int .i64 0]) ?_ 1 _ rfl; refine bM ?_; refine blk_put (cs := #[.int .i64 0, .int .i64 0]) ?_ 0 _ rfl; exact bD BK105⟩, ⟨sD HB⟩⟩
 case round =>
  clear H'
  try clear c1
  try clear p2
  try clear c6
  try clear c7
  try clear hcz7_0
  try clear hcz7_1
  try clear hfz7_0
  try clear hfz7_1
  obtain ⟨x5_1, x14_1, x106000_1, x106001_1, rfl, rfl, HA, HK1, BK101, BK105, HB⟩ := hrel
  cases gk with
  | zero => exact absurd HA.out (by simp [rat_Sum.l0])
  | succ k1 =>
   have H := HA.out; clear HA
   simp only [rat_Sum.l0] at H
   by_cases c8 : x14_1 < (l0.length : Int)
   ·rw [if_pos c8] at H
    have c8b0 : decide (x14_1 < (l0.length : Int)) = true := decide_eq_true c8
    clear c8
    by_cases c9 : 0 ≤ x14_1
    ·rw [if_pos c9] at H
     have c9b0 : decide (0 ≤ x14_1) = true := decide_eq_true c9
     clear c9
     by_cases c10 : x14_1 < (l0.length : Int)
     ·rw [if_pos c10] at H
      have c10b0 : decide (x14_1 < (l0.length : Int)) = true := decide_eq_true c10
      clear c10; replace H := Option.bind_eq_some_iff.mp H
      obtain ⟨⟨t108, t109, t110⟩, A110, H⟩ := H
      replace H : (if t110 = 0 then (rat_Sum.l0 k1 t110 l0 (l0.length : Int) (wrap64 (x14_1 + 1)) t108 t109) else (some (t108, t109, t110))) = some (r1, r2, r3) := H
      have A11 := aM A110; clear A110
      by_cases c12 : t110 = 0
      ·rw [if_pos c12] at H
       have c12b0 : (t110 == 0) = true := beq_iff_eq.mpr c12
       have c12b1 : (t110 != 0) = false := bne_eq_false_iff_eq.mpr c12
       clear c12; have H' := aM H; clear H
       have p106 : 0 ≤ (x14_1 : Int) := of_decide_eq_true (by first | (with_reducible assumption) | assumption)
       have q106 : x14_1 < (l0.length : Int) := of_decide_eq_true (by first | (with_reducible assumption) | assumption)
       obtain ⟨ad106, e106, hx106_0, hx106_1⟩ := at_T35 HR0.out x14_1 p106 q106
       cases e106
       replace hx106_0 := (HB.out.cell (World.block_lt_of_cell? w _ hx106_0)).trans hx106_0; replace hx106_1 := (HB.out.cell (World.block_lt_of_cell? w _ hx106_1)).trans hx106_1; replace p106 := eq_true p106; replace q106 := eq_true q106
       go_wp2_with (first | ((with_reducible refine gate_dst (N := 7) rfl ?_); refine bE (N := 7) (cs := #[.int .i64 0, .int .i64 0]) (t := 35) ?_; intro gb107 hg w13 hbox hb; have BK107 := aM (hbox); have GW107 := gE hg HB; have GE107 := gE hg HB; obtain ⟨NB101_107, NB107_101⟩ := nB hg BK101; obtain ⟨NB105_107, NB107_105⟩ := nB hg BK105; replace BK101 := bB BK101 hb; replace BK105 := bB BK105 hb; replace HB := sB HB hb; clear hb hbox hg; have hnb14 := NB107_101.out; have hnc14 := NB101_107.out; have hnb15 := NB107_105.out; have hnc15 := NB105_107.out; obtain ⟨hcz16_0, hcz16_1, hfz16_0, hfz16_1⟩ := cZ2 BK107; have hnb17 := NB105_101.out; have hnc17 := NB101_105.out; obtain ⟨hcz18_0, hcz18_1, hfz18_0, hfz18_1⟩ := cZ2 BK105) | ((with_reducible refine gate_callee (f := 50) rfl ?_); refine gL (some 21) Try.func50 #[.agg #[.int .i64 x106000_1, .int .i64 x106001_1], .agg #[.int .i64 ((rd_T35 l0 x14_1).f0), .int .i64 ((rd_T35 l0 x14_1).f1)]] ?_; (with_reducible refine (rat_Add.calls k1 x106000_1 x106001_1 ((rd_T35 l0 x14_1).f0) ((rd_T35 l0 x14_1).f1) t108 t109 t110 _ A11.out).mono ?_); rintro e w19 ⟨rfl, hb⟩; refine ⟨_, rfl, ?_⟩; replace BK101 := aM (blk_below (g := gb101) (o := .cells #[.int .i64 0, .int .i64 0] 35 (0, 0)) (bF BK101) hb); replace BK105 := aM (blk_below (g := gb105) (o := .cells #[.int .i64 x106000_1, .int .i64 x106001_1] 35 (0, 0)) (bF BK105) hb); replace BK107 := aM (blk_below (g := gb107) (o := .cells #[.int .i64 ((rd_T35 l0 x14_1).f0), .int .i64 ((rd_T35 l0 x14_1).f1)] 35 (0, 0)) (by refine bM ?_; refine blk_put (cs := #[.int .i64 ((rd_T35 l0 x14_1).f0), .int .i64 0]) ?_ 1 _ rfl; refine bM ?_; refine blk_put (cs := #[.int .i64 0, .int .i64 0]) ?_ 0 _ rfl; exact bD BK107) hb); replace HB := sB HB hb; (try clear hb); obtain ⟨hcz20_0, hcz20_1, hfz20_0, hfz20_1⟩ := cZ2 BK105))
       go_roundg k1
       case measure => have := HK1.out; omega
       case rel => exact ⟨(t110), (wrap64 (x14_1 + 1)), (t108), (t109), (by first | rfl | (simp; done) | (simp [*]; done)), (by first | rfl | (simp; done) | (simp [*]; done)), H', ⟨by have := HK1.out; omega⟩, ⟨bF BK101⟩, ⟨by refine bM ?_; refine blk_put (cs := #[.int .i64 t108, .int .i64 x106001_1]) ?_ 1 _ rfl; refine bM ?_; refine blk_put (cs := #[.int .i64 x106000_1, .int .i64 x106001_1]) ?_ 0 _ rfl; exact bD BK105⟩, ⟨sD HB⟩⟩
      ·rw [if_neg c12] at H
       have c12b0 : (t110 == 0) = false := beq_eq_false_iff_ne.mpr c12
       have c12b1 : (t110 != 0) = true := bne_iff_ne.mpr c12
       simp only [Option.some.injEq, Prod.mk.injEq] at H
       obtain ⟨rfl, rfl, rfl⟩ := H
       have p106 : 0 ≤ (x14_1 : Int) := of_decide_eq_true (by first | (with_reducible assumption) | assumption)
       have q106 : x14_1 < (l0.length : Int) := of_decide_eq_true (by first | (with_reducible assumption) | assumption)
       obtain ⟨ad106, e106, hx106_0, hx106_1⟩ := at_T35 HR0.out x14_1 p106 q106
       cases e106
       replace hx106_0 := (HB.out.cell (World.block_lt_of_cell? w _ hx106_0)).trans hx106_0; replace hx106_1 := (HB.out.cell (World.block_lt_of_cell? w _ hx106_1)).trans hx106_1; replace p106 := eq_true p106; replace q106 := eq_true q106
       go_wp2_with (first | ((with_reducible refine gate_dst (N := 7) rfl ?_); refine bE (N := 7) (cs := #[.int .i64 0, .int .i64 0]) (t := 35) ?_; intro gb107 hg w21 hbox hb; have BK107 := aM (hbox); have GW107 := gE hg HB; have GE107 := gE hg HB; obtain ⟨NB101_107, NB107_101⟩ := nB hg BK101; obtain ⟨NB105_107, NB107_105⟩ := nB hg BK105; replace BK101 := bB BK101 hb; replace BK105 := bB BK105 hb; replace HB := sB HB hb; clear hb hbox hg; have hnb22 := NB107_101.out; have hnc22 := NB101_107.out; have hnb23 := NB107_105.out; have hnc23 := NB105_107.out; obtain ⟨hcz24_0, hcz24_1, hfz24_0, hfz24_1⟩ := cZ2 BK107; have hnb25 := NB105_101.out; have hnc25 := NB101_105.out; obtain ⟨hcz26_0, hcz26_1, hfz26_0, hfz26_1⟩ := cZ2 BK105) | ((with_reducible refine gate_callee (f := 50) rfl ?_); refine gL (some 21) Try.func50 #[.agg #[.int .i64 x106000_1, .int .i64 x106001_1], .agg #[.int .i64 ((rd_T35 l0 x14_1).f0), .int .i64 ((rd_T35 l0 x14_1).f1)]] ?_; (with_reducible refine (rat_Add.calls k1 x106000_1 x106001_1 ((rd_T35 l0 x14_1).f0) ((rd_T35 l0 x14_1).f1) t108 t109 t110 _ A11.out).mono ?_); rintro e w27 ⟨rfl, hb⟩; refine ⟨_, rfl, ?_⟩; replace BK101 := aM (blk_below (g := gb101) (o := .cells #[.int .i64 0, .int .i64 0] 35 (0, 0)) (bF BK101) hb); replace BK105 := aM (blk_below (g := gb105) (o := .cells #[.int .i64 x106000_1, .int .i64 x106001_1] 35 (0, 0)) (bF BK105) hb); replace BK107 := aM (blk_below (g := gb107) (o := .cells #[.int .i64 ((rd_T35 l0 x14_1).f0), .int .i64 ((rd_T35 l0 x14_1).f1)] 35 (0, 0)) (by refine bM ?_; refine blk_put (cs := #[.int .i64 ((rd_T35 l0 x14_1).f0), .int .i64 0]) ?_ 1 _ rfl; refine bM ?_; refine blk_put (cs := #[.int .i64 0, .int .i64 0]) ?_ 0 _ rfl; exact bD BK107) hb); replace HB := sB HB hb; (try clear hb); obtain ⟨hcz28_0, hcz28_1, hfz28_0, hfz28_1⟩ := cZ2 BK105; obtain ⟨hcz29_0, hcz29_1, hfz29_0, hfz29_1⟩ := cZ2 BK101))
       refine bodyPost_ret (results_ct rfl _ _ gb101 35 #[.int .i64 t108, .int .i64 t109] (0, 0) _ rfl (by refine bM ?_; refine blk_put (cs := #[.int .i64 t108, .int .i64 0]) ?_ 1 _ rfl; refine bM ?_; refine blk_put (cs := #[.int .i64 0, .int .i64 0]) ?_ 0 _ rfl; refine bM ?_; refine blk_far ?_ NB101_105.out _; refine bM ?_; refine blk_far ?_ NB101_105.out _; exact bD BK101) Try.underlying35 rfl (by kernel_rfl)) rfl ?_
       exact ⟨by first | rfl | (simp [errW_none, errW_some] <;> rfl) | (simp [*, errW_none, errW_some] <;> rfl), sD HB⟩
     ·rw [if_neg c10] at H
      exact absurd H (by simp)
    ·rw [if_neg c9] at H
     exact absurd H (by simp)
   ·rw [if_neg c8] at H
    have c8b0 : decide (x14_1 < (l0.length : Int)) = false := decide_eq_false c8
    clear c8
    simp only [Option.some.injEq, Prod.mk.injEq] at H
    obtain ⟨rfl, rfl, rfl⟩ := H
    have hnb30 := NB105_101.out; have hnc30 := NB101_105.out; obtain ⟨hcz31_0, hcz31_1, hfz31_0, hfz31_1⟩ := cZ2 BK105; obtain ⟨hcz32_0, hcz32_1, hfz32_0, hfz32_1⟩ := cZ2 BK101
    go_wp2
    refine bodyPost_ret (results_ct rfl _ _ gb101 35 #[.int .i64 x106000_1, .int .i64 x106001_1] (0, 0) _ rfl (by refine bM ?_; refine blk_put (cs := #[.int .i64 x106000_1, .int .i64 0]) ?_ 1 _ rfl; refine bM ?_; refine blk_put (cs := #[.int .i64 0, .int .i64 0]) ?_ 0 _ rfl; exact bD BK101) Try.underlying35 rfl (by kernel_rfl)) rfl ?_
    exact ⟨by first | rfl | (simp [errW_none, errW_some] <;> rfl) | (simp [*, errW_none, errW_some] <;> rfl), sD HB⟩
end Go.Proofs.Ytohnkcmbogcfhaa.P
namespace Go.Proofs.Ytohnkcmbogcfhaa.P
open Go.Proofs.YtohnkcmbogcfhaaH Go.RowKit Go.Proofs.YtohnkcmbogcfhaaW.PrintWords Go.Proofs.YtohnkcmbogcfhaaW.PrintLast Go.Proofs.YtohnkcmbogcfhaaW.PrintMore
attribute [local go_sem] max2_int min2_int max_two min_two max_three min_three max_four min_four   -- for this text's walks alone
attribute [local go_sem] Go.Proofs.YtohnkcmbogcfhaaH.cell_set_map
def price_Total.l0 : Nat → List (S35) → List (S60) → Int → Int → Option (Int × Int × Int)
 | 0, _, _, _, _ => none
 | k + 1, x4, x11, x12, x13 => if x13 < x12 then (if 0 ≤ x13 then (if x13 < (x11.length : Int) then (if x4.length < 8796093022208 then (price_Total.l0 k (x4 ++ [(⟨(rd_T60 x11 x13).f1.f0, (rd_T60 x11 x13).f1.f1⟩ : S35)]) x11 x12 (wrap64 (x13 + 1))) else (none)) else (none)) else (none)) else ((rat_Sum.f k x4).bind fun bt108 => (some (bt108.1, bt108.2.1, bt108.2.2)))
def price_Total.f (k : Nat) (l0 : List (S60)) : Option (Int × Int × Int) := (price_right.f k l0).bind fun t102 => (if t102 = true then (price_Total.l0 k ([] : List (S35)) l0 (l0.length : Int) 0) else (some (0, 0, 1)))
set_option maxHeartbeats 40000000 in
set_option maxRecDepth 100000 in
theorem price_Total.calls (k : Nat) (A0 : Option Addr) (c0 : Nat) (l0 : List (S60)) (r1 : Int) (r2 : Int) (r3 : Int) (w : World) (hr0 : Kd.C k60 w A0 l0.length l0) (hc0 : l0.length ≤ c0) (h : price_Total.f k l0 = some (r1, r2, r3)) :
  Calls Try.prog 68 #[.slice A0 l0.length c0] w fun e w' => e = .returned (.tuple #[.agg #[.int .i64 r1, .int .i64 r2], .int .i64 r3]) ∧ Below w.heap.size w w' := by
 have hu35 := Try.underlying35; have hu60 := Try.underlying60; have HR0 := aM hr0; have HC0 := aM hc0; clear hr0 hc0; have HB := aM (Below.refl w.heap.size w)
 have H : ((price_right.f k l0).bind fun t102 => (if t102 = true then (price_Total.l0 k ([] : List (S35)) l0 (l0.length : Int) 0) else (some (0, 0, 1)))) = some (r1, r2, r3) := h
 clear h; replace H := Option.bind_eq_some_iff.mp H
 obtain ⟨t102, A20, H⟩ := H
 replace H : (if t102 = true then (price_Total.l0 k ([] : List (S35)) l0 (l0.length : Int) 0) else (some (0, 0, 1))) = some (r1, r2, r3) := H
 have A2 := aM A20; clear A20
 by_cases c3 : t102 = true
 rotate_left
 ·replace c3 := Bool.eq_false_iff.mpr c3
  subst c3
  have H1 : (some (0, 0, 1)) = some (r1, r2, r3) := by rw [if_neg (show ¬ (false = true) by decide)] at H; exact H
  clear H; have H := H1; clear H1
  simp only [Option.some.injEq, Prod.mk.injEq] at H
  obtain ⟨rfl, rfl, rfl⟩ := H
  go_enter Try.func68, Try.ntmps68
  go_wp2_with (first | ((with_reducible refine gate_dst (N := 2) rfl ?_); refine bE (N := 2) (cs := #[.int .i64 0, .int .i64 0]) (t := 35) ?_; intro gb101 hg w18 hbox hb; have BK101 := aM (hbox); have GW101 := gE hg HB; have GE101 := gE hg HB; replace HB := sB HB hb; clear hb hbox hg) | ((with_reducible refine gate_callee (f := 100) rfl ?_); refine gL (some 8) Try.func100 #[.slice A0 l0.length c0] ?_; (with_reducible refine (price_right.calls k _ _ l0 false _ ?side1 ?side2 A2.out).mono ?_); (case side1 => exact cC HR0 HB); (case side2 => exact HC0.out); rintro e w19 ⟨rfl, hb⟩; refine ⟨_, rfl, ?_⟩; replace BK101 := bB BK101 hb; replace HB := sB HB hb; (try clear hb); obtain ⟨hcz20_0, hcz20_1, hfz20_0, hfz20_1⟩ := cZ2 BK101))
  refine bodyPost_ret (results_ct rfl _ _ gb101 35 #[.int .i64 0, .int .i64 0] (0, 0) _ rfl (by refine bM ?_; refine blk_put (cs := #[.int .i64 0, .int .i64 0]) ?_ 1 _ rfl; refine bM ?_; refine blk_put (cs := #[.int .i64 0, .int .i64 0]) ?_ 0 _ rfl; exact bD BK101) Try.underlying35 rfl (by kernel_rfl)) rfl ?_
  exact ⟨by first | rfl | (simp [errW_none, errW_some] <;> rfl) | (simp [*, errW_none, errW_some] <;> rfl), sD HB⟩
 subst c3
 have H1 : (price_Total.l0 k ([] : List (S35)) l0 (l0.length : Int) 0) = some (r1, r2, r3) := by rw [if_pos rfl] at H; exact H
 clear H; have H := H1; clear H1; have H' := aM H; clear H
 go_enter Try.func68, Try.ntmps68
 go_wp2_with (first | ((with_reducible refine gate_dst (N := 2) rfl ?_); refine bE (N := 2) (cs := #[.int .i64 0, .int .i64 0]) (t := 35) ?_; intro gb101 hg w4 hbox hb; have BK101 := aM (hbox); have GW101 := gE hg HB; have GE101 := gE hg HB; replace HB := sB HB hb; clear hb hbox hg) | ((with_reducible refine gate_callee (f := 100) rfl ?_); refine gL (some 8) Try.func100 #[.slice A0 l0.length c0] ?_; (with_reducible refine (price_right.calls k _ _ l0 true _ ?side1 ?side2 A2.out).mono ?_); (case side1 => exact cC HR0 HB); (case side2 => exact HC0.out); rintro e w5 ⟨rfl, hb⟩; refine ⟨_, rfl, ?_⟩; replace BK101 := bB BK101 hb; replace HB := sB HB hb; (try clear hb)))
 go_loopg [4, 13] k (fun kq v4 v13 w' => ∃ (x4_1 : List (S35)) (x13_1 : Int), v13 = .int .i64 x13_1 ∧ Aside0 (price_Total.l0 kq x4_1 l0 (l0.length : Int) x13_1 = some (r1, r2, r3)) ∧ Aside0 (kq ≤ k) ∧ Aside0 (Kd.R k35 35 w' w.heap.size (fun k_ => k_ ≠ gb101) v4 x4_1) ∧ Aside0 (w'.heap[gb101]? = some (.cells #[.int .i64 0, .int .i64 0] 35 (0, 0))) ∧ Aside0 (Below w.heap.size w w'))
 case atStart => exact ⟨(([] : List (S35))), (0), (by first | rfl | (simp; done) | (simp [*]; done)), H', ⟨Nat.le_refl _⟩, ⟨by first | exact Kd.R_nil _ _ _ _ _ | exact Kd.N_nil _ _ _ _ _ | exact Kd.V_nil _ _ _ _ _ | exact Kd.Q_nil _ _ _ _ _ | exact Kd.S_nil _ _ _ _ _⟩, ⟨by exact bD BK101⟩, ⟨sD HB⟩⟩
 case round =>
  clear H'
  try clear c1
  try clear p2
  try clear c3
  obtain ⟨x4_1, x13_1, rfl, HA, HK1, HO_4, BK101, HB⟩ := hrel
  cases gk with
  | zero => exact absurd HA.out (by simp [price_Total.l0])
  | succ k1 =>
   have H := HA.out; clear HA
   simp only [price_Total.l0] at H
   by_cases c6 : x13_1 < (l0.length : Int)
   ·rw [if_pos c6] at H
    have c6b0 : decide (x13_1 < (l0.length : Int)) = true := decide_eq_true c6
    clear c6
    by_cases c7 : 0 ≤ x13_1
    ·rw [if_pos c7] at H
     have c7b0 : decide (0 ≤ x13_1) = true := decide_eq_true c7
     clear c7
     by_cases c8 : x13_1 < (l0.length : Int)
     ·rw [if_pos c8] at H
      have c8b0 : decide (x13_1 < (l0.length : Int)) = true := decide_eq_true c8
      clear c8
      by_cases c9 : x4_1.length < 8796093022208
      ·rw [if_pos c9] at H
       have LMc9 := aM c9; clear c9
       obtain ⟨y105, hy105⟩ : ∃ y_ : List (S35), y_ = (x4_1 ++ [(⟨(rd_T60 l0 x13_1).f1.f0, (rd_T60 l0 x13_1).f1.f1⟩ : S35)]) := ⟨_, rfl⟩
       replace H : (price_Total.l0 k1 y105 l0 (l0.length : Int) (wrap64 (x13_1 + 1))) = some (r1, r2, r3) := by first | (rw [hy105]; with_reducible exact H) | (have H2_ := (Option.bind_some _ _).symm.trans H; rw [hy105]; with_reducible exact H2_) | (have H2_ := (Option.bind_some _ _).symm.trans H; with_reducible exact H2_) | with_reducible exact H | (rw [hy105]; exact H) | exact H
       have Ny105 := aM hy105; clear hy105; have H' := aM H; clear H
       have p103 : 0 ≤ (x13_1 : Int) := of_decide_eq_true (by first | (with_reducible assumption) | assumption)
       have q103 : x13_1 < (l0.length : Int) := of_decide_eq_true (by first | (with_reducible assumption) | assumption)
       obtain ⟨ad103, e103, hx103_0, hx103_1, hx103_2⟩ := at_T60 HR0.out x13_1 p103 q103
       cases e103
       replace hx103_0 := (HB.out.cell (World.block_lt_of_cell? w _ hx103_0)).trans hx103_0; replace hx103_1 := (HB.out.cell (World.block_lt_of_cell? w _ hx103_1)).trans hx103_1; replace hx103_2 := (HB.out.cell (World.block_lt_of_cell? w _ hx103_2)).trans hx103_2; replace p103 := eq_true p103; replace q103 := eq_true q103
       go_wp2_with (first | ((with_reducible refine gate_dst (N := 6) rfl ?_); refine bE (N := 6) (cs := #[.int .i64 0, .int .i64 0, .int .i64 0]) (t := 60) ?_; intro gb104 hg w10 hbox hb; have BK104 := aM (hbox); have GW104 := gE hg HB; have GE104 := gE hg HB; obtain ⟨NB101_104, NB104_101⟩ := nB hg BK101; replace HO_4 := rB HO_4 hb; replace BK101 := bB BK101 hb; replace HB := sB HB hb; clear hb hbox hg; have hnb11 := NB104_101.out; have hnc11 := NB101_104.out; obtain ⟨hcz12_0, hcz12_1, hcz12_2, hfz12_0, hfz12_1, hfz12_2⟩ := cZ3 BK104) | ((with_reducible refine gate_builtin (b := .append) (xs := #[.tmp 17, .tmp 20]) rfl ?_); at_builtin; refine Kd.R_append k35 (w0 := w) w.heap.size rfl (.tmp 17) (.tmp 20) 115 35 (.agg #[(.int .i64 0), (.int .i64 0)]) 16 rfl Try.underlying115 info35 rfl (by decide) (by omega) u4 x4_1 (⟨(rd_T60 l0 x13_1).f1.f0, (rd_T60 l0 x13_1).f1.f1⟩ : S35) [.int .i64 ((rd_T60 l0 x13_1).f1.f0), .int .i64 ((rd_T60 l0 x13_1).f1.f1)] (fun k_ => k_ ≠ gb101) (fun _ => False) rfl (by first | (go_simp; done) | (go_simp; rfl)) ?aP (fun _ hk => hk.elim) ?aF ?aO ?aB ?aS ?aL ?_; (case aP => exact k35_mkM _ _ _ (⟨(rd_T60 l0 x13_1).f1.f0, (rd_T60 l0 x13_1).f1.f1⟩ : S35)); (case aB => exact (sD HB)); (case aF => exact (fun k_ hk => Kd.freshB (g := gb101) (o := .cells #[.int .i64 0, .int .i64 0] 35 (0, 0)) (bF BK101) k_ hk)); (case aO => exact (rD ⟨Kd.R_mono (Kd.R_far (p := ⟨gb104, 2, none⟩) (Kd.R_far (p := ⟨gb104, 1, none⟩) (Kd.R_far (p := ⟨gb104, 0, none⟩) (Kd.R_types HO_4.out BK104.out (by decide)) (fun _ hk => hk.2) (.int .i64 ((rd_T60 l0 x13_1).f0))) (fun _ hk => hk.2) (.int .i64 ((rd_T60 l0 x13_1).f1.f0))) (fun _ hk => hk.2) (.int .i64 ((rd_T60 l0 x13_1).f1.f1))) (fun _ hk => hk.1)⟩)); (case aS => exact (below_size (sD HB))); (case aL => have := LMc9.out; omega); intro v106 w13 ho hb hg hat; rw [← Ny105.out] at ho; have HO107 := aM (ho); replace BK101 := aM (blk_grown (g := gb101) (o := .cells #[.int .i64 0, .int .i64 0] 35 (0, 0)) (bF BK101) hg (Kd.R_away HO_4.out (fun _ hk => hk))); replace BK104 := aM (blk_grown (g := gb104) (o := .cells #[.int .i64 ((rd_T60 l0 x13_1).f0), .int .i64 ((rd_T60 l0 x13_1).f1.f0), .int .i64 ((rd_T60 l0 x13_1).f1.f1)] 60 (0, 0)) (by refine bM ?_; refine blk_put (cs := #[.int .i64 ((rd_T60 l0 x13_1).f0), .int .i64 ((rd_T60 l0 x13_1).f1.f0), .int .i64 0]) ?_ 2 _ rfl; refine bM ?_; refine blk_put (cs := #[.int .i64 ((rd_T60 l0 x13_1).f0), .int .i64 0, .int .i64 0]) ?_ 1 _ rfl; refine bM ?_; refine blk_put (cs := #[.int .i64 0, .int .i64 0, .int .i64 0]) ?_ 0 _ rfl; exact bD BK104) hg (Kd.R_ne HO_4.out BK104.out (by decide))); replace HB := aM (hb); clear HO_4; clear ho hb hg hat))
       go_roundg k1
       case measure => have := HK1.out; omega
       case rel => exact ⟨(y105), (wrap64 (x13_1 + 1)), (by first | rfl | (simp; done) | (simp [*]; done)), H', ⟨by have := HK1.out; omega⟩, ⟨by (with_reducible repeat (first | apply Kd.R_alloc | apply Kd.R_drewN | apply Kd.R_drew)); exact HO107.out⟩, ⟨by exact bD BK101⟩, ⟨sD HB⟩⟩
      ·rw [if_neg c9] at H
       exact absurd H (by simp)
     ·rw [if_neg c8] at H
      exact absurd H (by simp)
    ·rw [if_neg c7] at H
     exact absurd H (by simp)
   ·rw [if_neg c6] at H
    have c6b0 : decide (x13_1 < (l0.length : Int)) = false := decide_eq_false c6
    clear c6; replace H := Option.bind_eq_some_iff.mp H
    obtain ⟨⟨t108, t109, t110⟩, A140, H⟩ := H
    replace H : (some (t108, t109, t110)) = some (r1, r2, r3) := H
    have A14 := aM A140; clear A140
    simp only [Option.some.injEq, Prod.mk.injEq] at H
    obtain ⟨rfl, rfl, rfl⟩ := H
    obtain ⟨Ao15, co15, eo15⟩ := Kd.R_slice HO_4.out
    subst eo15
    go_wp2_with (first | ((with_reducible refine gate_callee (f := 102) rfl ?_); refine gL (some 24) Try.func102 #[.slice Ao15 x4_1.length co15] ?_; (with_reducible refine (rat_Sum.calls k1 _ _ x4_1 t108 t109 t110 _ ?side1 ?side2 A14.out).mono ?_); (case side1 => exact rC HO_4); (case side2 => exact rN HO_4); rintro e w16 ⟨rfl, hb⟩; refine ⟨_, rfl, ?_⟩; replace HO_4 := rB HO_4 hb; replace BK101 := bB BK101 hb; replace HB := sB HB hb; (try clear hb); obtain ⟨hcz17_0, hcz17_1, hfz17_0, hfz17_1⟩ := cZ2 BK101))
    refine bodyPost_ret (results_ct rfl _ _ gb101 35 #[.int .i64 t108, .int .i64 t109] (0, 0) _ rfl (by refine bM ?_; refine blk_put (cs := #[.int .i64 t108, .int .i64 0]) ?_ 1 _ rfl; refine bM ?_; refine blk_put (cs := #[.int .i64 0, .int .i64 0]) ?_ 0 _ rfl; exact bD BK101) Try.underlying35 rfl (by kernel_rfl)) rfl ?_
    exact ⟨by first | rfl | (simp [errW_none, errW_some] <;> rfl) | (simp [*, errW_none, errW_some] <;> rfl), sD HB⟩
end Go.Proofs.Ytohnkcmbogcfhaa.P
namespace Go.Proofs.Ytohnkcmbogcfhaa.P
open Go.Proofs.YtohnkcmbogcfhaaH Go.RowKit Go.Proofs.YtohnkcmbogcfhaaW.PrintWords Go.Proofs.YtohnkcmbogcfhaaW.PrintLast Go.Proofs.YtohnkcmbogcfhaaW.PrintMore
attribute [local go_sem] max2_int min2_int max_two min_two max_three min_three max_four min_four   -- for this text's walks alone
attribute [local go_sem] Go.Proofs.YtohnkcmbogcfhaaH.cell_set_map
def parolelaw42_total.f (k : Nat) (l0 : List (S60)) : Option (Int × Int × Int) := (price_Total.f k l0).bind fun bt102 => (some (bt102.1, bt102.2.1, bt102.2.2))
set_option maxHeartbeats 40000000 in
set_option maxRecDepth 100000 in
theorem parolelaw42_total.calls (k : Nat) (A0 : Option Addr) (c0 : Nat) (l0 : List (S60)) (r1 : Int) (r2 : Int) (r3 : Int) (w : World) (hr0 : Kd.C k60 w A0 l0.length l0) (hc0 : l0.length ≤ c0) (h : parolelaw42_total.f k l0 = some (r1, r2, r3)) :
  Calls Try.prog 40 #[.slice A0 l0.length c0] w fun e w' => e = .returned (.agg #[.int .i64 r1, .int .i64 r2, .int .i64 r3]) ∧ Below w.heap.size w w' := by
 have hu38 := Try.underlying38; have hu35 := Try.underlying35; have HR0 := aM hr0; have HC0 := aM hc0; clear hr0 hc0; have HB := aM (Below.refl w.heap.size w)
 have H : ((price_Total.f k l0).bind fun bt102 => (some (bt102.1, bt102.2.1, bt102.2.2))) = some (r1, r2, r3) := h
 clear h; replace H := Option.bind_eq_some_iff.mp H
 obtain ⟨⟨t102, t103, t104⟩, A20, H⟩ := H
 replace H : (some (t102, t103, t104)) = some (r1, r2, r3) := H
 have A2 := aM A20; clear A20
 simp only [Option.some.injEq, Prod.mk.injEq] at H
 obtain ⟨rfl, rfl, rfl⟩ := H
 go_enter Try.func40, Try.ntmps40
 go_wp2_with (first | ((with_reducible refine gate_dst (N := 2) rfl ?_); refine bE (N := 2) (cs := #[.int .i64 0, .int .i64 0, .int .i64 0]) (t := 38) ?_; intro gb101 hg w3 hbox hb; have BK101 := aM (hbox); have GW101 := gE hg HB; have GE101 := gE hg HB; replace HB := sB HB hb; clear hb hbox hg) | ((with_reducible refine gate_callee (f := 68) rfl ?_); refine gL (some 7) Try.func68 #[.slice A0 l0.length c0] ?_; (with_reducible refine (price_Total.calls k _ _ l0 t102 t103 t104 _ ?side1 ?side2 A2.out).mono ?_); (case side1 => exact cC HR0 HB); (case side2 => exact HC0.out); rintro e w4 ⟨rfl, hb⟩; refine ⟨_, rfl, ?_⟩; replace BK101 := bB BK101 hb; replace HB := sB HB hb; (try clear hb)) | ((with_reducible refine gate_dst (N := 3) rfl ?_); refine bE (N := 3) (cs := #[.int .i64 0, .int .i64 0]) (t := 35) ?_; intro gb105 hg w5 hbox hb; have BK105 := aM (hbox); have GW105 := gE hg HB; have GE105 := gE hg HB; obtain ⟨NB101_105, NB105_101⟩ := nB hg BK101; replace BK101 := bB BK101 hb; replace HB := sB HB hb; clear hb hbox hg; have hnb6 := NB105_101.out; have hnc6 := NB101_105.out; obtain ⟨hcz7_0, hcz7_1, hfz7_0, hfz7_1⟩ := cZ2 BK105; obtain ⟨hcz8_0, hcz8_1, hcz8_2, hfz8_0, hfz8_1, hfz8_2⟩ := cZ3 BK101))
 refine bodyPost_ret (results_cell_row rfl _ _ gb101 38 #[.int .i64 t102, .int .i64 t103, .int .i64 t104] (0, 0) _ rfl (by refine bM ?_; refine blk_put (cs := #[.int .i64 t102, .int .i64 t103, .int .i64 0]) ?_ 2 _ rfl; refine bM ?_; refine blk_put (cs := #[.int .i64 t102, .int .i64 0, .int .i64 0]) ?_ 1 _ rfl; refine bM ?_; refine blk_put (cs := #[.int .i64 0, .int .i64 0, .int .i64 0]) ?_ 0 _ rfl; refine bM ?_; refine blk_far ?_ NB101_105.out _; refine bM ?_; refine blk_far ?_ NB101_105.out _; exact bD BK101) Try.underlying38 rfl (by kernel_rfl)) rfl ?_
 exact ⟨by first | rfl | (simp [errW_none, errW_some] <;> rfl) | (simp [*, errW_none, errW_some] <;> rfl), sD HB⟩
end Go.Proofs.Ytohnkcmbogcfhaa.P
namespace Go.Proofs.Ytohnkcmbogcfhaa.P
open Go.Proofs.YtohnkcmbogcfhaaH Go.RowKit Go.Proofs.YtohnkcmbogcfhaaW.PrintWords Go.Proofs.YtohnkcmbogcfhaaW.PrintLast Go.Proofs.YtohnkcmbogcfhaaW.PrintMore
attribute [local go_sem] max2_int min2_int max_two min_two max_three min_three max_four min_four   -- for this text's walks alone
def paroleref02_Gcd.l0 : Nat → Int → Int → Option (Int)
 | 0, _, _ => none
 | k + 1, x0, x1 => if x1 > 0 then (if x1 = 0 then (none) else (paroleref02_Gcd.l0 k x1 (Int.tmod x0 x1))) else (some x0)
def paroleref02_Gcd.f (k : Nat) (a0 : Int) (a1 : Int) : Option (Int) := paroleref02_Gcd.l0 k a0 a1
set_option maxHeartbeats 40000000 in
set_option maxRecDepth 100000 in
theorem paroleref02_Gcd.calls (k : Nat) (a0 : Int) (a1 : Int) (r : Int) (w : World) (h : paroleref02_Gcd.f k a0 a1 = some r) :
  Calls Try.prog 85 #[.int .i64 a0, .int .i64 a1] w fun e w' => e = .returned (.int .i64 r) ∧ Drawn0 w w' := by
 have H : (paroleref02_Gcd.l0 k a0 a1) = some r := h
 clear h; have H' := aM H; clear H
 go_enter Try.func85, Try.ntmps85
 go_wp2
 go_loopg [0, 1] k (fun kq v0 v1 w' => ∃ (x0_1 : Int) (x1_1 : Int), v0 = .int .i64 x0_1 ∧ v1 = .int .i64 x1_1 ∧ Aside0 (paroleref02_Gcd.l0 kq x0_1 x1_1 = some r) ∧ Aside0 (kq ≤ k) ∧ Drawn0 w w')
 case atStart => exact ⟨(a0), (a1), (by first | rfl | (simp; done) | (simp [*]; done)), (by first | rfl | (simp; done) | (simp [*]; done)), H', ⟨Nat.le_refl _⟩, by repeat (first | exact Drawn0.refl _ | apply Drawn0.step)⟩
 case round =>
  clear H'
  try clear p2
  obtain ⟨x0_1, x1_1, rfl, rfl, HA, HK1, ⟨m1, rfl⟩⟩ := hrel
  cases gk with
  | zero => exact absurd HA.out (by simp [paroleref02_Gcd.l0])
  | succ k1 =>
   have H := HA.out; clear HA
   simp only [paroleref02_Gcd.l0] at H
   by_cases c3 : x1_1 > 0
   ·rw [if_pos c3] at H
    have c3b0 : decide (0 < x1_1) = true := decide_eq_true c3
    clear c3
    by_cases c4 : x1_1 = 0
    ·rw [if_pos c4] at H
     exact absurd H (by simp)
    ·rw [if_neg c4] at H
     have c4b0 : (x1_1 == 0) = false := beq_eq_false_iff_ne.mpr c4
     have c4b1 : (x1_1 != 0) = true := bne_iff_ne.mpr c4
     have H' := aM H; clear H
     go_wp2
     go_roundg k1
     case measure => have := HK1.out; omega
     case rel => exact ⟨(x1_1), (Int.tmod x0_1 x1_1), (by first | rfl | (simp; done) | (simp [*]; done)), (by first | rfl | (simp; done) | (simp [*]; done)), H', ⟨by have := HK1.out; omega⟩, by repeat (first | exact Drawn0.refl _ | apply Drawn0.step)⟩
   ·rw [if_neg c3] at H
    have c3b0 : decide (0 < x1_1) = false := decide_eq_false c3
    clear c3
    obtain rfl := Option.some.inj H
    go_wp2
    go_ret
    exact ⟨by first | rfl | (simp; done) | (simp [*]; done), by repeat (first | exact Drawn0.refl _ | apply Drawn0.step)⟩
end Go.Proofs.Ytohnkcmbogcfhaa.P
namespace Go.Proofs.Ytohnkcmbogcfhaa.P
open Go.Proofs.YtohnkcmbogcfhaaH Go.RowKit Go.Proofs.YtohnkcmbogcfhaaW.PrintWords Go.Proofs.YtohnkcmbogcfhaaW.PrintLast Go.Proofs.YtohnkcmbogcfhaaW.PrintMore
attribute [local go_sem] max2_int min2_int max_two min_two max_three min_three max_four min_four   -- for this text's walks alone
def paroleref02_size.f (a0 : Int) : Option (Int) := if a0 < 0 then (some (wrap64 (-a0))) else (some a0)
set_option maxHeartbeats 40000000 in
set_option maxRecDepth 100000 in
theorem paroleref02_size.calls (a0 : Int) (r : Int) (w : World) (h : paroleref02_size.f a0 = some r) :
  Calls Try.prog 86 #[.int .i64 a0] w fun e w' => e = .returned (.int .i64 r) ∧ Drawn0 w w' := by
 have H : (if a0 < 0 then (some (wrap64 (-a0))) else (some a0)) = some r := h
 clear h
 by_cases c2 : a0 < 0
 ·rw [if_pos c2] at H
  have c2b0 : decide (a0 < 0) = true := decide_eq_true c2
  clear c2
  obtain rfl := Option.some.inj H
  go_enter Try.func86, Try.ntmps86
  go_wp2
  go_ret
  exact ⟨by first | rfl | (simp; done) | (simp [*]; done), by repeat (first | exact Drawn0.refl _ | apply Drawn0.step)⟩
 rw [if_neg c2] at H
 have c2b0 : decide (a0 < 0) = false := decide_eq_false c2
 clear c2
 obtain rfl := Option.some.inj H
 go_enter Try.func86, Try.ntmps86
 go_wp2
 go_ret
 exact ⟨by first | rfl | (simp; done) | (simp [*]; done), by repeat (first | exact Drawn0.refl _ | apply Drawn0.step)⟩
end Go.Proofs.Ytohnkcmbogcfhaa.P
namespace Go.Proofs.Ytohnkcmbogcfhaa.P
open Go.Proofs.YtohnkcmbogcfhaaH Go.RowKit Go.Proofs.YtohnkcmbogcfhaaW.PrintWords Go.Proofs.YtohnkcmbogcfhaaW.PrintLast Go.Proofs.YtohnkcmbogcfhaaW.PrintMore
attribute [local go_sem] max2_int min2_int max_two min_two max_three min_three max_four min_four   -- for this text's walks alone
def paroleref02_half.f (a0 : Int) (a1 : Int) : Option (Int) := if a1 = 0 then (none) else ((paroleref02_size.f (wrap64 (Int.tdiv a0 a1))).bind fun t101 => (some t101))
set_option maxHeartbeats 40000000 in
set_option maxRecDepth 100000 in
theorem paroleref02_half.calls (a0 : Int) (a1 : Int) (r : Int) (w : World) (h : paroleref02_half.f a0 a1 = some r) :
  Calls Try.prog 87 #[.int .i64 a0, .int .i64 a1] w fun e w' => e = .returned (.int .i64 r) ∧ Drawn0 w w' := by
 have H : (if a1 = 0 then (none) else ((paroleref02_size.f (wrap64 (Int.tdiv a0 a1))).bind fun t101 => (some t101))) = some r := h
 clear h
 by_cases c3 : a1 = 0
 ·rw [if_pos c3] at H
  exact absurd H (by simp)
 rw [if_neg c3] at H
 have c3b0 : (a1 == 0) = false := beq_eq_false_iff_ne.mpr c3
 have c3b1 : (a1 != 0) = true := bne_iff_ne.mpr c3
 replace H := Option.bind_eq_some_iff.mp H
 obtain ⟨t101, A40, H⟩ := H
 replace H : (some t101) = some r := H
 have A4 := aM A40; clear A40
 obtain rfl := Option.some.inj H
 go_enter Try.func87, Try.ntmps87
 go_wp2_with (first | ((with_reducible refine gate_callee (f := 86) rfl ?_); refine gL (some 8) Try.func86 #[.int .i64 (wrap64 (Int.tdiv a0 a1))] ?_; (with_reducible refine (paroleref02_size.calls (wrap64 (Int.tdiv a0 a1)) t101 _ A4.out).mono ?_); rintro e w' ⟨rfl, ⟨nd, rfl⟩⟩; refine ⟨_, rfl, ?_⟩))
 go_ret
 exact ⟨by first | rfl | (simp; done) | (simp [*]; done), by repeat (first | exact Drawn0.refl _ | apply Drawn0.step)⟩
end Go.Proofs.Ytohnkcmbogcfhaa.P
namespace Go.Proofs.Ytohnkcmbogcfhaa.P
open Go.Proofs.YtohnkcmbogcfhaaH Go.RowKit Go.Proofs.YtohnkcmbogcfhaaW.PrintWords Go.Proofs.YtohnkcmbogcfhaaW.PrintLast Go.Proofs.YtohnkcmbogcfhaaW.PrintMore
attribute [local go_sem] max2_int min2_int max_two min_two max_three min_three max_four min_four   -- for this text's walks alone
def paroleref02_Most.f  : Option (Int) := some 4611686018427387904
set_option maxHeartbeats 40000000 in
set_option maxRecDepth 100000 in
theorem paroleref02_Most.calls  (r : Int) (w : World) (h : paroleref02_Most.f  = some r) :
  Calls Try.prog 88 #[] w fun e w' => e = .returned (.int .i64 r) ∧ Drawn0 w w' := by
 have H : (some 4611686018427387904) = some r := h
 clear h
 obtain rfl := Option.some.inj H
 go_enter Try.func88, Try.ntmps88
 go_wp2
 go_ret
 exact ⟨by first | rfl | (simp; done) | (simp [*]; done), by repeat (first | exact Drawn0.refl _ | apply Drawn0.step)⟩
end Go.Proofs.Ytohnkcmbogcfhaa.P
namespace Go.Proofs.Ytohnkcmbogcfhaa.P
open Go.Proofs.YtohnkcmbogcfhaaH Go.RowKit Go.Proofs.YtohnkcmbogcfhaaW.PrintWords Go.Proofs.YtohnkcmbogcfhaaW.PrintLast Go.Proofs.YtohnkcmbogcfhaaW.PrintMore
attribute [local go_sem] max2_int min2_int max_two min_two max_three min_three max_four min_four   -- for this text's walks alone
attribute [local go_sem] Go.Proofs.YtohnkcmbogcfhaaH.cell_set_map
mutual
def paroleref02_NewIn.j1 : Nat → Int → Int → Option (Int × Int × Int)
 | 0, _, _ => none
 | k + 1, x5, x6 => if x5 = 0 then (some (0, 1, 0)) else (if x5 = (-9223372036854775808) then (paroleref02_NewIn.j2 k x5 x6 true) else (paroleref02_NewIn.j2 k x5 x6 (x6 == (-9223372036854775808))))
def paroleref02_NewIn.j2 : Nat → Int → Int → Bool → Option (Int × Int × Int)
 | 0, _, _, _ => none
 | k + 1, x5, x6, x43 => if x43 = true then (some (0, 0, 2)) else ((paroleref02_size.f x5).bind fun t102 => ((paroleref02_size.f x6).bind fun t103 => ((paroleref02_Gcd.f k t102 t103).bind fun t104 => ((paroleref02_half.f x5 t104).bind fun t105 => ((paroleref02_half.f x6 t104).bind fun t106 => ((paroleref02_Most.f).bind fun t107 => (if t105 > t107 then (paroleref02_NewIn.j3 k x5 x6 t105 t106 true) else ((paroleref02_Most.f).bind fun t108 => (paroleref02_NewIn.j3 k x5 x6 t105 t106 (decide (t106 > t108)))))))))))
def paroleref02_NewIn.j3 : Nat → Int → Int → Int → Int → Bool → Option (Int × Int × Int)
 | 0, _, _, _, _, _ => none
 | k + 1, x5, x6, x9, x10, x63 => if x63 = true then (some (0, 0, 2)) else (if ((decide (x5 < 0)) != (decide (x6 < 0))) = true then (some (wrap64 (-x9), x10, 0)) else (some (x9, x10, 0)))
def paroleref02_NewIn.l0 : Nat → Int → Int → Option (Int × Int × Int)
 | 0, _, _ => none
 | k + 1, x5, x6 => if (Int.tmod x5 2) = 0 then (if (Int.tmod x6 2) = 0 then (if x5 = 0 then (paroleref02_NewIn.j1 k x5 x6) else (paroleref02_NewIn.l0 k (wrap64 (Int.tdiv x5 2)) (wrap64 (Int.tdiv x6 2)))) else (paroleref02_NewIn.j1 k x5 x6)) else (paroleref02_NewIn.j1 k x5 x6)
end
def paroleref02_NewIn.f (k : Nat) (a0 : Int) (a1 : Int) : Option (Int × Int × Int) := if a1 = 0 then (some (0, 0, 20)) else (paroleref02_NewIn.l0 k a0 a1)
set_option maxHeartbeats 40000000 in
set_option maxRecDepth 100000 in
theorem paroleref02_NewIn.calls (k : Nat) (a0 : Int) (a1 : Int) (r1 : Int) (r2 : Int) (r3 : Int) (w : World) (h : paroleref02_NewIn.f k a0 a1 = some (r1, r2, r3)) :
  Calls Try.prog 56 #[.int .i64 a0, .int .i64 a1] w fun e w' => e = .returned (.agg #[.int .i64 r1, .int .i64 r2, .int .i64 r3]) ∧ Below w.heap.size w w' := by
 have hu38 := Try.underlying38; have hu35 := Try.underlying35; have HB := aM (Below.refl w.heap.size w)
 have H : (if a1 = 0 then (some (0, 0, 20)) else (paroleref02_NewIn.l0 k a0 a1)) = some (r1, r2, r3) := h
 clear h
 by_cases c3 : a1 = 0
 ·rw [if_pos c3] at H
  have c3b0 : (a1 == 0) = true := beq_iff_eq.mpr c3
  have c3b1 : (a1 != 0) = false := bne_eq_false_iff_eq.mpr c3
  clear c3
  simp only [Option.some.injEq, Prod.mk.injEq] at H
  obtain ⟨rfl, rfl, rfl⟩ := H
  go_enter Try.func56, Try.ntmps56
  go_wp2_with (first | ((with_reducible refine gate_dst (N := 4) rfl ?_); refine bE (N := 4) (cs := #[.int .i64 0, .int .i64 0, .int .i64 0]) (t := 38) ?_; intro gb101 hg w4 hbox hb; have BK101 := aM (hbox); have GW101 := gE hg HB; have GE101 := gE hg HB; replace HB := sB HB hb; clear hb hbox hg; obtain ⟨hcz5_0, hcz5_1, hcz5_2, hfz5_0, hfz5_1, hfz5_2⟩ := cZ3 BK101))
  refine bodyPost_ret (results_cell_row rfl _ _ gb101 38 #[.int .i64 0, .int .i64 0, .int .i64 20] (0, 0) _ rfl (by refine bM ?_; refine blk_put (cs := #[.int .i64 0, .int .i64 0, .int .i64 0]) ?_ 2 _ rfl; refine bM ?_; refine blk_put (cs := #[.int .i64 0, .int .i64 0, .int .i64 0]) ?_ 1 _ rfl; refine bM ?_; refine blk_put (cs := #[.int .i64 0, .int .i64 0, .int .i64 0]) ?_ 0 _ rfl; exact bD BK101) Try.underlying38 rfl (by kernel_rfl)) rfl ?_
  exact ⟨by first | rfl | (simp [errW_none, errW_some] <;> rfl) | (simp [*, errW_none, errW_some] <;> rfl), sD HB⟩
 rw [if_neg c3] at H
 have c3b0 : (a1 == 0) = false := beq_eq_false_iff_ne.mpr c3
 have c3b1 : (a1 != 0) = true := bne_iff_ne.mpr c3
 have HC6 := aM H; clear H
 go_enter Try.func56, Try.ntmps56
 go_upto_block 0 with (first | ((with_reducible refine gate_dst (N := 4) rfl ?_); refine bE (N := 4) (cs := #[.int .i64 0, .int .i64 0, .int .i64 0]) (t := 38) ?_; intro gb101 hg w7 hbox hb; have BK101 := aM (hbox); have GW101 := gE hg HB; have GE101 := gE hg HB; replace HB := sB HB hb; clear hb hbox hg))
 (try simp only [Act.put, List.setIfInBounds_toArray, List.set_cons_zero, List.set_cons_succ])
 go_cut [5, 6] (fun v5 v6 wc => ∃ (kq : Nat) (x5_5 : Int) (x6_5 : Int), v5 = .int .i64 x5_5 ∧ v6 = .int .i64 x6_5 ∧ Aside0 (paroleref02_NewIn.j1 kq x5_5 x6_5 = some (r1, r2, r3)) ∧ Aside0 (kq ≤ k) ∧ Aside0 (wc.heap[gb101]? = some (.cells #[.int .i64 0, .int .i64 0, .int .i64 0] 38 (0, 0))) ∧ Aside0 (Below w.heap.size w wc))
 case first =>
  have H := HC6.out; clear HC6; have H' := aM H; clear H
  go_wp2
  go_loopg [5, 6] k (fun kq v5 v6 w' => ∃ (x5_1 : Int) (x6_1 : Int), v5 = .int .i64 x5_1 ∧ v6 = .int .i64 x6_1 ∧ Aside0 (paroleref02_NewIn.l0 kq x5_1 x6_1 = some (r1, r2, r3)) ∧ Aside0 (kq ≤ k) ∧ Aside0 (w'.heap[gb101]? = some (.cells #[.int .i64 0, .int .i64 0, .int .i64 0] 38 (0, 0))) ∧ Aside0 (Below w.heap.size w w'))
  case atStart => exact ⟨(a0), (a1), (by first | rfl | (simp; done) | (simp [*]; done)), (by first | rfl | (simp; done) | (simp [*]; done)), H', ⟨Nat.le_refl _⟩, ⟨by exact bD BK101⟩, ⟨sD HB⟩⟩
  case round =>
   clear H'
   try clear p2
   try clear c3
   try clear c3b0
   try clear c3b1
   try clear c5
   try clear hcz5_0
   try clear hcz5_1
   try clear hcz5_2
   try clear hfz5_0
   try clear hfz5_1
   try clear hfz5_2
   obtain ⟨x5_1, x6_1, rfl, rfl, HA, HK1, BK101, HB⟩ := hrel
   cases gk with
   | zero => exact absurd HA.out (by simp [paroleref02_NewIn.l0])
   | succ k1 =>
    have H := HA.out; clear HA
    simp only [paroleref02_NewIn.l0] at H
    by_cases c8 : (Int.tmod x5_1 2) = 0
    ·rw [if_pos c8] at H
     have c8b0 : ((Int.tmod x5_1 2) == 0) = true := beq_iff_eq.mpr c8
     have c8b1 : ((Int.tmod x5_1 2) != 0) = false := bne_eq_false_iff_eq.mpr c8
     clear c8
     (first | rw [c8b0] | (simp only [i64_w, i32_w]; rw [c8b0]) | skip)
     by_cases c9 : (Int.tmod x6_1 2) = 0
     ·rw [if_pos c9] at H
      have c9b0 : ((Int.tmod x6_1 2) == 0) = true := beq_iff_eq.mpr c9
      have c9b1 : ((Int.tmod x6_1 2) != 0) = false := bne_eq_false_iff_eq.mpr c9
      clear c9
      by_cases c10 : x5_1 = 0
      ·rw [if_pos c10] at H
       have c10b0 : (x5_1 == 0) = true := beq_iff_eq.mpr c10
       have c10b1 : (x5_1 != 0) = false := bne_eq_false_iff_eq.mpr c10
       clear c10; have H' := aM H; clear H
       go_wp2
       go_meet
       case rel => exact ⟨_, (x5_1), (x6_1), (by first | rfl | (simp; done) | (simp [*]; done)), (by first | rfl | (simp; done) | (simp [*]; done)), H', ⟨by have := HK1.out; first | omega | exact Nat.le_refl _⟩, ⟨by exact bD BK101⟩, ⟨sD HB⟩⟩
      ·rw [if_neg c10] at H
       have c10b0 : (x5_1 == 0) = false := beq_eq_false_iff_ne.mpr c10
       have c10b1 : (x5_1 != 0) = true := bne_iff_ne.mpr c10
       have H' := aM H; clear H
       go_wp2
       go_roundg k1
       case measure => have := HK1.out; omega
       case rel => exact ⟨(wrap64 (Int.tdiv x5_1 2)), (wrap64 (Int.tdiv x6_1 2)), (by first | rfl | (simp; done) | (simp [*]; done)), (by first | rfl | (simp; done) | (simp [*]; done)), H', ⟨by have := HK1.out; omega⟩, ⟨by exact bD BK101⟩, ⟨sD HB⟩⟩
     ·rw [if_neg c9] at H
      have c9b0 : ((Int.tmod x6_1 2) == 0) = false := beq_eq_false_iff_ne.mpr c9
      have c9b1 : ((Int.tmod x6_1 2) != 0) = true := bne_iff_ne.mpr c9
      have H' := aM H; clear H
      go_wp2
      go_meet
      case rel => exact ⟨_, (x5_1), (x6_1), (by first | rfl | (simp; done) | (simp [*]; done)), (by first | rfl | (simp; done) | (simp [*]; done)), H', ⟨by have := HK1.out; first | omega | exact Nat.le_refl _⟩, ⟨by exact bD BK101⟩, ⟨sD HB⟩⟩
    ·rw [if_neg c8] at H
     have c8b0 : ((Int.tmod x5_1 2) == 0) = false := beq_eq_false_iff_ne.mpr c8
     have c8b1 : ((Int.tmod x5_1 2) != 0) = true := bne_iff_ne.mpr c8
     (first | rw [c8b0] | (simp only [i64_w, i32_w]; rw [c8b0]) | skip)
     have H' := aM H; clear H
     go_wp2
     go_meet
     case rel => exact ⟨_, (x5_1), (x6_1), (by first | rfl | (simp; done) | (simp [*]; done)), (by first | rfl | (simp; done) | (simp [*]; done)), H', ⟨by have := HK1.out; first | omega | exact Nat.le_refl _⟩, ⟨by exact bD BK101⟩, ⟨sD HB⟩⟩
 case rest =>
  clear HC6
  try clear c1
  try clear p2
  try clear c3
  try clear c3b0
  try clear c3b1
  try clear c5
  try clear p6
  try clear c8
  try clear c8b0
  try clear c8b1
  try clear c9
  try clear c9b0
  try clear c9b1
  try clear c10
  try clear c10b0
  try clear c10b1
  try clear hcz5_0
  try clear hcz5_1
  try clear hcz5_2
  try clear hfz5_0
  try clear hfz5_1
  try clear hfz5_2
  try clear p2
  obtain ⟨kq, x5_5, x6_5, rfl, rfl, HA, HJ5, BK101, HB⟩ := hcut
  cases kq with
  | zero => exact absurd HA.out (by simp [paroleref02_NewIn.j1])
  | succ kj5 =>
   have H := HA.out; clear HA
   simp only [paroleref02_NewIn.j1] at H
   by_cases c11 : x5_5 = 0
   ·rw [if_pos c11] at H
    have c11b0 : (x5_5 == 0) = true := beq_iff_eq.mpr c11
    have c11b1 : (x5_5 != 0) = false := bne_eq_false_iff_eq.mpr c11
    clear c11
    simp only [Option.some.injEq, Prod.mk.injEq] at H
    obtain ⟨rfl, rfl, rfl⟩ := H
    obtain ⟨hcz12_0, hcz12_1, hcz12_2, hfz12_0, hfz12_1, hfz12_2⟩ := cZ3 BK101
    go_wp2
    refine bodyPost_ret (results_cell_row rfl _ _ gb101 38 #[.int .i64 0, .int .i64 1, .int .i64 0] (0, 0) _ rfl (by refine bM ?_; refine blk_put (cs := #[.int .i64 0, .int .i64 1, .int .i64 0]) ?_ 2 _ rfl; refine bM ?_; refine blk_put (cs := #[.int .i64 0, .int .i64 0, .int .i64 0]) ?_ 1 _ rfl; refine bM ?_; refine blk_put (cs := #[.int .i64 0, .int .i64 0, .int .i64 0]) ?_ 0 _ rfl; exact bD BK101) Try.underlying38 rfl (by kernel_rfl)) rfl ?_
    exact ⟨by first | rfl | (simp [errW_none, errW_some] <;> rfl) | (simp [*, errW_none, errW_some] <;> rfl), sD HB⟩
   ·rw [if_neg c11] at H
    have c11b0 : (x5_5 == 0) = false := beq_eq_false_iff_ne.mpr c11
    have c11b1 : (x5_5 != 0) = true := bne_iff_ne.mpr c11
    have HC13 := aM H; clear H
    go_upto_region 11 with (fail)
    go_cut [43] (fun v43 wc => ∃ (kq : Nat) (x43_12 : Bool), v43 = .bool x43_12 ∧ Aside0 (paroleref02_NewIn.j2 kq x5_5 x6_5 x43_12 = some (r1, r2, r3)) ∧ Aside0 (kq ≤ kj5) ∧ Aside0 (wc.heap[gb101]? = some (.cells #[.int .i64 0, .int .i64 0, .int .i64 0] 38 (0, 0))) ∧ Aside0 (Below w.heap.size w wc))
    case first =>
     have H := HC13.out; clear HC13
     by_cases c14 : x5_5 = (-9223372036854775808)
     ·rw [if_pos c14] at H
      have c14b0 : (x5_5 == (-9223372036854775808)) = true := beq_iff_eq.mpr c14
      have c14b1 : (x5_5 != (-9223372036854775808)) = false := bne_eq_false_iff_eq.mpr c14
      clear c14
      (first | rw [c14b0] | (simp only [i64_w, i32_w]; rw [c14b0]) | skip)
      have H' := aM H; clear H
      go_wp2
      go_meet
      case rel => exact ⟨_, (true), (by first | rfl | (simp; done) | (simp [*]; done)), H', ⟨by have := HJ5.out; first | omega | exact Nat.le_refl _⟩, ⟨by exact bD BK101⟩, ⟨sD HB⟩⟩
     ·rw [if_neg c14] at H
      have c14b0 : (x5_5 == (-9223372036854775808)) = false := beq_eq_false_iff_ne.mpr c14
      have c14b1 : (x5_5 != (-9223372036854775808)) = true := bne_iff_ne.mpr c14
      (first | rw [c14b0] | (simp only [i64_w, i32_w]; rw [c14b0]) | skip)
      have H' := aM H; clear H
      go_wp2
      go_meet
      case rel => exact ⟨_, ((x6_5 == (-9223372036854775808))), (by first | rfl | (simp; done) | (simp [*]; done)), H', ⟨by have := HJ5.out; first | omega | exact Nat.le_refl _⟩, ⟨by exact bD BK101⟩, ⟨sD HB⟩⟩
    case rest =>
     clear HC13
     try clear c1
     try clear p2
     try clear c3
     try clear c3b0
     try clear c3b1
     try clear c5
     try clear p6
     try clear c8
     try clear c8b0
     try clear c8b1
     try clear c9
     try clear c9b0
     try clear c9b1
     try clear c10
     try clear c10b0
     try clear c10b1
     try clear c11
     try clear c11b0
     try clear c11b1
     try clear c14
     try clear c14b0
     try clear c14b1
     try clear hcz12_0
     try clear hcz12_1
     try clear hcz12_2
     try clear hcz5_0
     try clear hcz5_1
     try clear hcz5_2
     try clear hfz12_0
     try clear hfz12_1
     try clear hfz12_2
     try clear hfz5_0
     try clear hfz5_1
     try clear hfz5_2
     try clear p2
     try clear p6
     obtain ⟨kq, x43_12, rfl, HA, HJ12, BK101, HB⟩ := hcut
     cases kq with
     | zero => exact absurd HA.out (by simp [paroleref02_NewIn.j2])
     | succ kj12 =>
      have H := HA.out; clear HA
      simp only [paroleref02_NewIn.j2] at H
      by_cases c15 : x43_12 = true
      ·subst c15
       have H1 : (some (0, 0, 2)) = some (r1, r2, r3) := by rw [if_pos rfl] at H; exact H
       clear H; have H := H1; clear H1
       simp only [Option.some.injEq, Prod.mk.injEq] at H
       obtain ⟨rfl, rfl, rfl⟩ := H
       obtain ⟨hcz16_0, hcz16_1, hcz16_2, hfz16_0, hfz16_1, hfz16_2⟩ := cZ3 BK101
       go_wp2
       refine bodyPost_ret (results_cell_row rfl _ _ gb101 38 #[.int .i64 0, .int .i64 0, .int .i64 2] (0, 0) _ rfl (by refine bM ?_; refine blk_put (cs := #[.int .i64 0, .int .i64 0, .int .i64 0]) ?_ 2 _ rfl; refine bM ?_; refine blk_put (cs := #[.int .i64 0, .int .i64 0, .int .i64 0]) ?_ 1 _ rfl; refine bM ?_; refine blk_put (cs := #[.int .i64 0, .int .i64 0, .int .i64 0]) ?_ 0 _ rfl; exact bD BK101) Try.underlying38 rfl (by kernel_rfl)) rfl ?_
       exact ⟨by first | rfl | (simp [errW_none, errW_some] <;> rfl) | (simp [*, errW_none, errW_some] <;> rfl), sD HB⟩
      ·replace c15 := Bool.eq_false_iff.mpr c15
       subst c15
       have H1 : ((paroleref02_size.f x5_5).bind fun t102 => ((paroleref02_size.f x6_5).bind fun t103 => ((paroleref02_Gcd.f kj12 t102 t103).bind fun t104 => ((paroleref02_half.f x5_5 t104).bind fun t105 => ((paroleref02_half.f x6_5 t104).bind fun t106 => ((paroleref02_Most.f).bind fun t107 => (if t105 > t107 then (paroleref02_NewIn.j3 kj12 x5_5 x6_5 t105 t106 true) else ((paroleref02_Most.f).bind fun t108 => (paroleref02_NewIn.j3 kj12 x5_5 x6_5 t105 t106 (decide (t106 > t108))))))))))) = some (r1, r2, r3) := by rw [if_neg (show ¬ (false = true) by decide)] at H; exact H
       clear H; have H := H1; clear H1; replace H := Option.bind_eq_some_iff.mp H
       obtain ⟨t102, A170, H⟩ := H
       replace H : ((paroleref02_size.f x6_5).bind fun t103 => ((paroleref02_Gcd.f kj12 t102 t103).bind fun t104 => ((paroleref02_half.f x5_5 t104).bind fun t105 => ((paroleref02_half.f x6_5 t104).bind fun t106 => ((paroleref02_Most.f).bind fun t107 => (if t105 > t107 then (paroleref02_NewIn.j3 kj12 x5_5 x6_5 t105 t106 true) else ((paroleref02_Most.f).bind fun t108 => (paroleref02_NewIn.j3 kj12 x5_5 x6_5 t105 t106 (decide (t106 > t108)))))))))) = some (r1, r2, r3) := H
       have A17 := aM A170; clear A170; replace H := Option.bind_eq_some_iff.mp H
       obtain ⟨t103, A180, H⟩ := H
       replace H : ((paroleref02_Gcd.f kj12 t102 t103).bind fun t104 => ((paroleref02_half.f x5_5 t104).bind fun t105 => ((paroleref02_half.f x6_5 t104).bind fun t106 => ((paroleref02_Most.f).bind fun t107 => (if t105 > t107 then (paroleref02_NewIn.j3 kj12 x5_5 x6_5 t105 t106 true) else ((paroleref02_Most.f).bind fun t108 => (paroleref02_NewIn.j3 kj12 x5_5 x6_5 t105 t106 (decide (t106 > t108))))))))) = some (r1, r2, r3) := H
       have A18 := aM A180; clear A180; replace H := Option.bind_eq_some_iff.mp H
       obtain ⟨t104, A190, H⟩ := H
       replace H : ((paroleref02_half.f x5_5 t104).bind fun t105 => ((paroleref02_half.f x6_5 t104).bind fun t106 => ((paroleref02_Most.f).bind fun t107 => (if t105 > t107 then (paroleref02_NewIn.j3 kj12 x5_5 x6_5 t105 t106 true) else ((paroleref02_Most.f).bind fun t108 => (paroleref02_NewIn.j3 kj12 x5_5 x6_5 t105 t106 (decide (t106 > t108)))))))) = some (r1, r2, r3) := H
       have A19 := aM A190; clear A190; replace H := Option.bind_eq_some_iff.mp H
       obtain ⟨t105, A200, H⟩ := H
       replace H : ((paroleref02_half.f x6_5 t104).bind fun t106 => ((paroleref02_Most.f).bind fun t107 => (if t105 > t107 then (paroleref02_NewIn.j3 kj12 x5_5 x6_5 t105 t106 true) else ((paroleref02_Most.f).bind fun t108 => (paroleref02_NewIn.j3 kj12 x5_5 x6_5 t105 t106 (decide (t106 > t108))))))) = some (r1, r2, r3) := H
       have A20 := aM A200; clear A200; replace H := Option.bind_eq_some_iff.mp H
       obtain ⟨t106, A210, H⟩ := H
       replace H : ((paroleref02_Most.f).bind fun t107 => (if t105 > t107 then (paroleref02_NewIn.j3 kj12 x5_5 x6_5 t105 t106 true) else ((paroleref02_Most.f).bind fun t108 => (paroleref02_NewIn.j3 kj12 x5_5 x6_5 t105 t106 (decide (t106 > t108)))))) = some (r1, r2, r3) := H
       have A21 := aM A210; clear A210; have HC22 := aM H; clear H
       go_upto_region 16 with (first | ((with_reducible refine gate_callee (f := 86) rfl ?_); refine gL (some 46) Try.func86 #[.int .i64 x5_5] ?_; (with_reducible refine (paroleref02_size.calls x5_5 t102 _ A17.out).mono ?_); rintro e w' ⟨rfl, ⟨nd, rfl⟩⟩; refine ⟨_, rfl, ?_⟩) | ((with_reducible refine gate_callee (f := 86) rfl ?_); refine gL (some 48) Try.func86 #[.int .i64 x6_5] ?_; (with_reducible refine (paroleref02_size.calls x6_5 t103 _ A18.out).mono ?_); rintro e w' ⟨rfl, ⟨nd, rfl⟩⟩; refine ⟨_, rfl, ?_⟩) | ((with_reducible refine gate_callee (f := 85) rfl ?_); refine gL (some 49) Try.func85 #[.int .i64 t102, .int .i64 t103] ?_; (with_reducible refine (paroleref02_Gcd.calls kj12 t102 t103 t104 _ A19.out).mono ?_); rintro e w' ⟨rfl, ⟨nd, rfl⟩⟩; refine ⟨_, rfl, ?_⟩) | ((with_reducible refine gate_callee (f := 87) rfl ?_); refine gL (some 52) Try.func87 #[.int .i64 x5_5, .int .i64 t104] ?_; (with_reducible refine (paroleref02_half.calls x5_5 t104 t105 _ A20.out).mono ?_); rintro e w' ⟨rfl, ⟨nd, rfl⟩⟩; refine ⟨_, rfl, ?_⟩) | ((with_reducible refine gate_callee (f := 87) rfl ?_); refine gL (some 55) Try.func87 #[.int .i64 x6_5, .int .i64 t104] ?_; (with_reducible refine (paroleref02_half.calls x6_5 t104 t106 _ A21.out).mono ?_); rintro e w' ⟨rfl, ⟨nd, rfl⟩⟩; refine ⟨_, rfl, ?_⟩))
       (try simp only [Act.put, List.setIfInBounds_toArray, List.set_cons_zero, List.set_cons_succ])
       go_cut [63] (fun v63 wc => ∃ (kq : Nat) (x63_21 : Bool), v63 = .bool x63_21 ∧ Aside0 (paroleref02_NewIn.j3 kq x5_5 x6_5 t105 t106 x63_21 = some (r1, r2, r3)) ∧ Aside0 (kq ≤ kj12) ∧ Aside0 (wc.heap[gb101]? = some (.cells #[.int .i64 0, .int .i64 0, .int .i64 0] 38 (0, 0))) ∧ Aside0 (Below w.heap.size w wc))
       case first =>
        have H := HC22.out; clear HC22; replace H := Option.bind_eq_some_iff.mp H
        obtain ⟨t107, A230, H⟩ := H
        replace H : (if t105 > t107 then (paroleref02_NewIn.j3 kj12 x5_5 x6_5 t105 t106 true) else ((paroleref02_Most.f).bind fun t108 => (paroleref02_NewIn.j3 kj12 x5_5 x6_5 t105 t106 (decide (t106 > t108))))) = some (r1, r2, r3) := H
        have A23 := aM A230; clear A230
        by_cases c24 : t105 > t107
        ·rw [if_pos c24] at H
         have c24b0 : decide (t107 < t105) = true := decide_eq_true c24
         clear c24
         (first | rw [c24b0] | (simp only [i64_w, i32_w]; rw [c24b0]) | skip)
         have H' := aM H; clear H
         go_wp2_with (first | ((with_reducible refine gate_callee (f := 88) rfl ?_); refine gL (some 57) Try.func88 #[] ?_; (with_reducible refine (paroleref02_Most.calls  t107 _ A23.out).mono ?_); rintro e w' ⟨rfl, ⟨nd, rfl⟩⟩; refine ⟨_, rfl, ?_⟩))
         go_meet
         case rel => exact ⟨_, (true), (by first | rfl | (simp; done) | (simp [*]; done)), H', ⟨by have := HJ5.out; have := HJ12.out; first | omega | exact Nat.le_refl _⟩, ⟨by exact bD BK101⟩, ⟨sD HB⟩⟩
        ·rw [if_neg c24] at H
         have c24b0 : decide (t107 < t105) = false := decide_eq_false c24
         clear c24
         (first | rw [c24b0] | (simp only [i64_w, i32_w]; rw [c24b0]) | skip)
         replace H := Option.bind_eq_some_iff.mp H
         obtain ⟨t108, A250, H⟩ := H
         replace H : (paroleref02_NewIn.j3 kj12 x5_5 x6_5 t105 t106 (decide (t106 > t108))) = some (r1, r2, r3) := H
         have A25 := aM A250; clear A250; have H' := aM H; clear H
         go_wp2_with (first | ((with_reducible refine gate_callee (f := 88) rfl ?_); refine gL (some 57) Try.func88 #[] ?_; (with_reducible refine (paroleref02_Most.calls  t107 _ A23.out).mono ?_); rintro e w' ⟨rfl, ⟨nd, rfl⟩⟩; refine ⟨_, rfl, ?_⟩) | (go_at_call 88; (with_reducible refine (paroleref02_Most.calls  t108 _ A25.out).mono ?_); rintro e w' ⟨rfl, ⟨nd, rfl⟩⟩))
         go_meet
         case rel => exact ⟨_, (decide (t106 > t108)), (by first | rfl | (simp; done) | (simp [*]; done)), H', ⟨by have := HJ5.out; have := HJ12.out; first | omega | exact Nat.le_refl _⟩, ⟨by exact bD BK101⟩, ⟨sD HB⟩⟩
       case rest =>
        clear HC22
        try clear c1
        try clear c2
        try clear p2
        try clear c3
        try clear c3b0
        try clear c3b1
        try clear c5
        try clear p6
        try clear c8
        try clear c8b0
        try clear c8b1
        try clear c9
        try clear c9b0
        try clear c9b1
        try clear c10
        try clear c10b0
        try clear c10b1
        try clear c11
        try clear c11b0
        try clear c11b1
        try clear c14
        try clear c14b0
        try clear c14b1
        try clear c15
        try clear c24
        try clear c24b0
        try clear hcz12_0
        try clear hcz12_1
        try clear hcz12_2
        try clear hcz16_0
        try clear hcz16_1
        try clear hcz16_2
        try clear hcz5_0
        try clear hcz5_1
        try clear hcz5_2
        try clear hfz12_0
        try clear hfz12_1
        try clear hfz12_2
        try clear hfz16_0
        try clear hfz16_1
        try clear hfz16_2
        try clear hfz5_0
        try clear hfz5_1
        try clear hfz5_2
        try clear p2
        try clear p6
        obtain ⟨kq, x63_21, rfl, HA, HJ21, BK101, HB⟩ := hcut
        cases kq with
        | zero => exact absurd HA.out (by simp [paroleref02_NewIn.j3])
        | succ kj21 =>
         have H := HA.out; clear HA
         simp only [paroleref02_NewIn.j3] at H
         by_cases c26 : x63_21 = true
         ·subst c26
          have H1 : (some (0, 0, 2)) = some (r1, r2, r3) := by rw [if_pos rfl] at H; exact H
          clear H; have H := H1; clear H1
          simp only [Option.some.injEq, Prod.mk.injEq] at H
          obtain ⟨rfl, rfl, rfl⟩ := H
          obtain ⟨hcz27_0, hcz27_1, hcz27_2, hfz27_0, hfz27_1, hfz27_2⟩ := cZ3 BK101
          go_wp2
          refine bodyPost_ret (results_cell_row rfl _ _ gb101 38 #[.int .i64 0, .int .i64 0, .int .i64 2] (0, 0) _ rfl (by refine bM ?_; refine blk_put (cs := #[.int .i64 0, .int .i64 0, .int .i64 0]) ?_ 2 _ rfl; refine bM ?_; refine blk_put (cs := #[.int .i64 0, .int .i64 0, .int .i64 0]) ?_ 1 _ rfl; refine bM ?_; refine blk_put (cs := #[.int .i64 0, .int .i64 0, .int .i64 0]) ?_ 0 _ rfl; exact bD BK101) Try.underlying38 rfl (by kernel_rfl)) rfl ?_
          exact ⟨by first | rfl | (simp [errW_none, errW_some] <;> rfl) | (simp [*, errW_none, errW_some] <;> rfl), sD HB⟩
         ·replace c26 := Bool.eq_false_iff.mpr c26
          subst c26
          have H1 : (if ((decide (x5_5 < 0)) != (decide (x6_5 < 0))) = true then (some (wrap64 (-t105), t106, 0)) else (some (t105, t106, 0))) = some (r1, r2, r3) := by rw [if_neg (show ¬ (false = true) by decide)] at H; exact H
          clear H; have H := H1; clear H1
          by_cases c28 : ((decide (x5_5 < 0)) != (decide (x6_5 < 0))) = true
          ·rw [if_pos c28] at H
           have c28b0 : ((decide (x5_5 < 0)) != (decide (x6_5 < 0))) = true := c28
           (try (have c28b1 : decide ((decide (x5_5 < 0)) = (decide (x6_5 < 0))) = false := by simpa using c28))
           (try (have c28b2 : ((decide (x5_5 < 0)) == (decide (x6_5 < 0))) = false := by simpa using c28))
           (try (have c28b3 : ¬ ((decide (x5_5 < 0)) = (decide (x6_5 < 0))) := by simpa using c28))
           clear c28
           simp only [Option.some.injEq, Prod.mk.injEq] at H
           obtain ⟨rfl, rfl, rfl⟩ := H
           obtain ⟨hcz29_0, hcz29_1, hcz29_2, hfz29_0, hfz29_1, hfz29_2⟩ := cZ3 BK101
           go_wp2
           refine bodyPost_ret (results_cell_row rfl _ _ gb101 38 #[.int .i64 (wrap64 (-t105)), .int .i64 t106, .int .i64 0] (0, 0) _ rfl (by refine bM ?_; refine blk_put (cs := #[.int .i64 (wrap64 (-t105)), .int .i64 t106, .int .i64 0]) ?_ 2 _ rfl; refine bM ?_; refine blk_put (cs := #[.int .i64 (wrap64 (-t105)), .int .i64 0, .int .i64 0]) ?_ 1 _ rfl; refine bM ?_; refine blk_put (cs := #[.int .i64 0, .int .i64 0, .int .i64 0]) ?_ 0 _ rfl; exact bD BK101) Try.underlying38 rfl (by kernel_rfl)) rfl ?_
           exact ⟨by first | rfl | (simp [errW_none, errW_some] <;> rfl) | (simp [*, errW_none, errW_some] <;> rfl), sD HB⟩
          ·rw [if_neg c28] at H
           have c28b0 : ((decide (x5_5 < 0)) != (decide (x6_5 < 0))) = false := by simpa using c28
           (try (have c28b1 : decide ((decide (x5_5 < 0)) = (decide (x6_5 < 0))) = true := by simpa using c28))
           (try (have c28b2 : ((decide (x5_5 < 0)) == (decide (x6_5 < 0))) = true := by simpa using c28))
           clear c28
           simp only [Option.some.injEq, Prod.mk.injEq] at H
           obtain ⟨rfl, rfl, rfl⟩ := H
           obtain ⟨hcz30_0, hcz30_1, hcz30_2, hfz30_0, hfz30_1, hfz30_2⟩ := cZ3 BK101
           go_wp2
           refine bodyPost_ret (results_cell_row rfl _ _ gb101 38 #[.int .i64 t105, .int .i64 t106, .int .i64 0] (0, 0) _ rfl (by refine bM ?_; refine blk_put (cs := #[.int .i64 t105, .int .i64 t106, .int .i64 0]) ?_ 2 _ rfl; refine bM ?_; refine blk_put (cs := #[.int .i64 t105, .int .i64 0, .int .i64 0]) ?_ 1 _ rfl; refine bM ?_; refine blk_put (cs := #[.int .i64 0, .int .i64 0, .int .i64 0]) ?_ 0 _ rfl; exact bD BK101) Try.underlying38 rfl (by kernel_rfl)) rfl ?_
           exact ⟨by first | rfl | (simp [errW_none, errW_some] <;> rfl) | (simp [*, errW_none, errW_some] <;> rfl), sD HB⟩
end Go.Proofs.Ytohnkcmbogcfhaa.P
namespace Go.Proofs.Ytohnkcmbogcfhaa.P
open Go.Proofs.YtohnkcmbogcfhaaH Go.RowKit Go.Proofs.YtohnkcmbogcfhaaW.PrintWords Go.Proofs.YtohnkcmbogcfhaaW.PrintLast Go.Proofs.YtohnkcmbogcfhaaW.PrintMore
attribute [local go_sem] max2_int min2_int max_two min_two max_three min_three max_four min_four   -- for this text's walks alone
attribute [local go_sem] Go.Proofs.YtohnkcmbogcfhaaH.cell_set_map
def paroleref02_Made.l0 : Nat → Int → Int → Int → Int → Int → Option (Int × Int)
 | 0, _, _, _, _, _ => none
 | k + 1, x0, x1, x106000, x106001, x106002 => if x106002 = 0 then (some (x106000, x106001)) else (if (wrap64 (Int.tdiv x1 2)) = 0 then ((paroleref02_NewIn.f k (wrap64 (Int.tdiv x0 2)) 1).bind fun bt106 => (paroleref02_Made.l0 k (wrap64 (Int.tdiv x0 2)) 1 bt106.1 bt106.2.1 bt106.2.2)) else ((paroleref02_NewIn.f k (wrap64 (Int.tdiv x0 2)) (wrap64 (Int.tdiv x1 2))).bind fun bt109 => (paroleref02_Made.l0 k (wrap64 (Int.tdiv x0 2)) (wrap64 (Int.tdiv x1 2)) bt109.1 bt109.2.1 bt109.2.2)))
def paroleref02_Made.f (k : Nat) (a0 : Int) (a1 : Int) : Option (Int × Int) := (paroleref02_NewIn.f k a0 a1).bind fun bt102 => (paroleref02_Made.l0 k a0 a1 bt102.1 bt102.2.1 bt102.2.2)
set_option maxHeartbeats 40000000 in
set_option maxRecDepth 100000 in
theorem paroleref02_Made.calls (k : Nat) (a0 : Int) (a1 : Int) (r1 : Int) (r2 : Int) (w : World) (h : paroleref02_Made.f k a0 a1 = some (r1, r2)) :
  Calls Try.prog 51 #[.int .i64 a0, .int .i64 a1] w fun e w' => e = .returned (.agg #[.int .i64 r1, .int .i64 r2]) ∧ Below w.heap.size w w' := by
 have hu35 := Try.underlying35; have hu38 := Try.underlying38; have HB := aM (Below.refl w.heap.size w)
 have H : ((paroleref02_NewIn.f k a0 a1).bind fun bt102 => (paroleref02_Made.l0 k a0 a1 bt102.1 bt102.2.1 bt102.2.2)) = some (r1, r2) := h
 clear h; replace H := Option.bind_eq_some_iff.mp H
 obtain ⟨⟨t102, t103, t104⟩, A30, H⟩ := H
 replace H : (paroleref02_Made.l0 k a0 a1 t102 t103 t104) = some (r1, r2) := H
 have A3 := aM A30; clear A30; have H' := aM H; clear H
 go_enter Try.func51, Try.ntmps51
 go_wp2_with (first | ((with_reducible refine gate_dst (N := 4) rfl ?_); refine bE (N := 4) (cs := #[.int .i64 0, .int .i64 0]) (t := 35) ?_; intro gb101 hg w4 hbox hb; have BK101 := aM (hbox); have GW101 := gE hg HB; have GE101 := gE hg HB; replace HB := sB HB hb; clear hb hbox hg) | ((with_reducible refine gate_callee (f := 56) rfl ?_); refine gL (some 8) Try.func56 #[.int .i64 a0, .int .i64 a1] ?_; (with_reducible refine (paroleref02_NewIn.calls k a0 a1 t102 t103 t104 _ A3.out).mono ?_); rintro e w5 ⟨rfl, hb⟩; refine ⟨_, rfl, ?_⟩; replace BK101 := bB BK101 hb; replace HB := sB HB hb; (try clear hb)) | ((with_reducible refine gate_dst (N := 5) rfl ?_); refine bE (N := 5) (cs := #[.int .i64 0, .int .i64 0, .int .i64 0]) (t := 38) ?_; intro gb105 hg w6 hbox hb; have BK105 := aM (hbox); have GW105 := gE hg HB; have GE105 := gE hg HB; obtain ⟨NB101_105, NB105_101⟩ := nB hg BK101; replace BK101 := bB BK101 hb; replace HB := sB HB hb; clear hb hbox hg; have hnb7 := NB105_101.out; have hnc7 := NB101_105.out; obtain ⟨hcz8_0, hcz8_1, hcz8_2, hfz8_0, hfz8_1, hfz8_2⟩ := cZ3 BK105))
 go_loopg [0, 1] k (fun kq v0 v1 w' => ∃ (x0_1 : Int) (x1_1 : Int) (x106000_1 : Int) (x106001_1 : Int) (x106002_1 : Int), v0 = .int .i64 x0_1 ∧ v1 = .int .i64 x1_1 ∧ Aside0 (paroleref02_Made.l0 kq x0_1 x1_1 x106000_1 x106001_1 x106002_1 = some (r1, r2)) ∧ Aside0 (kq ≤ k) ∧ Aside0 (w'.heap[gb101]? = some (.cells #[.int .i64 0, .int .i64 0] 35 (0, 0))) ∧ Aside0 (w'.heap[gb105]? = some (.cells #[.int .i64 x106000_1, .int .i64 x106001_1, .int .i64 x106002_1] 38 (0, 0))) ∧ Aside0 (Below w.heap.size w w'))
 case atStart => exact ⟨(a0), (a1), (t102), (t103), (t104), (by first | rfl | (simp; done) | (simp [*]; done)), (by first | rfl | (simp; done) | (simp [*]; done)), H', ⟨Nat.le_refl _⟩, ⟨bF BK101⟩, ⟨by refine bM ?_; refine blk_put (cs := #[.int .i64 t102, .int .i64 t103, .int .i64 0]) ?_ 2 _ rfl; refine bM ?_; refine blk_put (cs := #[.int .i64 t102, .int .i64 0, .int .i64 0]) ?_ 1 _ rfl; refine bM ?_; refine blk_put (cs := #[.int .i64 0, .int .i64 0, .int .i64 0]) ?_ 0 _ rfl; exact bD BK105⟩, ⟨sD HB⟩⟩
 case round =>
  clear H'
  try clear p2
  try clear c5
  try clear c7
  try clear hcz8_0
  try clear hcz8_1
  try clear hcz8_2
  try clear hfz8_0
  try clear hfz8_1
  try clear hfz8_2
  obtain ⟨x0_1, x1_1, x106000_1, x106001_1, x106002_1, rfl, rfl, HA, HK1, BK101, BK105, HB⟩ := hrel
  cases gk with
  | zero => exact absurd HA.out (by simp [paroleref02_Made.l0])
  | succ k1 =>
   have H := HA.out; clear HA
   simp only [paroleref02_Made.l0] at H
   by_cases c9 : x106002_1 = 0
   ·rw [if_pos c9] at H
    have c9b0 : (x106002_1 == 0) = true := beq_iff_eq.mpr c9
    have c9b1 : (x106002_1 != 0) = false := bne_eq_false_iff_eq.mpr c9
    clear c9
    simp only [Option.some.injEq, Prod.mk.injEq] at H
    obtain ⟨rfl, rfl⟩ := H
    have hnb10 := NB105_101.out; have hnc10 := NB101_105.out; obtain ⟨hcz11_0, hcz11_1, hcz11_2, hfz11_0, hfz11_1, hfz11_2⟩ := cZ3 BK105; obtain ⟨hcz12_0, hcz12_1, hfz12_0, hfz12_1⟩ := cZ2 BK101
    go_wp2
    refine bodyPost_ret (results_cell_row rfl _ _ gb101 35 #[.int .i64 x106000_1, .int .i64 x106001_1] (0, 0) _ rfl (by refine bM ?_; refine blk_put (cs := #[.int .i64 x106000_1, .int .i64 0]) ?_ 1 _ rfl; refine bM ?_; refine blk_put (cs := #[.int .i64 0, .int .i64 0]) ?_ 0 _ rfl; exact bD BK101) Try.underlying35 rfl (by kernel_rfl)) rfl ?_
    exact ⟨by first | rfl | (simp [errW_none, errW_some] <;> rfl) | (simp [*, errW_none, errW_some] <;> rfl), sD HB⟩
   ·rw [if_neg c9] at H
    have c9b0 : (x106002_1 == 0) = false := beq_eq_false_iff_ne.mpr c9
    have c9b1 : (x106002_1 != 0) = true := bne_iff_ne.mpr c9
    by_cases c13 : (wrap64 (Int.tdiv x1_1 2)) = 0
    ·rw [if_pos c13] at H
     have c13b0 : ((wrap64 (Int.tdiv x1_1 2)) == 0) = true := beq_iff_eq.mpr c13
     have c13b1 : ((wrap64 (Int.tdiv x1_1 2)) != 0) = false := bne_eq_false_iff_eq.mpr c13
     clear c13; replace H := Option.bind_eq_some_iff.mp H
     obtain ⟨⟨t106, t107, t108⟩, A140, H⟩ := H
     replace H : (paroleref02_Made.l0 k1 (wrap64 (Int.tdiv x0_1 2)) 1 t106 t107 t108) = some (r1, r2) := H
     have A14 := aM A140; clear A140; have H' := aM H; clear H; have hnb15 := NB105_101.out; have hnc15 := NB101_105.out; obtain ⟨hcz16_0, hcz16_1, hcz16_2, hfz16_0, hfz16_1, hfz16_2⟩ := cZ3 BK105
     go_wp2_with (first | ((with_reducible refine gate_callee (f := 56) rfl ?_); refine gL (some 20) Try.func56 #[.int .i64 (wrap64 (Int.tdiv x0_1 2)), .int .i64 1] ?_; (with_reducible refine (paroleref02_NewIn.calls k1 (wrap64 (Int.tdiv x0_1 2)) 1 t106 t107 t108 _ A14.out).mono ?_); rintro e w17 ⟨rfl, hb⟩; refine ⟨_, rfl, ?_⟩; replace BK101 := bB BK101 hb; replace BK105 := bB BK105 hb; replace HB := sB HB hb; (try clear hb); obtain ⟨hcz18_0, hcz18_1, hcz18_2, hfz18_0, hfz18_1, hfz18_2⟩ := cZ3 BK105))
     go_roundg k1
     case measure => have := HK1.out; omega
     case rel => exact ⟨(wrap64 (Int.tdiv x0_1 2)), (1), (t106), (t107), (t108), (by first | rfl | (simp; done) | (simp [*]; done)), (by first | rfl | (simp; done) | (simp [*]; done)), H', ⟨by have := HK1.out; omega⟩, ⟨bF BK101⟩, ⟨by refine bM ?_; refine blk_put (cs := #[.int .i64 t106, .int .i64 t107, .int .i64 x106002_1]) ?_ 2 _ rfl; refine bM ?_; refine blk_put (cs := #[.int .i64 t106, .int .i64 x106001_1, .int .i64 x106002_1]) ?_ 1 _ rfl; refine bM ?_; refine blk_put (cs := #[.int .i64 x106000_1, .int .i64 x106001_1, .int .i64 x106002_1]) ?_ 0 _ rfl; exact bD BK105⟩, ⟨sD HB⟩⟩
    ·rw [if_neg c13] at H
     have c13b0 : ((wrap64 (Int.tdiv x1_1 2)) == 0) = false := beq_eq_false_iff_ne.mpr c13
     have c13b1 : ((wrap64 (Int.tdiv x1_1 2)) != 0) = true := bne_iff_ne.mpr c13
     replace H := Option.bind_eq_some_iff.mp H
     obtain ⟨⟨t109, t110, t111⟩, A190, H⟩ := H
     replace H : (paroleref02_Made.l0 k1 (wrap64 (Int.tdiv x0_1 2)) (wrap64 (Int.tdiv x1_1 2)) t109 t110 t111) = some (r1, r2) := H
     have A19 := aM A190; clear A190; have H' := aM H; clear H; have hnb20 := NB105_101.out; have hnc20 := NB101_105.out; obtain ⟨hcz21_0, hcz21_1, hcz21_2, hfz21_0, hfz21_1, hfz21_2⟩ := cZ3 BK105
     go_wp2_with (first | ((with_reducible refine gate_callee (f := 56) rfl ?_); refine gL (some 20) Try.func56 #[.int .i64 (wrap64 (Int.tdiv x0_1 2)), .int .i64 (wrap64 (Int.tdiv x1_1 2))] ?_; (with_reducible refine (paroleref02_NewIn.calls k1 (wrap64 (Int.tdiv x0_1 2)) (wrap64 (Int.tdiv x1_1 2)) t109 t110 t111 _ A19.out).mono ?_); rintro e w22 ⟨rfl, hb⟩; refine ⟨_, rfl, ?_⟩; replace BK101 := bB BK101 hb; replace BK105 := bB BK105 hb; replace HB := sB HB hb; (try clear hb); obtain ⟨hcz23_0, hcz23_1, hcz23_2, hfz23_0, hfz23_1, hfz23_2⟩ := cZ3 BK105))
     go_roundg k1
     case measure => have := HK1.out; omega
     case rel => exact ⟨(wrap64 (Int.tdiv x0_1 2)), (wrap64 (Int.tdiv x1_1 2)), (t109), (t110), (t111), (by first | rfl | (simp; done) | (simp [*]; done)), (by first | rfl | (simp; done) | (simp [*]; done)), H', ⟨by have := HK1.out; omega⟩, ⟨bF BK101⟩, ⟨by refine bM ?_; refine blk_put (cs := #[.int .i64 t109, .int .i64 t110, .int .i64 x106002_1]) ?_ 2 _ rfl; refine bM ?_; refine blk_put (cs := #[.int .i64 t109, .int .i64 x106001_1, .int .i64 x106002_1]) ?_ 1 _ rfl; refine bM ?_; refine blk_put (cs := #[.int .i64 x106000_1, .int .i64 x106001_1, .int .i64 x106002_1]) ?_ 0 _ rfl; exact bD BK105⟩, ⟨sD HB⟩⟩
end Go.Proofs.Ytohnkcmbogcfhaa.P

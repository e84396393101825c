/- A part of the claim PriceShort: lemmas, printed functions with their contracts, plain laws. -/
import Derived.Test.YtohnkcmbogcfhaacPriceShort6
set_option linter.unusedVariables false
set_option linter.unusedSimpArgs false
namespace Go.Proofs.Ytohnkcmbogcfhaa.P
open Go.Proofs.YtohnkcmbogcfhaaH Go.RowKit Go.Proofs.YtohnkcmbogcfhaaW.PrintWords Go.Proofs.YtohnkcmbogcfhaaW.PrintLast Go.Proofs.YtohnkcmbogcfhaaW.PrintMore
attribute [local go_sem] max2_int min2_int max_two min_two max_three min_three max_four min_four   -- for this text's walks alone
attribute [local go_sem] Go.Proofs.YtohnkcmbogcfhaaH.cell_set_map
def price_Short.l0 : Nat → List (S71) → List (S47) → Int → List Int → List (S60) → Int → Int → Option (List Int × Int)
 | 0, _, _, _, _, _, _, _ => none
 | k + 1, x1, x2, x3, x10, x18, x19, x20 => if x20 < x19 then (if 0 ≤ x20 then (if x20 < (x18.length : Int) then ((price_Bond.f k x1 x2 ((rd_T60 x18 x20).f0) x3).bind fun bt104 => (if bt104.2.2 = 0 then ((rat_Cmp.f ((rd_T60 x18 x20).f1.f0) ((rd_T60 x18 x20).f1.f1) bt104.1 bt104.2.1).bind fun t108 => (if t108 < 0 then (if x10.length < 17592186044416 then (price_Short.l0 k x1 x2 x3 (x10 ++ [(rd_T60 x18 x20).f0]) x18 x19 (wrap64 (x20 + 1))) else (none)) else (price_Short.l0 k x1 x2 x3 x10 x18 x19 (wrap64 (x20 + 1))))) else (some (([] : List Int), bt104.2.2)))) else (none)) else (none)) else (some (x10, 0))
def price_Short.f (k : Nat) (l0 : List (S60)) (l1 : List (S71)) (l2 : List (S47)) (a3 : Int) : Option (List Int × Int) := (price_right.f k l0).bind fun t101 => (if t101 = true then (price_Short.l0 k l1 l2 a3 ([] : List Int) l0 (l0.length : Int) 0) else (some (([] : List Int), 1)))
set_option maxHeartbeats 40000000 in
set_option maxRecDepth 100000 in
theorem price_Short.calls (k : Nat) (A0 : Option Addr) (c0 : Nat) (l0 : List (S60)) (A1 : Option Addr) (c1 : Nat) (l1 : List (S71)) (A2 : Option Addr) (c2 : Nat) (l2 : List (S47)) (a3 : Int) (r1 : List Int) (r2 : Int) (w : World) (hr0 : Kd.C k60 w A0 l0.length l0) (hc0 : l0.length ≤ c0) (hr1 : Kd.C k71 w A1 l1.length l1) (hc1 : l1.length ≤ c1) (hr2 : Kd.C k47 w A2 l2.length l2) (hc2 : l2.length ≤ c2) (h : price_Short.f k l0 l1 l2 a3 = some (r1, r2)) :
  Calls Try.prog 65 #[.slice A0 l0.length c0, .slice A1 l1.length c1, .slice A2 l2.length c2, .int .i64 a3] w fun e w' => ∃ v0_ : Value, e = .returned (.tuple #[v0_, .int .i64 r2]) ∧ Kd.R (Kd.int .i64) 3 w' w.heap.size (fun _ => True) v0_ r1 ∧ Below w.heap.size w w' := by
 have hu60 := Try.underlying60; have hu35 := Try.underlying35; have HR0 := aM hr0; have HC0 := aM hc0; clear hr0 hc0; have HR1 := aM hr1; have HC1 := aM hc1; clear hr1 hc1; have HR2 := aM hr2; have HC2 := aM hc2; clear hr2 hc2; have HB := aM (Below.refl w.heap.size w)
 have H : ((price_right.f k l0).bind fun t101 => (if t101 = true then (price_Short.l0 k l1 l2 a3 ([] : List Int) l0 (l0.length : Int) 0) else (some (([] : List Int), 1)))) = some (r1, r2) := h
 clear h; replace H := Option.bind_eq_some_iff.mp H
 obtain ⟨t101, A50, H⟩ := H
 replace H : (if t101 = true then (price_Short.l0 k l1 l2 a3 ([] : List Int) l0 (l0.length : Int) 0) else (some (([] : List Int), 1))) = some (r1, r2) := H
 have A5 := aM A50; clear A50
 by_cases c6 : t101 = true
 rotate_left
 ·replace c6 := Bool.eq_false_iff.mpr c6
  subst c6
  have H1 : (some (([] : List Int), 1)) = some (r1, r2) := by rw [if_neg (show ¬ (false = true) by decide)] at H; exact H
  clear H; have H := H1; clear H1
  simp only [Option.some.injEq, Prod.mk.injEq] at H
  obtain ⟨rfl, rfl⟩ := H
  go_enter Try.func65, Try.ntmps65
  go_wp2_with (first | ((with_reducible refine gate_callee (f := 100) rfl ?_); refine gL (some 16) Try.func100 #[.slice A0 l0.length c0] ?_; (with_reducible refine (price_right.calls k _ _ l0 false _ ?side1 ?side2 A5.out).mono ?_); (case side1 => repeat (first | exact HR0.out | (with_reducible refine Kd.C_alloc ?_ _) | (with_reducible refine Kd.C_drewN ?_ _) | (with_reducible refine Kd.C_drew ?_))); (case side2 => exact HC0.out); rintro e w40 ⟨rfl, hb⟩; refine ⟨_, rfl, ?_⟩; replace HB := sB HB hb; (try clear hb)))
  go_ret2
  exact ⟨_, by first | rfl | (simp [errW_none, errW_some] <;> rfl) | (simp [*, errW_none, errW_some] <;> rfl), by first | exact Kd.R_nil _ _ _ _ _ | exact Kd.N_nil _ _ _ _ _ | exact Kd.V_nil _ _ _ _ _ | exact Kd.Q_nil _ _ _ _ _ | exact Kd.S_nil _ _ _ _ _, sD HB⟩
 subst c6
 have H1 : (price_Short.l0 k l1 l2 a3 ([] : List Int) l0 (l0.length : Int) 0) = some (r1, r2) := by rw [if_pos rfl] at H; exact H
 clear H; have H := H1; clear H1; have H' := aM H; clear H
 go_enter Try.func65, Try.ntmps65
 go_wp2_with (first | ((with_reducible refine gate_callee (f := 100) rfl ?_); refine gL (some 16) Try.func100 #[.slice A0 l0.length c0] ?_; (with_reducible refine (price_right.calls k _ _ l0 true _ ?side1 ?side2 A5.out).mono ?_); (case side1 => repeat (first | exact HR0.out | (with_reducible refine Kd.C_alloc ?_ _) | (with_reducible refine Kd.C_drewN ?_ _) | (with_reducible refine Kd.C_drew ?_))); (case side2 => exact HC0.out); rintro e w7 ⟨rfl, hb⟩; refine ⟨_, rfl, ?_⟩; replace HB := sB HB hb; (try clear hb)))
 go_loopg [10, 20] k (fun kq v10 v20 w' => ∃ (x10_1 : List Int) (x20_1 : Int), v20 = .int .i64 x20_1 ∧ Aside0 (price_Short.l0 kq l1 l2 a3 x10_1 l0 (l0.length : Int) x20_1 = some (r1, r2)) ∧ Aside0 (kq ≤ k) ∧ Aside0 (Kd.R (Kd.int .i64) 3 w' w.heap.size (fun _ => True) v10 x10_1) ∧ Aside0 (Below w.heap.size w w'))
 case atStart => exact ⟨(([] : List Int)), (0), (by first | rfl | (simp; done) | (simp [*]; done)), H', ⟨Nat.le_refl _⟩, ⟨by first | exact Kd.R_nil _ _ _ _ _ | exact Kd.N_nil _ _ _ _ _ | exact Kd.V_nil _ _ _ _ _ | exact Kd.Q_nil _ _ _ _ _ | exact Kd.S_nil _ _ _ _ _⟩, ⟨sD HB⟩⟩
 case round =>
  clear H'
  try clear c1
  try clear c2
  try clear p2
  try clear c6
  obtain ⟨x10_1, x20_1, rfl, HA, HK1, HO_10, HB⟩ := hrel
  cases gk with
  | zero => exact absurd HA.out (by simp [price_Short.l0])
  | succ k1 =>
   have H := HA.out; clear HA
   simp only [price_Short.l0] at H
   by_cases c8 : x20_1 < (l0.length : Int)
   ·rw [if_pos c8] at H
    have c8b0 : decide (x20_1 < (l0.length : Int)) = true := decide_eq_true c8
    clear c8
    by_cases c9 : 0 ≤ x20_1
    ·rw [if_pos c9] at H
     have c9b0 : decide (0 ≤ x20_1) = true := decide_eq_true c9
     clear c9
     by_cases c10 : x20_1 < (l0.length : Int)
     ·rw [if_pos c10] at H
      have c10b0 : decide (x20_1 < (l0.length : Int)) = true := decide_eq_true c10
      clear c10; replace H := Option.bind_eq_some_iff.mp H
      obtain ⟨⟨t104, t105, t106⟩, A110, H⟩ := H
      replace H : (if t106 = 0 then ((rat_Cmp.f ((rd_T60 l0 x20_1).f1.f0) ((rd_T60 l0 x20_1).f1.f1) t104 t105).bind fun t108 => (if t108 < 0 then (if x10_1.length < 17592186044416 then (price_Short.l0 k1 l1 l2 a3 (x10_1 ++ [(rd_T60 l0 x20_1).f0]) l0 (l0.length : Int) (wrap64 (x20_1 + 1))) else (none)) else (price_Short.l0 k1 l1 l2 a3 x10_1 l0 (l0.length : Int) (wrap64 (x20_1 + 1))))) else (some (([] : List Int), t106))) = some (r1, r2) := H
      have A11 := aM A110; clear A110
      by_cases c12 : t106 = 0
      ·rw [if_pos c12] at H
       have c12b0 : (t106 == 0) = true := beq_iff_eq.mpr c12
       have c12b1 : (t106 != 0) = false := bne_eq_false_iff_eq.mpr c12
       clear c12; replace H := Option.bind_eq_some_iff.mp H
       obtain ⟨t108, A130, H⟩ := H
       replace H : (if t108 < 0 then (if x10_1.length < 17592186044416 then (price_Short.l0 k1 l1 l2 a3 (x10_1 ++ [(rd_T60 l0 x20_1).f0]) l0 (l0.length : Int) (wrap64 (x20_1 + 1))) else (none)) else (price_Short.l0 k1 l1 l2 a3 x10_1 l0 (l0.length : Int) (wrap64 (x20_1 + 1)))) = some (r1, r2) := H
       have A13 := aM A130; clear A130
       by_cases c14 : t108 < 0
       ·rw [if_pos c14] at H
        have c14b0 : decide (t108 < 0) = true := decide_eq_true c14
        clear c14
        by_cases c15 : x10_1.length < 17592186044416
        ·rw [if_pos c15] at H
         have LMc15 := aM c15; clear c15
         obtain ⟨y109, hy109⟩ : ∃ y_ : List Int, y_ = (x10_1 ++ [(rd_T60 l0 x20_1).f0]) := ⟨_, rfl⟩
         replace H : (price_Short.l0 k1 l1 l2 a3 y109 l0 (l0.length : Int) (wrap64 (x20_1 + 1))) = some (r1, r2) := by first | (rw [hy109]; with_reducible exact H) | (have H2_ := (Option.bind_some _ _).symm.trans H; rw [hy109]; with_reducible exact H2_) | (have H2_ := (Option.bind_some _ _).symm.trans H; with_reducible exact H2_) | with_reducible exact H | (rw [hy109]; exact H) | exact H
         have Ny109 := aM hy109; clear hy109; have H' := aM H; clear H
         have p102 : 0 ≤ (x20_1 : Int) := of_decide_eq_true (by first | (with_reducible assumption) | assumption)
         have q102 : x20_1 < (l0.length : Int) := of_decide_eq_true (by first | (with_reducible assumption) | assumption)
         obtain ⟨ad102, e102, hx102_0, hx102_1, hx102_2⟩ := at_T60 HR0.out x20_1 p102 q102
         cases e102
         replace hx102_0 := (HB.out.cell (World.block_lt_of_cell? w _ hx102_0)).trans hx102_0; replace hx102_1 := (HB.out.cell (World.block_lt_of_cell? w _ hx102_1)).trans hx102_1; replace hx102_2 := (HB.out.cell (World.block_lt_of_cell? w _ hx102_2)).trans hx102_2; replace p102 := eq_true p102; replace q102 := eq_true q102
         go_wp2_with (first | ((with_reducible refine gate_dst (N := 12) rfl ?_); refine bE (N := 12) (cs := #[.int .i64 0, .int .i64 0, .int .i64 0]) (t := 60) ?_; intro gb103 hg w16 hbox hb; have BK103 := aM (hbox); have GW103 := gE hg HB; have GE103 := gE hg HB; replace HO_10 := rB HO_10 hb; replace HB := sB HB hb; clear hb hbox hg; obtain ⟨hcz17_0, hcz17_1, hcz17_2, hfz17_0, hfz17_1, hfz17_2⟩ := cZ3 BK103) | ((with_reducible refine gate_callee (f := 61) rfl ?_); refine gL (some 30) Try.func61 #[.slice A1 l1.length c1, .slice A2 l2.length c2, .int .i64 ((rd_T60 l0 x20_1).f0), .int .i64 a3] ?_; (with_reducible refine (price_Bond.calls k1 _ _ l1 _ _ l2 ((rd_T60 l0 x20_1).f0) a3 t104 t105 t106 _ ?side1 ?side2 ?side3 ?side4 A11.out).mono ?_); (case side1 => exact Kd.C_below HR1.out (sD HB)); (case side2 => exact HC1.out); (case side3 => exact Kd.C_below HR2.out (sD HB)); (case side4 => exact HC2.out); rintro e w18 ⟨rfl, hb⟩; refine ⟨_, rfl, ?_⟩; replace HO_10 := aM (Kd.R_below (rD ⟨(Kd.R_mono (Kd.R_far (p := ⟨gb103, 2, none⟩) (Kd.R_far (p := ⟨gb103, 1, none⟩) (Kd.R_far (p := ⟨gb103, 0, none⟩) (Kd.R_types HO_10.out BK103.out (by decide)) (fun _ hk => hk.2) (.int .i64 ((rd_T60 l0 x20_1).f0))) (fun _ hk => hk.2) (.int .i64 ((rd_T60 l0 x20_1).f1.f0))) (fun _ hk => hk.2) (.int .i64 ((rd_T60 l0 x20_1).f1.f1))) (fun _ h_ => h_.1))⟩) hb); replace HB := sB HB hb; replace BK103 := aM (blk_below (g := gb103) (o := .cells #[.int .i64 ((rd_T60 l0 x20_1).f0), .int .i64 ((rd_T60 l0 x20_1).f1.f0), .int .i64 ((rd_T60 l0 x20_1).f1.f1)] 60 (0, 0)) (by refine bM ?_; refine blk_put (cs := #[.int .i64 ((rd_T60 l0 x20_1).f0), .int .i64 ((rd_T60 l0 x20_1).f1.f0), .int .i64 0]) ?_ 2 _ rfl; refine bM ?_; refine blk_put (cs := #[.int .i64 ((rd_T60 l0 x20_1).f0), .int .i64 0, .int .i64 0]) ?_ 1 _ rfl; refine bM ?_; refine blk_put (cs := #[.int .i64 0, .int .i64 0, .int .i64 0]) ?_ 0 _ rfl; exact bD BK103) hb); (try clear hb)) | ((with_reducible refine gate_dst (N := 13) rfl ?_); refine bE (N := 13) (cs := #[.int .i64 0, .int .i64 0]) (t := 35) ?_; intro gb107 hg w19 hbox hb; have BK107 := aM (hbox); have GW107 := gE hg HB; have GE107 := gE hg HB; have NB103_107 := nL hg BK103; replace HO_10 := rB HO_10 hb; replace BK103 := bB BK103 hb; replace HB := sB HB hb; clear hb hbox hg; have hnb20 := NB103_107.out.symm; have hnc20 := NB103_107.out; obtain ⟨hcz21_0, hcz21_1, hfz21_0, hfz21_1⟩ := cZ2 BK107; obtain ⟨hcz22_0, hcz22_1, hcz22_2, hfz22_0, hfz22_1, hfz22_2⟩ := cZ3 BK103) | ((with_reducible refine gate_callee (f := 47) rfl ?_); refine gL (some 39) Try.func47 #[.agg #[.int .i64 ((rd_T60 l0 x20_1).f1.f0), .int .i64 ((rd_T60 l0 x20_1).f1.f1)], .agg #[.int .i64 t104, .int .i64 t105]] ?_; (with_reducible refine (rat_Cmp.calls ((rd_T60 l0 x20_1).f1.f0) ((rd_T60 l0 x20_1).f1.f1) t104 t105 t108 _ A13.out).mono ?_); rintro e w23 ⟨rfl, hb⟩; refine ⟨_, rfl, ?_⟩; replace HO_10 := aM (Kd.R_below (rD ⟨(Kd.R_mono (Kd.R_far (p := ⟨gb107, 1, none⟩) (Kd.R_far (p := ⟨gb107, 0, none⟩) (Kd.R_types HO_10.out BK107.out (by decide)) (fun _ hk => hk.2) (.int .i64 t104)) (fun _ hk => hk.2) (.int .i64 t105)) (fun _ h_ => h_.1))⟩) hb); replace BK103 := aM (blk_below (g := gb103) (o := .cells #[.int .i64 ((rd_T60 l0 x20_1).f0), .int .i64 ((rd_T60 l0 x20_1).f1.f0), .int .i64 ((rd_T60 l0 x20_1).f1.f1)] 60 (0, 0)) (bF BK103) hb); replace HB := sB HB hb; replace BK107 := aM (blk_below (g := gb107) (o := .cells #[.int .i64 t104, .int .i64 t105] 35 (0, 0)) (by refine bM ?_; refine blk_put (cs := #[.int .i64 t104, .int .i64 0]) ?_ 1 _ rfl; refine bM ?_; refine blk_put (cs := #[.int .i64 0, .int .i64 0]) ?_ 0 _ rfl; exact bD BK107) hb); (try clear hb); obtain ⟨hcz24_0, hcz24_1, hcz24_2, hfz24_0, hfz24_1, hfz24_2⟩ := cZ3 BK103) | ((with_reducible refine gate_builtin (b := .append) (xs := #[.tmp 41, .tmp 44]) rfl ?_); at_builtin; refine Kd.R_append (Kd.int .i64) (w0 := w) w.heap.size rfl (.tmp 41) (.tmp 44) 61 3 (.int .i64 0) 8 rfl Try.underlying61 info3 rfl (by decide) (by omega) u10 x10_1 ((rd_T60 l0 x20_1).f0) [.int .i64 ((rd_T60 l0 x20_1).f0)] (fun _ => True) (fun _ => False) rfl rfl ?aP (fun _ hk => hk.elim) ?aF ?aO ?aB ?aS ?aL ?_; (case aP => exact rfl); (case aB => exact (sD HB)); (case aF => exact (fun _ _ => trivial)); (case aO => exact (rD HO_10)); (case aS => exact (below_size (sD HB))); (case aL => have := LMc15.out; omega); intro v110 w25 ho hb hg hat; rw [← Ny109.out] at ho; have HO111 := aM (ho); replace BK103 := aM (blk_grown (g := gb103) (o := .cells #[.int .i64 ((rd_T60 l0 x20_1).f0), .int .i64 ((rd_T60 l0 x20_1).f1.f0), .int .i64 ((rd_T60 l0 x20_1).f1.f1)] 60 (0, 0)) (bD BK103) hg (Kd.R_ne HO_10.out BK103.out (by decide))); replace BK107 := aM (blk_grown (g := gb107) (o := .cells #[.int .i64 t104, .int .i64 t105] 35 (0, 0)) (bD BK107) hg (Kd.R_ne HO_10.out BK107.out (by decide))); replace HB := aM (hb); clear HO_10; clear ho hb hg hat))
         go_roundg k1
         case measure => have := HK1.out; omega
         case rel => exact ⟨(y109), (wrap64 (x20_1 + 1)), (by first | rfl | (simp; done) | (simp [*]; done)), H', ⟨by have := HK1.out; omega⟩, ⟨by (with_reducible repeat (first | apply Kd.R_alloc | apply Kd.R_drewN | apply Kd.R_drew)); exact HO111.out⟩, ⟨sD HB⟩⟩
        ·rw [if_neg c15] at H
         exact absurd H (by simp)
       ·rw [if_neg c14] at H
        have c14b0 : decide (t108 < 0) = false := decide_eq_false c14
        clear c14; have H' := aM H; clear H
        have p102 : 0 ≤ (x20_1 : Int) := of_decide_eq_true (by first | (with_reducible assumption) | assumption)
        have q102 : x20_1 < (l0.length : Int) := of_decide_eq_true (by first | (with_reducible assumption) | assumption)
        obtain ⟨ad102, e102, hx102_0, hx102_1, hx102_2⟩ := at_T60 HR0.out x20_1 p102 q102
        cases e102
        replace hx102_0 := (HB.out.cell (World.block_lt_of_cell? w _ hx102_0)).trans hx102_0; replace hx102_1 := (HB.out.cell (World.block_lt_of_cell? w _ hx102_1)).trans hx102_1; replace hx102_2 := (HB.out.cell (World.block_lt_of_cell? w _ hx102_2)).trans hx102_2; replace p102 := eq_true p102; replace q102 := eq_true q102
        go_wp2_with (first | ((with_reducible refine gate_dst (N := 12) rfl ?_); refine bE (N := 12) (cs := #[.int .i64 0, .int .i64 0, .int .i64 0]) (t := 60) ?_; intro gb103 hg w26 hbox hb; have BK103 := aM (hbox); have GW103 := gE hg HB; have GE103 := gE hg HB; replace HO_10 := rB HO_10 hb; replace HB := sB HB hb; clear hb hbox hg; obtain ⟨hcz27_0, hcz27_1, hcz27_2, hfz27_0, hfz27_1, hfz27_2⟩ := cZ3 BK103) | ((with_reducible refine gate_callee (f := 61) rfl ?_); refine gL (some 30) Try.func61 #[.slice A1 l1.length c1, .slice A2 l2.length c2, .int .i64 ((rd_T60 l0 x20_1).f0), .int .i64 a3] ?_; (with_reducible refine (price_Bond.calls k1 _ _ l1 _ _ l2 ((rd_T60 l0 x20_1).f0) a3 t104 t105 t106 _ ?side1 ?side2 ?side3 ?side4 A11.out).mono ?_); (case side1 => exact Kd.C_below HR1.out (sD HB)); (case side2 => exact HC1.out); (case side3 => exact Kd.C_below HR2.out (sD HB)); (case side4 => exact HC2.out); rintro e w28 ⟨rfl, hb⟩; refine ⟨_, rfl, ?_⟩; replace HO_10 := aM (Kd.R_below (rD ⟨(Kd.R_mono (Kd.R_far (p := ⟨gb103, 2, none⟩) (Kd.R_far (p := ⟨gb103, 1, none⟩) (Kd.R_far (p := ⟨gb103, 0, none⟩) (Kd.R_types HO_10.out BK103.out (by decide)) (fun _ hk => hk.2) (.int .i64 ((rd_T60 l0 x20_1).f0))) (fun _ hk => hk.2) (.int .i64 ((rd_T60 l0 x20_1).f1.f0))) (fun _ hk => hk.2) (.int .i64 ((rd_T60 l0 x20_1).f1.f1))) (fun _ h_ => h_.1))⟩) hb); replace HB := sB HB hb; replace BK103 := aM (blk_below (g := gb103) (o := .cells #[.int .i64 ((rd_T60 l0 x20_1).f0), .int .i64 ((rd_T60 l0 x20_1).f1.f0), .int .i64 ((rd_T60 l0 x20_1).f1.f1)] 60 (0, 0)) (by refine bM ?_; refine blk_put (cs := #[.int .i64 ((rd_T60 l0 x20_1).f0), .int .i64 ((rd_T60 l0 x20_1).f1.f0), .int .i64 0]) ?_ 2 _ rfl; refine bM ?_; refine blk_put (cs := #[.int .i64 ((rd_T60 l0 x20_1).f0), .int .i64 0, .int .i64 0]) ?_ 1 _ rfl; refine bM ?_; refine blk_put (cs := #[.int .i64 0, .int .i64 0, .int .i64 0]) ?_ 0 _ rfl; exact bD BK103) hb); (try clear hb)) | ((with_reducible refine gate_dst (N := 13) rfl ?_); refine bE (N := 13) (cs := #[.int .i64 0, .int .i64 0]) (t := 35) ?_; intro gb107 hg w29 hbox hb; have BK107 := aM (hbox); have GW107 := gE hg HB; have GE107 := gE hg HB; have NB103_107 := nL hg BK103; replace HO_10 := rB HO_10 hb; replace BK103 := bB BK103 hb; replace HB := sB HB hb; clear hb hbox hg; have hnb30 := NB103_107.out.symm; have hnc30 := NB103_107.out; obtain ⟨hcz31_0, hcz31_1, hfz31_0, hfz31_1⟩ := cZ2 BK107; obtain ⟨hcz32_0, hcz32_1, hcz32_2, hfz32_0, hfz32_1, hfz32_2⟩ := cZ3 BK103) | ((with_reducible refine gate_callee (f := 47) rfl ?_); refine gL (some 39) Try.func47 #[.agg #[.int .i64 ((rd_T60 l0 x20_1).f1.f0), .int .i64 ((rd_T60 l0 x20_1).f1.f1)], .agg #[.int .i64 t104, .int .i64 t105]] ?_; (with_reducible refine (rat_Cmp.calls ((rd_T60 l0 x20_1).f1.f0) ((rd_T60 l0 x20_1).f1.f1) t104 t105 t108 _ A13.out).mono ?_); rintro e w33 ⟨rfl, hb⟩; refine ⟨_, rfl, ?_⟩; replace HO_10 := aM (Kd.R_below (rD ⟨(Kd.R_mono (Kd.R_far (p := ⟨gb107, 1, none⟩) (Kd.R_far (p := ⟨gb107, 0, none⟩) (Kd.R_types HO_10.out BK107.out (by decide)) (fun _ hk => hk.2) (.int .i64 t104)) (fun _ hk => hk.2) (.int .i64 t105)) (fun _ h_ => h_.1))⟩) hb); replace BK103 := aM (blk_below (g := gb103) (o := .cells #[.int .i64 ((rd_T60 l0 x20_1).f0), .int .i64 ((rd_T60 l0 x20_1).f1.f0), .int .i64 ((rd_T60 l0 x20_1).f1.f1)] 60 (0, 0)) (bF BK103) hb); replace HB := sB HB hb; replace BK107 := aM (blk_below (g := gb107) (o := .cells #[.int .i64 t104, .int .i64 t105] 35 (0, 0)) (by refine bM ?_; refine blk_put (cs := #[.int .i64 t104, .int .i64 0]) ?_ 1 _ rfl; refine bM ?_; refine blk_put (cs := #[.int .i64 0, .int .i64 0]) ?_ 0 _ rfl; exact bD BK107) hb); (try clear hb)))
        go_roundg k1
        case measure => have := HK1.out; omega
        case rel => exact ⟨(x10_1), (wrap64 (x20_1 + 1)), (by first | rfl | (simp; done) | (simp [*]; done)), H', ⟨by have := HK1.out; omega⟩, ⟨by (with_reducible repeat (first | apply Kd.R_alloc | apply Kd.R_drewN | apply Kd.R_drew)); exact HO_10.out⟩, ⟨sD HB⟩⟩
      ·rw [if_neg c12] at H
       have c12b0 : (t106 == 0) = false := beq_eq_false_iff_ne.mpr c12
       have c12b1 : (t106 != 0) = true := bne_iff_ne.mpr c12
       simp only [Option.some.injEq, Prod.mk.injEq] at H
       obtain ⟨rfl, rfl⟩ := H
       have p102 : 0 ≤ (x20_1 : Int) := of_decide_eq_true (by first | (with_reducible assumption) | assumption)
       have q102 : x20_1 < (l0.length : Int) := of_decide_eq_true (by first | (with_reducible assumption) | assumption)
       obtain ⟨ad102, e102, hx102_0, hx102_1, hx102_2⟩ := at_T60 HR0.out x20_1 p102 q102
       cases e102
       replace hx102_0 := (HB.out.cell (World.block_lt_of_cell? w _ hx102_0)).trans hx102_0; replace hx102_1 := (HB.out.cell (World.block_lt_of_cell? w _ hx102_1)).trans hx102_1; replace hx102_2 := (HB.out.cell (World.block_lt_of_cell? w _ hx102_2)).trans hx102_2; replace p102 := eq_true p102; replace q102 := eq_true q102
       go_wp2_with (first | ((with_reducible refine gate_dst (N := 12) rfl ?_); refine bE (N := 12) (cs := #[.int .i64 0, .int .i64 0, .int .i64 0]) (t := 60) ?_; intro gb103 hg w34 hbox hb; have BK103 := aM (hbox); have GW103 := gE hg HB; have GE103 := gE hg HB; replace HO_10 := rB HO_10 hb; replace HB := sB HB hb; clear hb hbox hg; obtain ⟨hcz35_0, hcz35_1, hcz35_2, hfz35_0, hfz35_1, hfz35_2⟩ := cZ3 BK103) | ((with_reducible refine gate_callee (f := 61) rfl ?_); refine gL (some 30) Try.func61 #[.slice A1 l1.length c1, .slice A2 l2.length c2, .int .i64 ((rd_T60 l0 x20_1).f0), .int .i64 a3] ?_; (with_reducible refine (price_Bond.calls k1 _ _ l1 _ _ l2 ((rd_T60 l0 x20_1).f0) a3 t104 t105 t106 _ ?side1 ?side2 ?side3 ?side4 A11.out).mono ?_); (case side1 => exact Kd.C_below HR1.out (sD HB)); (case side2 => exact HC1.out); (case side3 => exact Kd.C_below HR2.out (sD HB)); (case side4 => exact HC2.out); rintro e w36 ⟨rfl, hb⟩; refine ⟨_, rfl, ?_⟩; replace HO_10 := aM (Kd.R_below (rD ⟨(Kd.R_mono (Kd.R_far (p := ⟨gb103, 2, none⟩) (Kd.R_far (p := ⟨gb103, 1, none⟩) (Kd.R_far (p := ⟨gb103, 0, none⟩) (Kd.R_types HO_10.out BK103.out (by decide)) (fun _ hk => hk.2) (.int .i64 ((rd_T60 l0 x20_1).f0))) (fun _ hk => hk.2) (.int .i64 ((rd_T60 l0 x20_1).f1.f0))) (fun _ hk => hk.2) (.int .i64 ((rd_T60 l0 x20_1).f1.f1))) (fun _ h_ => h_.1))⟩) hb); replace HB := sB HB hb; replace BK103 := aM (blk_below (g := gb103) (o := .cells #[.int .i64 ((rd_T60 l0 x20_1).f0), .int .i64 ((rd_T60 l0 x20_1).f1.f0), .int .i64 ((rd_T60 l0 x20_1).f1.f1)] 60 (0, 0)) (by refine bM ?_; refine blk_put (cs := #[.int .i64 ((rd_T60 l0 x20_1).f0), .int .i64 ((rd_T60 l0 x20_1).f1.f0), .int .i64 0]) ?_ 2 _ rfl; refine bM ?_; refine blk_put (cs := #[.int .i64 ((rd_T60 l0 x20_1).f0), .int .i64 0, .int .i64 0]) ?_ 1 _ rfl; refine bM ?_; refine blk_put (cs := #[.int .i64 0, .int .i64 0, .int .i64 0]) ?_ 0 _ rfl; exact bD BK103) hb); (try clear hb)) | ((with_reducible refine gate_dst (N := 13) rfl ?_); refine bE (N := 13) (cs := #[.int .i64 0, .int .i64 0]) (t := 35) ?_; intro gb107 hg w37 hbox hb; have BK107 := aM (hbox); have GW107 := gE hg HB; have GE107 := gE hg HB; have NB103_107 := nL hg BK103; replace HO_10 := rB HO_10 hb; replace BK103 := bB BK103 hb; replace HB := sB HB hb; clear hb hbox hg; have hnb38 := NB103_107.out.symm; have hnc38 := NB103_107.out; obtain ⟨hcz39_0, hcz39_1, hfz39_0, hfz39_1⟩ := cZ2 BK107))
       go_ret2
       exact ⟨_, by first | rfl | (simp [errW_none, errW_some] <;> rfl) | (simp [*, errW_none, errW_some] <;> rfl), by first | exact Kd.R_nil _ _ _ _ _ | exact Kd.N_nil _ _ _ _ _ | exact Kd.V_nil _ _ _ _ _ | exact Kd.Q_nil _ _ _ _ _ | exact Kd.S_nil _ _ _ _ _, sD HB⟩
     ·rw [if_neg c10] at H
      exact absurd H (by simp)
    ·rw [if_neg c9] at H
     exact absurd H (by simp)
   ·rw [if_neg c8] at H
    have c8b0 : decide (x20_1 < (l0.length : Int)) = false := decide_eq_false c8
    clear c8
    simp only [Option.some.injEq, Prod.mk.injEq] at H
    obtain ⟨rfl, rfl⟩ := H
    go_wp2
    go_ret2
    exact ⟨_, by first | rfl | (simp [errW_none, errW_some] <;> rfl) | (simp [*, errW_none, errW_some] <;> rfl), by (with_reducible repeat (first | apply Kd.R_alloc | apply Kd.R_drewN | apply Kd.R_drew)); exact HO_10.out, sD HB⟩
end Go.Proofs.Ytohnkcmbogcfhaa.P
namespace Go.Proofs.Ytohnkcmbogcfhaa.P
open Go.Proofs.YtohnkcmbogcfhaaH Go.RowKit Go.Proofs.YtohnkcmbogcfhaaW.PrintWords Go.Proofs.YtohnkcmbogcfhaaW.PrintLast Go.Proofs.YtohnkcmbogcfhaaW.PrintMore
attribute [local go_sem] max2_int min2_int max_two min_two max_three min_three max_four min_four   -- for this text's walks alone
attribute [local go_sem] Go.Proofs.YtohnkcmbogcfhaaH.cell_set_map
def parolelaw42_short.f (k : Nat) (l0 : List (S60)) (l1 : List (S71)) (l2 : List (S47)) (a3 : Int) : Option (List Int × Int) := (price_Short.f k l0 l1 l2 a3).bind fun bt102 => (some (bt102.1, bt102.2))
set_option maxHeartbeats 40000000 in
set_option maxRecDepth 100000 in
theorem parolelaw42_short.calls (k : Nat) (A0 : Option Addr) (c0 : Nat) (l0 : List (S60)) (A1 : Option Addr) (c1 : Nat) (l1 : List (S71)) (A2 : Option Addr) (c2 : Nat) (l2 : List (S47)) (a3 : Int) (r1 : List Int) (r2 : Int) (w : World) (hr0 : Kd.C k60 w A0 l0.length l0) (hc0 : l0.length ≤ c0) (hr1 : Kd.C k71 w A1 l1.length l1) (hc1 : l1.length ≤ c1) (hr2 : Kd.C k47 w A2 l2.length l2) (hc2 : l2.length ≤ c2) (h : parolelaw42_short.f k l0 l1 l2 a3 = some (r1, r2)) :
  Calls Try.prog 38 #[.slice A0 l0.length c0, .slice A1 l1.length c1, .slice A2 l2.length c2, .int .i64 a3] w fun e w' => ∃ v0_ : Value, e = .returned (.agg #[v0_, .int .i64 r2]) ∧ Kd.R (Kd.int .i64) 3 w' w.heap.size (fun _ => True) v0_ r1 ∧ Below w.heap.size w w' := by
 have hu63 := Try.underlying63; have HR0 := aM hr0; have HC0 := aM hc0; clear hr0 hc0; have HR1 := aM hr1; have HC1 := aM hc1; clear hr1 hc1; have HR2 := aM hr2; have HC2 := aM hc2; clear hr2 hc2; have HB := aM (Below.refl w.heap.size w)
 have H : ((price_Short.f k l0 l1 l2 a3).bind fun bt102 => (some (bt102.1, bt102.2))) = some (r1, r2) := h
 clear h; replace H := Option.bind_eq_some_iff.mp H
 obtain ⟨⟨t102, t103⟩, A50, H⟩ := H
 replace H : (some (t102, t103)) = some (r1, r2) := H
 have A5 := aM A50; clear A50
 simp only [Option.some.injEq, Prod.mk.injEq] at H
 obtain ⟨rfl, rfl⟩ := H
 go_enter Try.func38, Try.ntmps38
 go_wp2_with (first | ((with_reducible refine gate_dst (N := 8) rfl ?_); refine bE (N := 8) (cs := #[.slice none 0 0, .int .i64 0]) (t := 63) ?_; intro gb101 hg w6 hbox hb; have BK101 := aM (hbox); have GW101 := gE hg HB; have GE101 := gE hg HB; replace HB := sB HB hb; clear hb hbox hg) | ((with_reducible refine gate_callee (f := 65) rfl ?_); refine gL (some 16) Try.func65 #[.slice A0 l0.length c0, .slice A1 l1.length c1, .slice A2 l2.length c2, .int .i64 a3] ?_; (with_reducible refine (price_Short.calls k _ _ l0 _ _ l1 _ _ l2 a3 t102 t103 _ ?side1 ?side2 ?side3 ?side4 ?side5 ?side6 A5.out).mono ?_); (case side1 => exact cC HR0 HB); (case side2 => exact HC0.out); (case side3 => exact cC HR1 HB); (case side4 => exact HC1.out); (case side5 => exact cC HR2 HB); (case side6 => exact HC2.out); rintro e w7 ⟨v104, rfl, ho0, hb⟩; refine ⟨_, rfl, ?_⟩; have HO105 := rL (n := 0) ho0 HB; replace BK101 := bB BK101 hb; replace HB := sB HB hb; (try clear hb); (try clear ho0); obtain ⟨Ao8, co8, eo8⟩ := Kd.R_slice HO105.out; subst eo8; obtain ⟨hcz9_0, hcz9_1, hfz9_0, hfz9_1⟩ := cZ2 BK101))
 refine bodyPost_ret (results_cell_row rfl _ _ gb101 63 #[.slice Ao8 t102.length co8, .int .i64 t103] (0, 0) _ rfl (by refine bM ?_; refine blk_put (cs := #[.slice Ao8 t102.length co8, .int .i64 0]) ?_ 1 _ rfl; refine bM ?_; refine blk_put (cs := #[.slice none 0 0, .int .i64 0]) ?_ 0 _ rfl; exact bD BK101) Try.underlying63 rfl (by kernel_rfl)) rfl ?_
 exact ⟨_, by first | rfl | (simp [errW_none, errW_some] <;> rfl) | (simp [*, errW_none, errW_some] <;> rfl), by (with_reducible repeat (first | apply Kd.R_alloc | apply Kd.R_drewN | apply Kd.R_drew)); exact Kd.R_mono (Kd.R_far (p := ⟨gb101, 1, none⟩) (Kd.R_far (p := ⟨gb101, 0, none⟩) (Kd.R_types HO105.out BK101.out (by decide)) (fun _ hk => hk.2) (.slice Ao8 t102.length co8)) (fun _ hk => hk.2) (.int .i64 t103)) (fun _ hk => trivial), sD HB⟩
end Go.Proofs.Ytohnkcmbogcfhaa.P
namespace Go.Proofs.Ytohnkcmbogcfhaa.P
open Go.Proofs.YtohnkcmbogcfhaaH Go.RowKit Go.Proofs.YtohnkcmbogcfhaaW.PrintWords Go.Proofs.YtohnkcmbogcfhaaW.PrintLast Go.Proofs.YtohnkcmbogcfhaaW.PrintMore
attribute [local go_sem] max2_int min2_int max_two min_two max_three min_three max_four min_four   -- for this text's walks alone
def paroleref06_SameInts.l0 : Nat → List Int → List Int → Int → Option (Bool)
 | 0, _, _, _ => none
 | k + 1, x0, x1, x5 => if x5 < (x0.length : Int) then (if 0 ≤ x5 then (if x5 < (x1.length : Int) then (if (rd x0 x5) = (rd x1 x5) then (paroleref06_SameInts.l0 k x0 x1 (wrap64 (x5 + 1))) else (some false)) else (none)) else (none)) else (some true)
def paroleref06_SameInts.f (k : Nat) (l0 : List Int) (l1 : List Int) : Option (Bool) := if (l0.length : Int) = (l1.length : Int) then (paroleref06_SameInts.l0 k l0 l1 0) else (some false)
set_option maxHeartbeats 40000000 in
set_option maxRecDepth 100000 in
theorem paroleref06_SameInts.calls (k : Nat) (A0 : Option Addr) (c0 : Nat) (l0 : List Int) (A1 : Option Addr) (c1 : Nat) (l1 : List Int) (r : Bool) (w : World) (hr0 : Kd.C (Kd.int .i64) w A0 l0.length l0) (hc0 : l0.length ≤ c0) (hr1 : Kd.C (Kd.int .i64) w A1 l1.length l1) (hc1 : l1.length ≤ c1) (h : paroleref06_SameInts.f k l0 l1 = some r) :
  Calls Try.prog 42 #[.slice A0 l0.length c0, .slice A1 l1.length c1] w fun e w' => e = .returned (.bool r) ∧ Drawn0 w w' := by
 have HR0 := aM hr0; have HC0 := aM hc0; clear hr0 hc0; have HR1 := aM hr1; have HC1 := aM hc1; clear hr1 hc1
 have H : (if (l0.length : Int) = (l1.length : Int) then (paroleref06_SameInts.l0 k l0 l1 0) else (some false)) = some r := h
 clear h
 by_cases c3 : (l0.length : Int) = (l1.length : Int)
 rotate_left
 ·rw [if_neg c3] at H
  have c3b0 : ((l0.length : Int) == (l1.length : Int)) = false := beq_eq_false_iff_ne.mpr c3
  have c3b1 : ((l0.length : Int) != (l1.length : Int)) = true := bne_iff_ne.mpr c3
  have c3b2 : (l0.length == l1.length) = false := by first | simpa using c3 | (simp at c3 ⊢; omega)
  obtain rfl := Option.some.inj H
  go_enter Try.func42, Try.ntmps42
  go_wp2
  repeat (go_quiet (fail); try go_wp2)
  go_ret
  exact ⟨by first | rfl | (simp; done) | (simp [*]; done), by repeat (first | exact Drawn0.refl _ | apply Drawn0.step)⟩
 rw [if_pos c3] at H
 have c3b0 : ((l0.length : Int) == (l1.length : Int)) = true := beq_iff_eq.mpr c3
 have c3b1 : ((l0.length : Int) != (l1.length : Int)) = false := bne_eq_false_iff_eq.mpr c3
 have c3b2 : (l0.length == l1.length) = true := by first | simpa using c3 | (simp at c3 ⊢; omega)
 clear c3; have H' := aM H; clear H
 go_enter Try.func42, Try.ntmps42
 go_wp2
 repeat (go_quiet (fail); try go_wp2)
 go_loopg [5] k (fun kq v5 w' => ∃ (x5_1 : Int), v5 = .int .i64 x5_1 ∧ Aside0 (paroleref06_SameInts.l0 kq l0 l1 x5_1 = some r) ∧ Aside0 (kq ≤ k) ∧ Drawn0 w w')
 case atStart => exact ⟨(0), (by first | rfl | (simp; done) | (simp [*]; done)), H', ⟨Nat.le_refl _⟩, by repeat (first | exact Drawn0.refl _ | apply Drawn0.step)⟩
 case round =>
  clear H'
  try clear c1
  try clear p2
  try clear c3
  try clear c3b0
  try clear c3b1
  try clear c3b2
  obtain ⟨x5_1, rfl, HA, HK1, ⟨m1, rfl⟩⟩ := hrel
  cases gk with
  | zero => exact absurd HA.out (by simp [paroleref06_SameInts.l0])
  | succ k1 =>
   have H := HA.out; clear HA
   simp only [paroleref06_SameInts.l0] at H
   by_cases c4 : x5_1 < (l0.length : Int)
   ·rw [if_pos c4] at H
    have c4b0 : decide (x5_1 < (l0.length : Int)) = true := decide_eq_true c4
    clear c4
    by_cases c5 : 0 ≤ x5_1
    ·rw [if_pos c5] at H
     have c5b0 : decide (0 ≤ x5_1) = true := decide_eq_true c5
     clear c5
     by_cases c6 : x5_1 < (l1.length : Int)
     ·rw [if_pos c6] at H
      have c6b0 : decide (x5_1 < (l1.length : Int)) = true := decide_eq_true c6
      clear c6
      by_cases c7 : (rd l0 x5_1) = (rd l1 x5_1)
      ·rw [if_pos c7] at H
       have c7b0 : ((rd l0 x5_1) == (rd l1 x5_1)) = true := beq_iff_eq.mpr c7
       have c7b1 : ((rd l0 x5_1) != (rd l1 x5_1)) = false := bne_eq_false_iff_eq.mpr c7
       clear c7; have H' := aM H; clear H
       have p101 : 0 ≤ (x5_1 : Int) := of_decide_eq_true (by first | (with_reducible assumption) | assumption)
       have q101 : x5_1 < (l0.length : Int) := of_decide_eq_true (by first | (with_reducible assumption) | assumption)
       obtain ⟨ad101, e101, hx101_0⟩ := Kd.at_int HR0.out x5_1 p101 q101
       cases e101
       replace p101 := eq_true p101; replace q101 := eq_true q101
       have p102 : 0 ≤ (x5_1 : Int) := of_decide_eq_true (by first | (with_reducible assumption) | assumption)
       have q102 : x5_1 < (l1.length : Int) := of_decide_eq_true (by first | (with_reducible assumption) | assumption)
       obtain ⟨ad102, e102, hx102_0⟩ := Kd.at_int HR1.out x5_1 p102 q102
       cases e102
       replace p102 := eq_true p102; replace q102 := eq_true q102
       go_wp2
       repeat (go_quiet (fail); try go_wp2)
       go_roundg k1
       case measure => have := HK1.out; omega
       case rel => exact ⟨(wrap64 (x5_1 + 1)), (by first | rfl | (simp; done) | (simp [*]; done)), H', ⟨by have := HK1.out; omega⟩, by repeat (first | exact Drawn0.refl _ | apply Drawn0.step)⟩
      ·rw [if_neg c7] at H
       have c7b0 : ((rd l0 x5_1) == (rd l1 x5_1)) = false := beq_eq_false_iff_ne.mpr c7
       have c7b1 : ((rd l0 x5_1) != (rd l1 x5_1)) = true := bne_iff_ne.mpr c7
       obtain rfl := Option.some.inj H
       have p101 : 0 ≤ (x5_1 : Int) := of_decide_eq_true (by first | (with_reducible assumption) | assumption)
       have q101 : x5_1 < (l0.length : Int) := of_decide_eq_true (by first | (with_reducible assumption) | assumption)
       obtain ⟨ad101, e101, hx101_0⟩ := Kd.at_int HR0.out x5_1 p101 q101
       cases e101
       replace p101 := eq_true p101; replace q101 := eq_true q101
       have p102 : 0 ≤ (x5_1 : Int) := of_decide_eq_true (by first | (with_reducible assumption) | assumption)
       have q102 : x5_1 < (l1.length : Int) := of_decide_eq_true (by first | (with_reducible assumption) | assumption)
       obtain ⟨ad102, e102, hx102_0⟩ := Kd.at_int HR1.out x5_1 p102 q102
       cases e102
       replace p102 := eq_true p102; replace q102 := eq_true q102
       go_wp2
       repeat (go_quiet (fail); try go_wp2)
       go_ret
       exact ⟨by first | rfl | (simp; done) | (simp [*]; done), by repeat (first | exact Drawn0.refl _ | apply Drawn0.step)⟩
     ·rw [if_neg c6] at H
      exact absurd H (by simp)
    ·rw [if_neg c5] at H
     exact absurd H (by simp)
   ·rw [if_neg c4] at H
    have c4b0 : decide (x5_1 < (l0.length : Int)) = false := decide_eq_false c4
    clear c4
    obtain rfl := Option.some.inj H
    go_wp2
    repeat (go_quiet (fail); try go_wp2)
    go_ret
    exact ⟨by first | rfl | (simp; done) | (simp [*]; done), by repeat (first | exact Drawn0.refl _ | apply Drawn0.step)⟩
end Go.Proofs.Ytohnkcmbogcfhaa.P

/- A part of the claim OddsOrder: lemmas, printed functions with their contracts, plain laws. -/
import Derived.Test.YtohnkcmbogcfhaacOddsOrder2
set_option linter.unusedVariables false
set_option linter.unusedSimpArgs false
namespace Go.Proofs.Ytohnkcmbogcfhaa.P
open Go.Proofs.YtohnkcmbogcfhaaH Go.RowKit Go.Proofs.YtohnkcmbogcfhaaW.PrintWords Go.Proofs.YtohnkcmbogcfhaaW.PrintLast Go.Proofs.YtohnkcmbogcfhaaW.PrintMore
attribute [local go_sem] max2_int min2_int max_two min_two max_three min_three max_four min_four   -- for this text's walks alone
mutual
def api_Answered.l0 : Nat → List (S71) → List (S71) → List (S71) → Option ((List (S71)))
 | 0, _, _, _ => none
 | k + 1, x0, x1, x9 => if (wrap64 ((x0.length : Int) + (x1.length : Int))) > 0 then (if (x1.length : Int) = 0 then (api_Answered.j1 k x0 x1 x9 true) else (if (x0.length : Int) > 0 then (if 0 < (x0.length : Int) then ((odds_Join_2.f ((rd_T71 x0 0).f0) ((rd_T71 x0 0).f1) ((rd_T71 x0 0).f2)).bind fun t102 => (if 0 < (x1.length : Int) then ((odds_Join_2.f ((rd_T71 x1 0).f0) ((rd_T71 x1 0).f1) ((rd_T71 x1 0).f2)).bind fun t104 => (api_Answered.j1 k x0 x1 x9 (decide (t102 < t104)))) else (none))) else (none)) else (api_Answered.j1 k x0 x1 x9 false))) else (some x9)
def api_Answered.j1 : Nat → List (S71) → List (S71) → List (S71) → Bool → Option ((List (S71)))
 | 0, _, _, _, _ => none
 | k + 1, x0, x1, x9, x31 => if x31 = true then (if 0 < (x0.length : Int) then (if x9.length < 5864062014805 then (if 1 ≤ (x0.length : Int) then (api_Answered.l0 k (x0.drop 1) x1 (x9 ++ [(⟨(rd_T71 x0 0).f0, (rd_T71 x0 0).f1, (rd_T71 x0 0).f2⟩ : S71)])) else (none)) else (none)) else (none)) else (if (x0.length : Int) = 0 then (if 0 < (x1.length : Int) then (if x9.length < 5864062014805 then (if 1 ≤ (x1.length : Int) then (api_Answered.l0 k x0 (x1.drop 1) (x9 ++ [(⟨(rd_T71 x1 0).f0, (rd_T71 x1 0).f1, (rd_T71 x1 0).f2⟩ : S71)])) else (none)) else (none)) else (none)) else (if 0 < (x1.length : Int) then ((odds_Join_2.f ((rd_T71 x1 0).f0) ((rd_T71 x1 0).f1) ((rd_T71 x1 0).f2)).bind fun t124 => (if 0 < (x0.length : Int) then ((odds_Join_2.f ((rd_T71 x0 0).f0) ((rd_T71 x0 0).f1) ((rd_T71 x0 0).f2)).bind fun t126 => (if t124 < t126 then (if x9.length < 5864062014805 then (if 1 ≤ (x1.length : Int) then (api_Answered.l0 k x0 (x1.drop 1) (x9 ++ [(⟨(rd_T71 x1 0).f0, (rd_T71 x1 0).f1, (rd_T71 x1 0).f2⟩ : S71)])) else (none)) else (none)) else ((odds_Join_1.f ((rd_T71 x0 0).f0) ((rd_T71 x0 0).f1) ((rd_T71 x0 0).f2) ((rd_T71 x1 0).f0) ((rd_T71 x1 0).f1) ((rd_T71 x1 0).f2)).bind fun bt138 => (if x9.length < 5864062014805 then (if 1 ≤ (x0.length : Int) then (if 1 ≤ (x1.length : Int) then (api_Answered.l0 k (x0.drop 1) (x1.drop 1) (x9 ++ [(⟨bt138.1, bt138.2.1, bt138.2.2⟩ : S71)])) else (none)) else (none)) else (none))))) else (none))) else (none)))
end
def api_Answered.f (k : Nat) (l0 : List (S71)) (l1 : List (S71))   : Option ((List (S71))) := api_Answered.l0 k l0 l1 ([] : List (S71))
def api_Answered.T3 : Bool × List (List Nat × List Nat) := (true, [([], []), ([], []), ([], []), ([2], [2]), ([3], [3]), ([], []), ([5], [5]), ([6], [6]), ([1, 4, 7], [1, 4, 7]), ([8], [8]), ([0, 9, 8], [0, 9]), ([], []), ([11], [11]), ([], []), ([13], [13]), ([10, 10, 0, 1, 2, 3, 4, 5, 6, 7, 8, 9, 10], [0, 10]), ([12, 15, 0, 1, 2, 3, 4, 5, 6, 7, 8, 9, 10, 11, 12, 15], [2, 11, 12]), ([14, 16, 0, 1, 2, 3, 4, 5, 6, 7, 8, 9, 10, 11, 12, 13, 14, 15, 16], [5, 13, 14])])
def api_Answered.B3 : List Nat := [0, 0, 0, 4, 12, 0, 32, 96, 254, 510, 1023, 0, 2048, 0, 8192, 2047, 40959, 131071]
theorem api_Answered.tab3 : rtab .any (opsOf Try.f81 3) = api_Answered.T3 := by kernel_rfl
theorem api_Answered.bits3 : waitsOk api_Answered.T3.2 api_Answered.B3 = true := by kernel_rfl
def api_Answered.T4 : Bool × List (List Nat × List Nat) := (true, [([], []), ([0], [0]), ([1], [1]), ([2], [2]), ([3], [3]), ([4, 3], [3, 4]), ([5, 3], [3, 5]), ([6, 3, 3], [3, 6]), ([7], [7]), ([7], [7]), ([9, 7], [7, 9]), ([10, 7], [7, 10]), ([8, 11, 7, 7], [7, 8, 11]), ([7], [7]), ([7], [7]), ([14, 7], [7, 14]), ([15, 7], [7, 15]), ([13, 16, 12, 7], [7, 13, 16]), ([12, 17, 7], [7, 12, 17]), ([7, 18, 3], [3, 7, 18]), ([3, 19], [3, 19]), ([20, 17], [20])])
def api_Answered.B4 : List Nat := [0, 1, 3, 7, 15, 31, 63, 127, 255, 255, 767, 1791, 4095, 255, 255, 16639, 49407, 131071, 262143, 524287, 1048575, 2097151]
theorem api_Answered.tab4 : rtab .any (opsOf Try.f81 4) = api_Answered.T4 := by kernel_rfl
theorem api_Answered.bits4 : waitsOk api_Answered.T4.2 api_Answered.B4 = true := by kernel_rfl
def api_Answered.T5 : Bool × List (List Nat × List Nat) := (true, [([], []), ([], []), ([1], [1]), ([2], [2]), ([3], [3]), ([0, 4], [0, 4]), ([], []), ([6], [6]), ([5, 5, 0, 1, 2, 3, 4, 5], [0, 5]), ([7, 8, 0, 1, 2, 3, 4, 5, 6, 7, 8], [1, 6, 7])])
def api_Answered.B5 : List Nat := [0, 0, 2, 6, 14, 31, 0, 64, 63, 511]
theorem api_Answered.tab5 : rtab .any (opsOf Try.f81 5) = api_Answered.T5 := by kernel_rfl
theorem api_Answered.bits5 : waitsOk api_Answered.T5.2 api_Answered.B5 = true := by kernel_rfl
def api_Answered.T6 : Bool × List (List Nat × List Nat) := (true, [([], []), ([0], [0]), ([1], [1]), ([2], [2]), ([3], [3]), ([3], [3]), ([5, 3], [3, 5]), ([6, 3], [3, 6]), ([4, 7, 3, 3], [3, 4, 7]), ([3], [3]), ([3], [3]), ([10, 3], [3, 10]), ([11, 3], [3, 11]), ([9, 12, 8, 3], [3, 9, 12]), ([8, 13, 3], [3, 8, 13]), ([3, 14], [3, 14]), ([15, 13], [15])])
def api_Answered.B6 : List Nat := [0, 1, 3, 7, 15, 15, 47, 111, 255, 15, 15, 1039, 3087, 8191, 16383, 32767, 65535]
theorem api_Answered.tab6 : rtab .any (opsOf Try.f81 6) = api_Answered.T6 := by kernel_rfl
theorem api_Answered.bits6 : waitsOk api_Answered.T6.2 api_Answered.B6 = true := by kernel_rfl
def api_Answered.T7 : Bool × List (List Nat × List Nat) := (true, [([], []), ([], []), ([1], [1]), ([2], [2]), ([3], [3]), ([0, 4], [0, 4]), ([], []), ([6], [6]), ([5, 5, 0, 1, 2, 3, 4, 5], [0, 5]), ([7, 8, 0, 1, 2, 3, 4, 5, 6, 7, 8], [1, 6, 7])])
def api_Answered.B7 : List Nat := [0, 0, 2, 6, 14, 31, 0, 64, 63, 511]
theorem api_Answered.tab7 : rtab .any (opsOf Try.f81 7) = api_Answered.T7 := by kernel_rfl
theorem api_Answered.bits7 : waitsOk api_Answered.T7.2 api_Answered.B7 = true := by kernel_rfl
set_option maxHeartbeats 40000000 in
set_option maxRecDepth 100000 in
theorem api_Answered.calls (k : Nat) (P0_ : Nat → Prop) (A0 : Option Addr) (c0 : Nat) (l0 : List (S71)) (P1_ : Nat → Prop) (A1 : Option Addr) (c1 : Nat) (l1 : List (S71))   (r : List (S71)) (w : World) (hs0 : Kd.V k71 71 w w.heap.size (fun k_ => P0_ k_) (.slice A0 l0.length c0) l0) (hs1 : Kd.V k71 71 w w.heap.size (fun k_ => P1_ k_) (.slice A1 l1.length c1) l1) (h : api_Answered.f k l0 l1 = some r) :
  Calls Try.prog 81 #[.slice A0 l0.length c0, .slice A1 l1.length c1, .func (.func 82) #[] #[], .func (.func 80) #[] #[]] w fun e w' => ∃ v0_ : Value, e = .returned (v0_) ∧ Kd.R k71 71 w' w.heap.size (fun k_ => (w.heap.size ≤ k_)) v0_ r ∧ Below w.heap.size w w' := by
 have hu71 := Try.underlying71; have HO0 := aM (show Kd.V k71 71 w w.heap.size (fun k_ => ((P0_ k_ ∨ P1_ k_) ∨ w.heap.size ≤ k_)) (.slice A0 l0.length c0) l0 from Kd.V_mono hs0 (fun k_ hk => .inl (.inl hk))); have HO1 := aM (show Kd.V k71 71 w w.heap.size (fun k_ => ((P0_ k_ ∨ P1_ k_) ∨ w.heap.size ≤ k_)) (.slice A1 l1.length c1) l1 from Kd.V_mono hs1 (fun k_ hk => .inl (.inr hk))); have HB := aM (Below.refl w.heap.size w)
 have H : (api_Answered.l0 k l0 l1 ([] : List (S71))) = some r := h
 clear h; have H' := aM H; clear H
 go_enter Try.func81, Try.ntmps81
 go_wp2
 go_loopg [0, 1, 9] k (fun kq v0 v1 v9 w' => ∃ (x0_1 : List (S71)) (x1_1 : List (S71)) (x9_1 : List (S71)), Aside0 (api_Answered.l0 kq x0_1 x1_1 x9_1 = some r) ∧ Aside0 (kq ≤ k) ∧ Aside0 (Kd.V k71 71 w' w.heap.size (fun k_ => ((P0_ k_ ∨ P1_ k_) ∨ w.heap.size ≤ k_) ∧ some k_ ≠ (v9 : Value).ownBlock) v0 x0_1) ∧ Aside0 (Kd.V k71 71 w' w.heap.size (fun k_ => ((P0_ k_ ∨ P1_ k_) ∨ w.heap.size ≤ k_) ∧ some k_ ≠ (v9 : Value).ownBlock) v1 x1_1) ∧ Aside0 (Kd.R k71 71 w' w.heap.size (fun k_ => (w.heap.size ≤ k_)) v9 x9_1) ∧ Aside0 (Below w.heap.size w w'))
 case atStart => exact ⟨(l0), (l1), (([] : List (S71))), H', ⟨Nat.le_refl _⟩, ⟨by (with_reducible repeat (first | apply Kd.V_alloc | apply Kd.V_drewN | apply Kd.V_drew)); exact Kd.V_mono HO0.out (fun _ hk => ⟨hk, (by simp [Value.ownBlock])⟩)⟩, ⟨by (with_reducible repeat (first | apply Kd.V_alloc | apply Kd.V_drewN | apply Kd.V_drew)); exact Kd.V_mono HO1.out (fun _ hk => ⟨hk, (by simp [Value.ownBlock])⟩)⟩, ⟨by first | exact Kd.R_nil _ _ _ _ _ | exact Kd.N_nil _ _ _ _ _ | exact Kd.V_nil _ _ _ _ _ | exact Kd.Q_nil _ _ _ _ _ | exact Kd.S_nil _ _ _ _ _⟩, ⟨sD HB⟩⟩
 case round =>
  clear H'
  try clear c1
  try clear p2
  obtain ⟨x0_1, x1_1, x9_1, HA, HK1, HO_0, HO_1, HO_9, HB⟩ := hrel
  cases gk with
  | zero => exact absurd HA.out (by simp [api_Answered.l0])
  | succ k1 =>
   have H := HA.out; clear HA
   simp only [api_Answered.l0] at H
   by_cases c5 : (wrap64 ((x0_1.length : Int) + (x1_1.length : Int))) > 0
   ·rw [if_pos c5] at H
    have c5b0 : decide (0 < (wrap64 ((x0_1.length : Int) + (x1_1.length : Int)))) = true := decide_eq_true c5
    clear c5; have HC6 := aM H; clear H
    obtain ⟨Ao7, co7, eo7⟩ := Kd.V_slice HO_0.out
    subst eo7
    obtain ⟨Ao8, co8, eo8⟩ := Kd.V_slice HO_1.out
    subst eo8
    go_upto_region 4 with (fail)
    go_cut [31] (fun v31 wc => ∃ (kq : Nat) (x31_5 : Bool), v31 = .bool x31_5 ∧ Aside0 (api_Answered.j1 kq x0_1 x1_1 x9_1 x31_5 = some r) ∧ Aside0 (kq ≤ k1) ∧ Aside0 (Kd.V k71 71 wc w.heap.size (fun k_ => ((P0_ k_ ∨ P1_ k_) ∨ w.heap.size ≤ k_) ∧ some k_ ≠ (u9 : Value).ownBlock) (.slice Ao7 x0_1.length co7) x0_1) ∧ Aside0 (Kd.V k71 71 wc w.heap.size (fun k_ => ((P0_ k_ ∨ P1_ k_) ∨ w.heap.size ≤ k_) ∧ some k_ ≠ (u9 : Value).ownBlock) (.slice Ao8 x1_1.length co8) x1_1) ∧ Aside0 (Kd.R k71 71 wc w.heap.size (fun k_ => (w.heap.size ≤ k_)) u9 x9_1) ∧ Aside0 (Below w.heap.size w wc))
    case first =>
     have H := HC6.out; clear HC6
     by_cases c9 : (x1_1.length : Int) = 0
     ·rw [if_pos c9] at H
      have c9b0 : ((x1_1.length : Int) == 0) = true := beq_iff_eq.mpr c9
      have c9b1 : ((x1_1.length : Int) != 0) = false := bne_eq_false_iff_eq.mpr c9
      clear c9
      (first | rw [c9b0] | (simp only [i64_w, i32_w]; rw [c9b0]) | skip)
      have H' := aM H; clear H
      try go_wp2
      replace HO_0 := aM (Kd.V_drew HO_0.out); replace HO_1 := aM (Kd.V_drew HO_1.out); replace HO_9 := aM (Kd.R_drew HO_9.out); replace HB := aM (below_drew1 HB.out)
      refine start_ (n := 22) (S := fun w' => True) (ds := []) #[false, false, false, false, false, false, false, false, false, false, false, false, false, false, false, false, false, false, false, false, false, false] (by kernel_rfl) rfl rfl trivial (fun hHeld => ?_); refine with_tabW api_Answered.tab4 api_Answered.bits4 (fun HT_ HW_ => ?_)
      generalize wr.drew = w10 at HO_0 HO_1 HO_9 HB hHeld ⊢
      refine pX (i := 0) (N := some 32) rfl rfl HT_ ?_
      refine pX (i := 1) (N := some 33) rfl rfl HT_ ?_
      refine pX (i := 2) (N := some 34) rfl rfl HT_ ?_
      refine pX (i := 3) (N := some 35) rfl rfl HT_ ?_
      refine pU (i := 4) (N := some 36) rfl rfl HT_ ?_
      refine pU (i := 5) (N := some 37) rfl rfl HT_ ?_
      refine pU (i := 6) (N := some 38) rfl rfl HT_ ?_
      refine pU (i := 7) (N := some 39) rfl rfl HT_ ?_
      refine pU (i := 8) (N := some 40) rfl rfl HT_ ?_
      refine pU (i := 9) (N := some 41) rfl rfl HT_ ?_
      refine pU (i := 10) (N := some 42) rfl rfl HT_ ?_
      refine pU (i := 11) (N := some 43) rfl rfl HT_ ?_
      refine pU (i := 12) (N := some 44) rfl rfl HT_ ?_
      refine pU (i := 13) (N := some 45) rfl rfl HT_ ?_
      refine pU (i := 14) (N := some 46) rfl rfl HT_ ?_
      refine pU (i := 15) (N := some 47) rfl rfl HT_ ?_
      refine pU (i := 16) (N := some 48) rfl rfl HT_ ?_
      refine pU (i := 17) (N := some 49) rfl rfl HT_ ?_
      refine pU (i := 18) (N := some 50) rfl rfl HT_ ?_
      refine pU (i := 19) (N := some 51) rfl rfl HT_ ?_
      refine pX (i := 20) (N := some 52) rfl rfl HT_ ?_
      refine pX (i := 21) (N := some 31) rfl rfl HT_ ?_
      refine done_ (done_of HT_.out (by kernel_rfl)) ?_
      try go_wp2
      go_meet
      case rel => exact ⟨_, (true), (by first | rfl | (simp; done) | (simp [*]; done)), H', ⟨by have := HK1.out; first | omega | exact Nat.le_refl _⟩, ⟨by (with_reducible repeat (first | apply Kd.V_alloc | apply Kd.V_drewN | apply Kd.V_drew)); exact HO_0.out⟩, ⟨by (with_reducible repeat (first | apply Kd.V_alloc | apply Kd.V_drewN | apply Kd.V_drew)); exact HO_1.out⟩, ⟨by (with_reducible repeat (first | apply Kd.R_alloc | apply Kd.R_drewN | apply Kd.R_drew)); exact HO_9.out⟩, ⟨sD HB⟩⟩
     ·rw [if_neg c9] at H
      have c9b0 : ((x1_1.length : Int) == 0) = false := beq_eq_false_iff_ne.mpr c9
      have c9b1 : ((x1_1.length : Int) != 0) = true := bne_iff_ne.mpr c9
      have c9b2 : ¬ (x1_1 = []) := fun h_ => c9 (by rw [h_]; rfl)
      (first | rw [c9b0] | (simp only [i64_w, i32_w]; rw [c9b0]) | skip)
      by_cases c11 : (x0_1.length : Int) > 0
      ·rw [if_pos c11] at H
       have c11b0 : decide (0 < (x0_1.length : Int)) = true := decide_eq_true c11
       have c11b1 : decide (0 < x0_1.length) = true := decide_eq_true (by omega)
       clear c11
       by_cases c12 : 0 < (x0_1.length : Int)
       ·rw [if_pos c12] at H
        have c12b0 : decide (0 < (x0_1.length : Int)) = true := decide_eq_true c12
        have c12b1 : decide (0 < x0_1.length) = true := decide_eq_true (by omega)
        clear c12; replace H := Option.bind_eq_some_iff.mp H
        obtain ⟨t102, A130, H⟩ := H
        replace H : (if 0 < (x1_1.length : Int) then ((odds_Join_2.f ((rd_T71 x1_1 0).f0) ((rd_T71 x1_1 0).f1) ((rd_T71 x1_1 0).f2)).bind fun t104 => (api_Answered.j1 k1 x0_1 x1_1 x9_1 (decide (t102 < t104)))) else (none)) = some r := H
        have A13 := aM A130; clear A130
        by_cases c14 : 0 < (x1_1.length : Int)
        ·rw [if_pos c14] at H
         have c14b0 : decide (0 < (x1_1.length : Int)) = true := decide_eq_true c14
         have c14b1 : decide (0 < x1_1.length) = true := decide_eq_true (by omega)
         clear c14; replace H := Option.bind_eq_some_iff.mp H
         obtain ⟨t104, A150, H⟩ := H
         replace H : (api_Answered.j1 k1 x0_1 x1_1 x9_1 (decide (t102 < t104))) = some r := H
         have A15 := aM A150; clear A150; have H' := aM H; clear H
         try go_wp2
         replace HO_0 := aM (Kd.V_drew HO_0.out); replace HO_1 := aM (Kd.V_drew HO_1.out); replace HO_9 := aM (Kd.R_drew HO_9.out); replace HB := aM (below_drew1 HB.out)
         have p101 : 0 ≤ (0 : Int) := (by omega)
         have q101 : 0 < (x0_1.length : Int) := of_decide_eq_true (by first | (with_reducible assumption) | assumption)
         obtain ⟨ad101, e101, hx101_0, hx101_1, hx101_2⟩ := at_T71 (Kd.V_reads' HO_0.out).2.2 0 p101 q101
         cases e101
         have qi101 : (0 < x0_1.length) = True := eq_true (by omega)
         (try rw [show ((0 : Int)).toNat = 0 from rfl] at hx101_0)
         (try rw [show 0 * 3 = 0 from rfl] at hx101_0)
         (try rw [Addr.add_zero'] at hx101_0)
         (try rw [show ((0 : Int)).toNat = 0 from rfl] at hx101_1)
         (try rw [show 0 * 3 = 0 from rfl] at hx101_1)
         (try rw [Addr.add_zero'] at hx101_1)
         (try rw [show ((0 : Int)).toNat = 0 from rfl] at hx101_2)
         (try rw [show 0 * 3 = 0 from rfl] at hx101_2)
         (try rw [Addr.add_zero'] at hx101_2)
         replace p101 := eq_true p101; replace q101 := eq_true q101
         (try (have qd101 := q101; simp only [List.length_drop] at qd101))
         have p103 : 0 ≤ (0 : Int) := (by omega)
         have q103 : 0 < (x1_1.length : Int) := of_decide_eq_true (by first | (with_reducible assumption) | assumption)
         obtain ⟨ad103, e103, hx103_0, hx103_1, hx103_2⟩ := at_T71 (Kd.V_reads' HO_1.out).2.2 0 p103 q103
         cases e103
         have qi103 : (0 < x1_1.length) = True := eq_true (by omega)
         (try rw [show ((0 : Int)).toNat = 0 from rfl] at hx103_0)
         (try rw [show 0 * 3 = 0 from rfl] at hx103_0)
         (try rw [Addr.add_zero'] at hx103_0)
         (try rw [show ((0 : Int)).toNat = 0 from rfl] at hx103_1)
         (try rw [show 0 * 3 = 0 from rfl] at hx103_1)
         (try rw [Addr.add_zero'] at hx103_1)
         (try rw [show ((0 : Int)).toNat = 0 from rfl] at hx103_2)
         (try rw [show 0 * 3 = 0 from rfl] at hx103_2)
         (try rw [Addr.add_zero'] at hx103_2)
         replace p103 := eq_true p103; replace q103 := eq_true q103
         (try (have qd103 := q103; simp only [List.length_drop] at qd103))
         refine start_ (n := 22) (S := fun w' => w'.cell? ad101 = some (.int .i64 ((rd_T71 x0_1 0).f0)) ∧ w'.cell? ⟨ad101.block, ad101.off + 1, none⟩ = some (.int .i64 ((rd_T71 x0_1 0).f1)) ∧ w'.cell? ⟨ad101.block, ad101.off + 2, none⟩ = some (.int .i64 ((rd_T71 x0_1 0).f2)) ∧ w'.cell? ad103 = some (.int .i64 ((rd_T71 x1_1 0).f0)) ∧ w'.cell? ⟨ad103.block, ad103.off + 1, none⟩ = some (.int .i64 ((rd_T71 x1_1 0).f1)) ∧ w'.cell? ⟨ad103.block, ad103.off + 2, none⟩ = some (.int .i64 ((rd_T71 x1_1 0).f2))) (ds := []) #[false, false, false, false, false, false, false, false, false, false, false, false, false, false, false, false, false, false, false, false, false, false] (by kernel_rfl) rfl rfl ⟨hx101_0, hx101_1, hx101_2, hx103_0, hx103_1, hx103_2⟩ (fun hHeld => ?_); refine with_tabW api_Answered.tab4 api_Answered.bits4 (fun HT_ HW_ => ?_)
         generalize wr.drew = w16 at HO_0 HO_1 HO_9 HB hx101_0 hx101_1 hx101_2 hx103_0 hx103_1 hx103_2 hHeld ⊢
         refine pX (i := 0) (N := some 32) rfl rfl HT_ ?_
         refine pX (i := 1) (N := some 33) rfl rfl HT_ ?_
         refine pX (i := 2) (N := some 34) rfl rfl HT_ ?_
         refine pX (i := 3) (N := some 35) rfl rfl HT_ ?_
         refine pX (i := 4) (N := some 36) rfl rfl HT_ ?_
         refine pX (i := 5) (N := some 37) rfl rfl HT_ ?_
         refine pX (i := 6) (N := some 38) rfl rfl HT_ ?_
         refine pX (i := 7) (N := some 39) rfl rfl HT_ ?_
         refine pX (i := 8) (N := some 40) rfl rfl HT_ ?_
         refine pX (i := 9) (N := some 41) rfl rfl HT_ ?_
         refine pX (i := 10) (N := some 42) rfl rfl HT_ ?_
         refine pX (i := 13) (N := some 45) rfl rfl HT_ ?_
         refine pX (i := 14) (N := some 46) rfl rfl HT_ ?_
         refine pX (i := 15) (N := some 47) rfl rfl HT_ ?_
         refine tX (i := 11) (N := some 43) rfl rfl HT_ HW_ hHeld (Or.inl ⟨by rfl, by rintro w' ⟨s0, s1, s2, s3, s4, s5⟩; go_simp; with_reducible rfl⟩) ?_
         refine tX (i := 16) (N := some 48) rfl rfl HT_ HW_ hHeld (Or.inl ⟨by rfl, by rintro w' ⟨s0, s1, s2, s3, s4, s5⟩; go_simp; with_reducible rfl⟩) ?_
         refine oX (i := 12) (N := some 44) rfl rfl HT_ (fun K hK => ?_)
         refine Go.Proofs.YtohnkcmbogcfhaaH.goes_v Try.func82 (by kernel_rfl) rfl #[.agg #[.int .i64 ((rd_T71 x0_1 0).f0), .int .i64 ((rd_T71 x0_1 0).f1), .int .i64 ((rd_T71 x0_1 0).f2)]] (.tmp 40) (by rfl) rfl rfl (by rfl) (by (try simp only [List.map_toArray, List.map_cons, List.map_nil]); first | done | rfl | (simp only [List.length_drop, List.length_take]; rfl)) ?_
         with_reducible refine (odds_Join_2.calls ((rd_T71 x0_1 0).f0) ((rd_T71 x0_1 0).f1) ((rd_T71 x0_1 0).f2) t102 _ A13.out).mono ?_
         rintro e w17 ⟨rfl, hb⟩
         have HS0_ := (hb.cell (World.block_lt_of_cell? _ _ (hHeld.1))).trans (hHeld.1); have HS1_ := (hb.cell (World.block_lt_of_cell? _ _ (hHeld.2.1))).trans (hHeld.2.1); have HS2_ := (hb.cell (World.block_lt_of_cell? _ _ (hHeld.2.2.1))).trans (hHeld.2.2.1); have HS3_ := (hb.cell (World.block_lt_of_cell? _ _ (hHeld.2.2.2.1))).trans (hHeld.2.2.2.1); have HS4_ := (hb.cell (World.block_lt_of_cell? _ _ (hHeld.2.2.2.2.1))).trans (hHeld.2.2.2.2.1); have HS5_ := (hb.cell (World.block_lt_of_cell? _ _ (hHeld.2.2.2.2.2))).trans (hHeld.2.2.2.2.2)
         refine ⟨_, rfl, ?_⟩
         replace HO_0 := aM (Kd.V_below (by (with_reducible repeat (first | apply Kd.V_alloc | apply Kd.V_drewN | apply Kd.V_drew)); exact HO_0.out) hb); replace HO_1 := aM (Kd.V_below (by (with_reducible repeat (first | apply Kd.V_alloc | apply Kd.V_drewN | apply Kd.V_drew)); exact HO_1.out) hb); replace HO_9 := rB HO_9 hb; replace HB := sB HB hb; (try clear hb); (try clear hb2); (try clear hk); (try clear hi)
         refine hK.out _ _ ⟨HS0_, HS1_, HS2_, HS3_, HS4_, HS5_⟩ (fun hHeld => ?_)
         clear hK K
         refine nX (some 44) ?_
         refine oX (i := 17) (N := some 49) rfl rfl HT_ (fun K hK => ?_)
         refine Go.Proofs.YtohnkcmbogcfhaaH.goes_v Try.func82 (by kernel_rfl) rfl #[.agg #[.int .i64 ((rd_T71 x1_1 0).f0), .int .i64 ((rd_T71 x1_1 0).f1), .int .i64 ((rd_T71 x1_1 0).f2)]] (.tmp 45) (by rfl) rfl rfl (by rfl) (by (try simp only [List.map_toArray, List.map_cons, List.map_nil]); first | done | rfl | (simp only [List.length_drop, List.length_take]; rfl)) ?_
         with_reducible refine (odds_Join_2.calls ((rd_T71 x1_1 0).f0) ((rd_T71 x1_1 0).f1) ((rd_T71 x1_1 0).f2) t104 _ A15.out).mono ?_
         rintro e w18 ⟨rfl, hb⟩
         have HS0_ := (hb.cell (World.block_lt_of_cell? _ _ (hHeld.1))).trans (hHeld.1); have HS1_ := (hb.cell (World.block_lt_of_cell? _ _ (hHeld.2.1))).trans (hHeld.2.1); have HS2_ := (hb.cell (World.block_lt_of_cell? _ _ (hHeld.2.2.1))).trans (hHeld.2.2.1); have HS3_ := (hb.cell (World.block_lt_of_cell? _ _ (hHeld.2.2.2.1))).trans (hHeld.2.2.2.1); have HS4_ := (hb.cell (World.block_lt_of_cell? _ _ (hHeld.2.2.2.2.1))).trans (hHeld.2.2.2.2.1); have HS5_ := (hb.cell (World.block_lt_of_cell? _ _ (hHeld.2.2.2.2.2))).trans (hHeld.2.2.2.2.2)
         refine ⟨_, rfl, ?_⟩
         replace HO_0 := aM (Kd.V_below (by (with_reducible repeat (first | apply Kd.V_alloc | apply Kd.V_drewN | apply Kd.V_drew)); exact HO_0.out) hb); replace HO_1 := aM (Kd.V_below (by (with_reducible repeat (first | apply Kd.V_alloc | apply Kd.V_drewN | apply Kd.V_drew)); exact HO_1.out) hb); replace HO_9 := rB HO_9 hb; replace HB := sB HB hb; (try clear hb); (try clear hb2); (try clear hk); (try clear hi)
         refine hK.out _ _ ⟨HS0_, HS1_, HS2_, HS3_, HS4_, HS5_⟩ (fun hHeld => ?_)
         clear hK K
         refine nX (some 49) ?_
         refine pX (i := 18) (N := some 50) rfl rfl HT_ ?_
         refine pX (i := 19) (N := some 51) rfl rfl HT_ ?_
         refine pX (i := 20) (N := some 52) rfl rfl HT_ ?_
         refine pX (i := 21) (N := some 31) rfl rfl HT_ ?_
         refine done_ (done_of HT_.out (by kernel_rfl)) ?_
         try go_wp2
         go_meet
         case rel => exact ⟨_, (decide (t102 < t104)), (by first | rfl | (simp; done) | (simp [*]; done)), H', ⟨by have := HK1.out; first | omega | exact Nat.le_refl _⟩, ⟨by (with_reducible repeat (first | apply Kd.V_alloc | apply Kd.V_drewN | apply Kd.V_drew)); exact HO_0.out⟩, ⟨by (with_reducible repeat (first | apply Kd.V_alloc | apply Kd.V_drewN | apply Kd.V_drew)); exact HO_1.out⟩, ⟨by (with_reducible repeat (first | apply Kd.R_alloc | apply Kd.R_drewN | apply Kd.R_drew)); exact HO_9.out⟩, ⟨sD HB⟩⟩
        ·rw [if_neg c14] at H
         exact absurd H (by simp)
       ·rw [if_neg c12] at H
        exact absurd H (by simp)
      ·rw [if_neg c11] at H
       have c11b0 : decide (0 < (x0_1.length : Int)) = false := decide_eq_false c11
       have c11b1 : decide (0 < x0_1.length) = false := decide_eq_false (by omega)
       clear c11; have H' := aM H; clear H
       try go_wp2
       replace HO_0 := aM (Kd.V_drew HO_0.out); replace HO_1 := aM (Kd.V_drew HO_1.out); replace HO_9 := aM (Kd.R_drew HO_9.out); replace HB := aM (below_drew1 HB.out)
       refine start_ (n := 22) (S := fun w' => True) (ds := []) #[false, false, false, false, false, false, false, false, false, false, false, false, false, false, false, false, false, false, false, false, false, false] (by kernel_rfl) rfl rfl trivial (fun hHeld => ?_); refine with_tabW api_Answered.tab4 api_Answered.bits4 (fun HT_ HW_ => ?_)
       generalize wr.drew = w19 at HO_0 HO_1 HO_9 HB hHeld ⊢
       refine pX (i := 0) (N := some 32) rfl rfl HT_ ?_
       refine pX (i := 1) (N := some 33) rfl rfl HT_ ?_
       refine pX (i := 2) (N := some 34) rfl rfl HT_ ?_
       refine pX (i := 3) (N := some 35) rfl rfl HT_ ?_
       refine pX (i := 4) (N := some 36) rfl rfl HT_ ?_
       refine pX (i := 5) (N := some 37) rfl rfl HT_ ?_
       refine pX (i := 6) (N := some 38) rfl rfl HT_ ?_
       refine pX (i := 7) (N := some 39) rfl rfl HT_ ?_
       refine pU (i := 8) (N := some 40) rfl rfl HT_ ?_
       refine pU (i := 9) (N := some 41) rfl rfl HT_ ?_
       refine pU (i := 10) (N := some 42) rfl rfl HT_ ?_
       refine pU (i := 11) (N := some 43) rfl rfl HT_ ?_
       refine pU (i := 12) (N := some 44) rfl rfl HT_ ?_
       refine pU (i := 13) (N := some 45) rfl rfl HT_ ?_
       refine pU (i := 14) (N := some 46) rfl rfl HT_ ?_
       refine pU (i := 15) (N := some 47) rfl rfl HT_ ?_
       refine pU (i := 16) (N := some 48) rfl rfl HT_ ?_
       refine pU (i := 17) (N := some 49) rfl rfl HT_ ?_
       refine pU (i := 18) (N := some 50) rfl rfl HT_ ?_
       refine pX (i := 19) (N := some 51) rfl rfl HT_ ?_
       refine pX (i := 20) (N := some 52) rfl rfl HT_ ?_
       refine pX (i := 21) (N := some 31) rfl rfl HT_ ?_
       refine done_ (done_of HT_.out (by kernel_rfl)) ?_
       try go_wp2
       go_meet
       case rel => exact ⟨_, (false), (by first | rfl | (simp; done) | (simp [*]; done)), H', ⟨by have := HK1.out; first | omega | exact Nat.le_refl _⟩, ⟨by (with_reducible repeat (first | apply Kd.V_alloc | apply Kd.V_drewN | apply Kd.V_drew)); exact HO_0.out⟩, ⟨by (with_reducible repeat (first | apply Kd.V_alloc | apply Kd.V_drewN | apply Kd.V_drew)); exact HO_1.out⟩, ⟨by (with_reducible repeat (first | apply Kd.R_alloc | apply Kd.R_drewN | apply Kd.R_drew)); exact HO_9.out⟩, ⟨sD HB⟩⟩
    case rest =>
     clear HC6
     try clear c1
     try clear p1
     try clear q1
     try clear hx1
     try clear qi1
     try clear p2
     try clear c8
     try clear c9
     try clear c9b0
     try clear c9b1
     try clear c9b2
     try clear p10
     try clear q10
     try clear hx10
     try clear qi10
     try clear c11
     try clear c11b0
     try clear c11b1
     try clear c12
     try clear c12b0
     try clear c12b1
     try clear c14
     try clear c14b0
     try clear c14b1
     try clear hx101_0
     try clear hx101_1
     try clear hx101_2
     try clear hx103_0
     try clear hx103_1
     try clear hx103_2
     try clear p101
     try clear p103
     try clear q101
     try clear q103
     obtain ⟨kq, x31_5, rfl, HA, HJ5, HO_0, HO_1, HO_9, HB⟩ := hcut
     cases kq with
     | zero => exact absurd HA.out (by simp [api_Answered.j1])
     | succ kj5 =>
      have H := HA.out; clear HA
      simp only [api_Answered.j1] at H
      by_cases c20 : x31_5 = true
      ·subst c20
       have H1 : (if 0 < (x0_1.length : Int) then (if x9_1.length < 5864062014805 then (if 1 ≤ (x0_1.length : Int) then (api_Answered.l0 kj5 (x0_1.drop 1) x1_1 (x9_1 ++ [(⟨(rd_T71 x0_1 0).f0, (rd_T71 x0_1 0).f1, (rd_T71 x0_1 0).f2⟩ : S71)])) else (none)) else (none)) else (none)) = some r := by rw [if_pos rfl] at H; exact H
       clear H; have H := H1; clear H1
       by_cases c21 : 0 < (x0_1.length : Int)
       ·rw [if_pos c21] at H
        have c21b0 : decide (0 < (x0_1.length : Int)) = true := decide_eq_true c21
        have c21b1 : decide (0 < x0_1.length) = true := decide_eq_true (by omega)
        clear c21
        by_cases c22 : x9_1.length < 5864062014805
        ·rw [if_pos c22] at H
         have LMc22 := aM c22; clear c22
         obtain ⟨y106, hy106⟩ : ∃ y_ : List (S71), y_ = (x9_1 ++ [(⟨(rd_T71 x0_1 0).f0, (rd_T71 x0_1 0).f1, (rd_T71 x0_1 0).f2⟩ : S71)]) := ⟨_, rfl⟩
         replace H : (if 1 ≤ (x0_1.length : Int) then (api_Answered.l0 kj5 (x0_1.drop 1) x1_1 y106) else (none)) = some r := by first | (rw [hy106]; with_reducible exact H) | (have H2_ := (Option.bind_some _ _).symm.trans H; rw [hy106]; with_reducible exact H2_) | (have H2_ := (Option.bind_some _ _).symm.trans H; with_reducible exact H2_) | with_reducible exact H | (rw [hy106]; exact H) | exact H
         have Ny106 := aM hy106; clear hy106
         by_cases c23 : 1 ≤ (x0_1.length : Int)
         ·rw [if_pos c23] at H
          have c23b0 := eq_true c23
          have c23b1 : decide (1 ≤ (x0_1.length : Int)) = true := decide_eq_true c23
          clear c23
          obtain ⟨y109, hy109⟩ : ∃ y_ : List (S71), y_ = (x0_1.drop 1) := ⟨_, rfl⟩
          replace H : (api_Answered.l0 kj5 y109 x1_1 y106) = some r := by first | (rw [hy109]; with_reducible exact H) | (have H2_ := (Option.bind_some _ _).symm.trans H; rw [hy109]; with_reducible exact H2_) | (have H2_ := (Option.bind_some _ _).symm.trans H; with_reducible exact H2_) | with_reducible exact H | (rw [hy109]; exact H) | exact H
          have Ny109 := aM hy109; clear hy109; have H' := aM H; clear H
          try go_wp2
          replace HO_0 := aM (Kd.V_drew HO_0.out); replace HO_1 := aM (Kd.V_drew HO_1.out); replace HO_9 := aM (Kd.R_drew HO_9.out); replace HB := aM (below_drew1 HB.out)
          have p105 : 0 ≤ (0 : Int) := (by omega)
          have q105 : 0 < (x0_1.length : Int) := of_decide_eq_true (by first | (with_reducible assumption) | assumption)
          obtain ⟨ad105, e105, hx105_0, hx105_1, hx105_2⟩ := at_T71 (Kd.V_reads' HO_0.out).2.2 0 p105 q105
          cases e105
          have qi105 : (0 < x0_1.length) = True := eq_true (by omega)
          (try rw [show ((0 : Int)).toNat = 0 from rfl] at hx105_0)
          (try rw [show 0 * 3 = 0 from rfl] at hx105_0)
          (try rw [Addr.add_zero'] at hx105_0)
          (try rw [show ((0 : Int)).toNat = 0 from rfl] at hx105_1)
          (try rw [show 0 * 3 = 0 from rfl] at hx105_1)
          (try rw [Addr.add_zero'] at hx105_1)
          (try rw [show ((0 : Int)).toNat = 0 from rfl] at hx105_2)
          (try rw [show 0 * 3 = 0 from rfl] at hx105_2)
          (try rw [Addr.add_zero'] at hx105_2)
          replace p105 := eq_true p105; replace q105 := eq_true q105
          (try (have qd105 := q105; simp only [List.length_drop] at qd105))
          have q25 : (1 : Int) ≤ ((x0_1.length : Int) : Int) := of_decide_eq_true (by first | (with_reducible assumption) | assumption)
          obtain ⟨i025, hi025, _, hsz25, _⟩ := info_parts info71
          have hroom25 : x0_1.length ≤ co7 := (Kd.V_reads' HO_0.out).2.1
          have hC25 : Kd.F k71 _ _ (some ad105) x0_1.length x0_1 := (Kd.V_at (base := w.heap.size) HO_0.out).2.2
          have hcut25 := cut_from (P := Try.prog) 22 71 .i64 Try.underlying22 hi025 3 hsz25 (some ad105) x0_1.length co7 1 (by omega) q25; have hr25 := Kd.F_cut (m := (1 : Int).toNat) (c := co7) hC25 (by omega) hroom25
          obtain ⟨A25, hA25⟩ : ∃ A1, A1 = (if co7 = (1 : Int).toNat then (some ad105) else ((some ad105) : Option Addr).map (·.add ((1 : Int).toNat * 3))) := ⟨_, rfl⟩
          obtain ⟨c25, hc25⟩ : ∃ c1, c1 = co7 - (1 : Int).toNat := ⟨_, rfl⟩
          have hy25 : y109.length = x0_1.length - (1 : Int).toNat := (by rw [Ny109.out, List.length_drop] <;> omega)
          rw [show (x0_1).drop (1 : Int).toNat = y109 from Ny109.out.symm] at hr25
          replace hr25 : Kd.F k71 _ _ A25 y109.length y109 := (by rw [hA25]; exact hr25)
          rw [← hy25, ← hA25, ← hc25] at hcut25
          have HO113 := aM (show Kd.V k71 71 _ w.heap.size _ (.slice A25 y109.length c25) y109 from Kd.V_mk (by rw [hy25, hc25]; exact Nat.sub_le_sub_right hroom25 _) hr25)
          have HC113 := aM (show y109.length ≤ c25 from by rw [hy25, hc25]; exact Nat.sub_le_sub_right hroom25 _)
          clear hr25 hC25 hroom25 hi025 hsz25 hc25; have KY25 := aM hy25; have KA25 := aM hA25; clear hy25 hA25; replace q25 := eq_true q25
          (try (have qd25 := q25; simp only [List.length_drop] at qd25))
          refine start_ (n := 10) (S := fun w' => w'.cell? ad105 = some (.int .i64 ((rd_T71 x0_1 0).f0)) ∧ w'.cell? ⟨ad105.block, ad105.off + 1, none⟩ = some (.int .i64 ((rd_T71 x0_1 0).f1)) ∧ w'.cell? ⟨ad105.block, ad105.off + 2, none⟩ = some (.int .i64 ((rd_T71 x0_1 0).f2))) (ds := [4, 5]) #[false, false, false, false, false, false, false, false, false, false] (by kernel_rfl) rfl rfl ⟨hx105_0, hx105_1, hx105_2⟩ (fun hHeld => ?_); refine with_tabW api_Answered.tab5 api_Answered.bits5 (fun HT_ HW_ => ?_)
          generalize wc.drew = w24 at HO_0 HO_1 HO_9 HB HO113 hx105_0 hx105_1 hx105_2 hHeld ⊢
          refine pX (i := 0) (N := some 53) rfl rfl HT_ ?_
          refine pX (i := 1) (N := some 54) rfl rfl HT_ ?_
          refine pX (i := 2) (N := some 55) rfl rfl HT_ ?_
          refine pX (i := 6) (N := some 59) rfl rfl HT_ ?_
          refine pX (i := 7) (N := some 60) rfl rfl HT_ ?_
          refine tX (i := 3) (N := some 56) rfl rfl HT_ HW_ hHeld (Or.inl ⟨by rfl, by rintro w' ⟨s0, s1, s2⟩; go_simp; with_reducible rfl⟩) ?_
          refine last_ (i := 4) (N := some 57) #[true, true, true, true, true, false, true, true, false, false] rfl rfl (one_of HT_.out (by kernel_rfl)) (by decide) (fun K hK => ?_)
          refine value_ (w1 := ?_) (v := ?_) (by rfl) rfl ?_ ?_
          rotate_left 2
          ·go_simp
           constructor
           ·rfl
           ·rfl
          refine hK.out _ _ ?_
          clear hK K
          refine nX (some 57) ?_
          refine last_ (i := 5) (N := some 58) #[true, true, true, true, true, true, true, true, false, false] rfl rfl (one_of HT_.out (by kernel_rfl)) (by decide) (fun K hK => ?_)
          refine Kd.R_append_step k71 (w0 := w) w.heap.size (by rfl) (.tmp 53) (.tmp 57) 22 71 (.agg #[(.int .i64 0), (.int .i64 0), (.int .i64 0)]) 24 rfl Try.underlying22 info71 rfl (by decide) (by omega) u9 x9_1 (⟨(rd_T71 x0_1 0).f0, (rd_T71 x0_1 0).f1, (rd_T71 x0_1 0).f2⟩ : S71) [.int .i64 ((rd_T71 x0_1 0).f0), .int .i64 ((rd_T71 x0_1 0).f1), .int .i64 ((rd_T71 x0_1 0).f2)] (fun k_ => (w.heap.size ≤ k_)) (fun _ => False) rfl rfl ?aP (fun _ hk => hk.elim) ?aF ?aO ?aB ?aS ?aL ?_
          (case aP => exact k71_mkM _ _ _ (⟨(rd_T71 x0_1 0).f0, (rd_T71 x0_1 0).f1, (rd_T71 x0_1 0).f2⟩ : S71))
          (case aB => exact (sD HB))
          (case aF => exact (fun k_ hk => (Nat.le_trans (below_size (sD HB)) hk)))
          (case aO => exact (rD HO_9))
          (case aS => exact (below_size (sD HB)))
          (case aL => have := LMc22.out; omega)
          intro v107 w26 ho hb hg hat
          rw [← Ny106.out] at ho
          have HO108 := aM (ho); replace HO_0 := aM (Kd.V_afterv (ok := (fun k_ => ((P0_ k_ ∨ P1_ k_) ∨ w.heap.size ≤ k_))) (by (with_reducible repeat (first | apply Kd.V_alloc | apply Kd.V_drewN | apply Kd.V_drew)); exact HO_0.out) hg hat); replace HO_1 := aM (Kd.V_afterv (ok := (fun k_ => ((P0_ k_ ∨ P1_ k_) ∨ w.heap.size ≤ k_))) (by (with_reducible repeat (first | apply Kd.V_alloc | apply Kd.V_drewN | apply Kd.V_drew)); exact HO_1.out) hg hat); replace HO113 := aM (Kd.V_afterv (ok := (fun k_ => ((P0_ k_ ∨ P1_ k_) ∨ w.heap.size ≤ k_))) (by (with_reducible repeat (first | apply Kd.V_alloc | apply Kd.V_drewN | apply Kd.V_drew)); exact HO113.out) hg hat); replace HB := aM (hb)
          clear HO_9 ho hb hg hat
          refine hK.out _ _ ?_
          clear hK K
          refine nX (some 58) ?_
          refine pX (i := 8) (N := some 9) rfl rfl HT_ ?_
          refine pX (i := 9) (N := some 0) rfl rfl HT_ ?_
          refine done_ (done_of HT_.out (by kernel_rfl)) ?_
          try go_wp2
          go_roundg kj5
          case measure => have := HK1.out; have := HJ5.out; omega
          case rel => exact ⟨(y109), (x1_1), (y106), H', ⟨by have := HK1.out; have := HJ5.out; omega⟩, ⟨by (with_reducible repeat (first | apply Kd.V_alloc | apply Kd.V_drewN | apply Kd.V_drew)); exact HO113.out⟩, ⟨by (with_reducible repeat (first | apply Kd.V_alloc | apply Kd.V_drewN | apply Kd.V_drew)); exact HO_1.out⟩, ⟨by (with_reducible repeat (first | apply Kd.R_alloc | apply Kd.R_drewN | apply Kd.R_drew)); exact HO108.out⟩, ⟨sD HB⟩⟩
         ·rw [if_neg c23] at H
          exact absurd H (by simp)
        ·rw [if_neg c22] at H
         exact absurd H (by simp)
       ·rw [if_neg c21] at H
        exact absurd H (by simp)
      ·replace c20 := Bool.eq_false_iff.mpr c20
       subst c20
       have H1 : (if (x0_1.length : Int) = 0 then (if 0 < (x1_1.length : Int) then (if x9_1.length < 5864062014805 then (if 1 ≤ (x1_1.length : Int) then (api_Answered.l0 kj5 x0_1 (x1_1.drop 1) (x9_1 ++ [(⟨(rd_T71 x1_1 0).f0, (rd_T71 x1_1 0).f1, (rd_T71 x1_1 0).f2⟩ : S71)])) else (none)) else (none)) else (none)) else (if 0 < (x1_1.length : Int) then ((odds_Join_2.f ((rd_T71 x1_1 0).f0) ((rd_T71 x1_1 0).f1) ((rd_T71 x1_1 0).f2)).bind fun t124 => (if 0 < (x0_1.length : Int) then ((odds_Join_2.f ((rd_T71 x0_1 0).f0) ((rd_T71 x0_1 0).f1) ((rd_T71 x0_1 0).f2)).bind fun t126 => (if t124 < t126 then (if x9_1.length < 5864062014805 then (if 1 ≤ (x1_1.length : Int) then (api_Answered.l0 kj5 x0_1 (x1_1.drop 1) (x9_1 ++ [(⟨(rd_T71 x1_1 0).f0, (rd_T71 x1_1 0).f1, (rd_T71 x1_1 0).f2⟩ : S71)])) else (none)) else (none)) else ((odds_Join_1.f ((rd_T71 x0_1 0).f0) ((rd_T71 x0_1 0).f1) ((rd_T71 x0_1 0).f2) ((rd_T71 x1_1 0).f0) ((rd_T71 x1_1 0).f1) ((rd_T71 x1_1 0).f2)).bind fun bt138 => (if x9_1.length < 5864062014805 then (if 1 ≤ (x0_1.length : Int) then (if 1 ≤ (x1_1.length : Int) then (api_Answered.l0 kj5 (x0_1.drop 1) (x1_1.drop 1) (x9_1 ++ [(⟨bt138.1, bt138.2.1, bt138.2.2⟩ : S71)])) else (none)) else (none)) else (none))))) else (none))) else (none))) = some r := by rw [if_neg (show ¬ (false = true) by decide)] at H; exact H
       clear H; have H := H1; clear H1
       by_cases c27 : (x0_1.length : Int) = 0
       ·rw [if_pos c27] at H
        have c27b0 : ((x0_1.length : Int) == 0) = true := beq_iff_eq.mpr c27
        have c27b1 : ((x0_1.length : Int) != 0) = false := bne_eq_false_iff_eq.mpr c27
        clear c27
        by_cases c28 : 0 < (x1_1.length : Int)
        ·rw [if_pos c28] at H
         have c28b0 : decide (0 < (x1_1.length : Int)) = true := decide_eq_true c28
         have c28b1 : decide (0 < x1_1.length) = true := decide_eq_true (by omega)
         clear c28
         by_cases c29 : x9_1.length < 5864062014805
         ·rw [if_pos c29] at H
          have LMc29 := aM c29; clear c29
          obtain ⟨y115, hy115⟩ : ∃ y_ : List (S71), y_ = (x9_1 ++ [(⟨(rd_T71 x1_1 0).f0, (rd_T71 x1_1 0).f1, (rd_T71 x1_1 0).f2⟩ : S71)]) := ⟨_, rfl⟩
          replace H : (if 1 ≤ (x1_1.length : Int) then (api_Answered.l0 kj5 x0_1 (x1_1.drop 1) y115) else (none)) = some r := by first | (rw [hy115]; with_reducible exact H) | (have H2_ := (Option.bind_some _ _).symm.trans H; rw [hy115]; with_reducible exact H2_) | (have H2_ := (Option.bind_some _ _).symm.trans H; with_reducible exact H2_) | with_reducible exact H | (rw [hy115]; exact H) | exact H
          have Ny115 := aM hy115; clear hy115
          by_cases c30 : 1 ≤ (x1_1.length : Int)
          ·rw [if_pos c30] at H
           have c30b0 := eq_true c30
           have c30b1 : decide (1 ≤ (x1_1.length : Int)) = true := decide_eq_true c30
           clear c30
           obtain ⟨y118, hy118⟩ : ∃ y_ : List (S71), y_ = (x1_1.drop 1) := ⟨_, rfl⟩
           replace H : (api_Answered.l0 kj5 x0_1 y118 y115) = some r := by first | (rw [hy118]; with_reducible exact H) | (have H2_ := (Option.bind_some _ _).symm.trans H; rw [hy118]; with_reducible exact H2_) | (have H2_ := (Option.bind_some _ _).symm.trans H; with_reducible exact H2_) | with_reducible exact H | (rw [hy118]; exact H) | exact H
           have Ny118 := aM hy118; clear hy118; have H' := aM H; clear H
           try go_wp2
           replace HO_0 := aM (Kd.V_drew HO_0.out); replace HO_1 := aM (Kd.V_drew HO_1.out); replace HO_9 := aM (Kd.R_drew HO_9.out); replace HB := aM (below_drew1 HB.out)
           refine start_ (n := 17) (S := fun w' => True) (ds := []) #[false, false, false, false, false, false, false, false, false, false, false, false, false, false, false, false, false] (by kernel_rfl) rfl rfl trivial (fun hHeld => ?_); refine with_tabW api_Answered.tab6 api_Answered.bits6 (fun HT_ HW_ => ?_)
           generalize wc.drew = w31 at HO_0 HO_1 HO_9 HB hHeld ⊢
           refine pX (i := 0) (N := some 62) rfl rfl HT_ ?_
           refine pX (i := 1) (N := some 63) rfl rfl HT_ ?_
           refine pX (i := 2) (N := some 64) rfl rfl HT_ ?_
           refine pX (i := 3) (N := some 65) rfl rfl HT_ ?_
           refine pU (i := 4) (N := some 66) rfl rfl HT_ ?_
           refine pU (i := 5) (N := some 67) rfl rfl HT_ ?_
           refine pU (i := 6) (N := some 68) rfl rfl HT_ ?_
           refine pU (i := 7) (N := some 69) rfl rfl HT_ ?_
           refine pU (i := 8) (N := some 70) rfl rfl HT_ ?_
           refine pU (i := 9) (N := some 71) rfl rfl HT_ ?_
           refine pU (i := 10) (N := some 72) rfl rfl HT_ ?_
           refine pU (i := 11) (N := some 73) rfl rfl HT_ ?_
           refine pU (i := 12) (N := some 74) rfl rfl HT_ ?_
           refine pU (i := 13) (N := some 75) rfl rfl HT_ ?_
           refine pU (i := 14) (N := some 76) rfl rfl HT_ ?_
           refine pX (i := 15) (N := some 77) rfl rfl HT_ ?_
           refine pX (i := 16) (N := some 61) rfl rfl HT_ ?_
           refine done_ (done_of HT_.out (by kernel_rfl)) ?_
           try go_wp2
           replace HO_0 := aM (Kd.V_drew HO_0.out); replace HO_1 := aM (Kd.V_drew HO_1.out); replace HO_9 := aM (Kd.R_drew HO_9.out); replace HB := aM (below_drew1 HB.out)
           have p114 : 0 ≤ (0 : Int) := (by omega)
           have q114 : 0 < (x1_1.length : Int) := of_decide_eq_true (by first | (with_reducible assumption) | assumption)
           obtain ⟨ad114, e114, hx114_0, hx114_1, hx114_2⟩ := at_T71 (Kd.V_reads' HO_1.out).2.2 0 p114 q114
           cases e114
           have qi114 : (0 < x1_1.length) = True := eq_true (by omega)
           (try rw [show ((0 : Int)).toNat = 0 from rfl] at hx114_0)
           (try rw [show 0 * 3 = 0 from rfl] at hx114_0)
           (try rw [Addr.add_zero'] at hx114_0)
           (try rw [show ((0 : Int)).toNat = 0 from rfl] at hx114_1)
           (try rw [show 0 * 3 = 0 from rfl] at hx114_1)
           (try rw [Addr.add_zero'] at hx114_1)
           (try rw [show ((0 : Int)).toNat = 0 from rfl] at hx114_2)
           (try rw [show 0 * 3 = 0 from rfl] at hx114_2)
           (try rw [Addr.add_zero'] at hx114_2)
           replace p114 := eq_true p114; replace q114 := eq_true q114
           (try (have qd114 := q114; simp only [List.length_drop] at qd114))
           have q33 : (1 : Int) ≤ ((x1_1.length : Int) : Int) := of_decide_eq_true (by first | (with_reducible assumption) | assumption)
           obtain ⟨i033, hi033, _, hsz33, _⟩ := info_parts info71
           have hroom33 : x1_1.length ≤ co8 := (Kd.V_reads' HO_1.out).2.1
           have hC33 : Kd.F k71 _ _ (some ad114) x1_1.length x1_1 := (Kd.V_at (base := w.heap.size) HO_1.out).2.2
           have hcut33 := cut_from (P := Try.prog) 22 71 .i64 Try.underlying22 hi033 3 hsz33 (some ad114) x1_1.length co8 1 (by omega) q33; have hr33 := Kd.F_cut (m := (1 : Int).toNat) (c := co8) hC33 (by omega) hroom33
           obtain ⟨A33, hA33⟩ : ∃ A1, A1 = (if co8 = (1 : Int).toNat then (some ad114) else ((some ad114) : Option Addr).map (·.add ((1 : Int).toNat * 3))) := ⟨_, rfl⟩
           obtain ⟨c33, hc33⟩ : ∃ c1, c1 = co8 - (1 : Int).toNat := ⟨_, rfl⟩
           have hy33 : y118.length = x1_1.length - (1 : Int).toNat := (by rw [Ny118.out, List.length_drop] <;> omega)
           rw [show (x1_1).drop (1 : Int).toNat = y118 from Ny118.out.symm] at hr33
           replace hr33 : Kd.F k71 _ _ A33 y118.length y118 := (by rw [hA33]; exact hr33)
           rw [← hy33, ← hA33, ← hc33] at hcut33
           have HO122 := aM (show Kd.V k71 71 _ w.heap.size _ (.slice A33 y118.length c33) y118 from Kd.V_mk (by rw [hy33, hc33]; exact Nat.sub_le_sub_right hroom33 _) hr33)
           have HC122 := aM (show y118.length ≤ c33 from by rw [hy33, hc33]; exact Nat.sub_le_sub_right hroom33 _)
           clear hr33 hC33 hroom33 hi033 hsz33 hc33; have KY33 := aM hy33; have KA33 := aM hA33; clear hy33 hA33; replace q33 := eq_true q33
           (try (have qd33 := q33; simp only [List.length_drop] at qd33))
           refine start_ (n := 10) (S := fun w' => w'.cell? ad114 = some (.int .i64 ((rd_T71 x1_1 0).f0)) ∧ w'.cell? ⟨ad114.block, ad114.off + 1, none⟩ = some (.int .i64 ((rd_T71 x1_1 0).f1)) ∧ w'.cell? ⟨ad114.block, ad114.off + 2, none⟩ = some (.int .i64 ((rd_T71 x1_1 0).f2))) (ds := [4, 5]) #[false, false, false, false, false, false, false, false, false, false] (by kernel_rfl) rfl rfl ⟨hx114_0, hx114_1, hx114_2⟩ (fun hHeld => ?_); refine with_tabW api_Answered.tab7 api_Answered.bits7 (fun HT_ HW_ => ?_)
           generalize w31.drew = w32 at HO_0 HO_1 HO_9 HB HO122 hx114_0 hx114_1 hx114_2 hHeld ⊢
           refine pX (i := 0) (N := some 78) rfl rfl HT_ ?_
           refine pX (i := 1) (N := some 79) rfl rfl HT_ ?_
           refine pX (i := 2) (N := some 80) rfl rfl HT_ ?_
           refine pX (i := 6) (N := some 84) rfl rfl HT_ ?_
           refine pX (i := 7) (N := some 85) rfl rfl HT_ ?_
           refine tX (i := 3) (N := some 81) rfl rfl HT_ HW_ hHeld (Or.inl ⟨by rfl, by rintro w' ⟨s0, s1, s2⟩; go_simp; with_reducible rfl⟩) ?_
           refine last_ (i := 4) (N := some 82) #[true, true, true, true, true, false, true, true, false, false] rfl rfl (one_of HT_.out (by kernel_rfl)) (by decide) (fun K hK => ?_)
           refine value_ (w1 := ?_) (v := ?_) (by rfl) rfl ?_ ?_
           rotate_left 2
           ·go_simp
            constructor
            ·rfl
            ·rfl
           refine hK.out _ _ ?_
           clear hK K
           refine nX (some 82) ?_
           refine last_ (i := 5) (N := some 83) #[true, true, true, true, true, true, true, true, false, false] rfl rfl (one_of HT_.out (by kernel_rfl)) (by decide) (fun K hK => ?_)
           refine Kd.R_append_step k71 (w0 := w) w.heap.size (by rfl) (.tmp 78) (.tmp 82) 22 71 (.agg #[(.int .i64 0), (.int .i64 0), (.int .i64 0)]) 24 rfl Try.underlying22 info71 rfl (by decide) (by omega) u9 x9_1 (⟨(rd_T71 x1_1 0).f0, (rd_T71 x1_1 0).f1, (rd_T71 x1_1 0).f2⟩ : S71) [.int .i64 ((rd_T71 x1_1 0).f0), .int .i64 ((rd_T71 x1_1 0).f1), .int .i64 ((rd_T71 x1_1 0).f2)] (fun k_ => (w.heap.size ≤ k_)) (fun _ => False) rfl rfl ?aP (fun _ hk => hk.elim) ?aF ?aO ?aB ?aS ?aL ?_
           (case aP => exact k71_mkM _ _ _ (⟨(rd_T71 x1_1 0).f0, (rd_T71 x1_1 0).f1, (rd_T71 x1_1 0).f2⟩ : S71))
           (case aB => exact (sD HB))
           (case aF => exact (fun k_ hk => (Nat.le_trans (below_size (sD HB)) hk)))
           (case aO => exact (rD HO_9))
           (case aS => exact (below_size (sD HB)))
           (case aL => have := LMc29.out; omega)
           intro v116 w34 ho hb hg hat
           rw [← Ny115.out] at ho
           have HO117 := aM (ho); replace HO_0 := aM (Kd.V_afterv (ok := (fun k_ => ((P0_ k_ ∨ P1_ k_) ∨ w.heap.size ≤ k_))) (by (with_reducible repeat (first | apply Kd.V_alloc | apply Kd.V_drewN | apply Kd.V_drew)); exact HO_0.out) hg hat); replace HO_1 := aM (Kd.V_afterv (ok := (fun k_ => ((P0_ k_ ∨ P1_ k_) ∨ w.heap.size ≤ k_))) (by (with_reducible repeat (first | apply Kd.V_alloc | apply Kd.V_drewN | apply Kd.V_drew)); exact HO_1.out) hg hat); replace HO122 := aM (Kd.V_afterv (ok := (fun k_ => ((P0_ k_ ∨ P1_ k_) ∨ w.heap.size ≤ k_))) (by (with_reducible repeat (first | apply Kd.V_alloc | apply Kd.V_drewN | apply Kd.V_drew)); exact HO122.out) hg hat)
           replace HB := aM (hb); clear HO_9 ho hb hg hat
           refine hK.out _ _ ?_
           clear hK K
           refine nX (some 83) ?_
           refine pX (i := 8) (N := some 9) rfl rfl HT_ ?_
           refine pX (i := 9) (N := some 1) rfl rfl HT_ ?_
           refine done_ (done_of HT_.out (by kernel_rfl)) ?_
           try go_wp2
           go_roundg kj5
           case measure => have := HK1.out; have := HJ5.out; omega
           case rel => exact ⟨(x0_1), (y118), (y115), H', ⟨by have := HK1.out; have := HJ5.out; omega⟩, ⟨by (with_reducible repeat (first | apply Kd.V_alloc | apply Kd.V_drewN | apply Kd.V_drew)); exact HO_0.out⟩, ⟨by (with_reducible repeat (first | apply Kd.V_alloc | apply Kd.V_drewN | apply Kd.V_drew)); exact HO122.out⟩, ⟨by (with_reducible repeat (first | apply Kd.R_alloc | apply Kd.R_drewN | apply Kd.R_drew)); exact HO117.out⟩, ⟨sD HB⟩⟩
          ·rw [if_neg c30] at H
           exact absurd H (by simp)
         ·rw [if_neg c29] at H
          exact absurd H (by simp)
        ·rw [if_neg c28] at H
         exact absurd H (by simp)
       ·rw [if_neg c27] at H
        have c27b0 : ((x0_1.length : Int) == 0) = false := beq_eq_false_iff_ne.mpr c27
        have c27b1 : ((x0_1.length : Int) != 0) = true := bne_iff_ne.mpr c27
        have c27b2 : ¬ (x0_1 = []) := fun h_ => c27 (by rw [h_]; rfl)
        by_cases c35 : 0 < (x1_1.length : Int)
        ·rw [if_pos c35] at H
         have c35b0 : decide (0 < (x1_1.length : Int)) = true := decide_eq_true c35
         have c35b1 : decide (0 < x1_1.length) = true := decide_eq_true (by omega)
         clear c35; replace H := Option.bind_eq_some_iff.mp H
         obtain ⟨t124, A360, H⟩ := H
         replace H : (if 0 < (x0_1.length : Int) then ((odds_Join_2.f ((rd_T71 x0_1 0).f0) ((rd_T71 x0_1 0).f1) ((rd_T71 x0_1 0).f2)).bind fun t126 => (if t124 < t126 then (if x9_1.length < 5864062014805 then (if 1 ≤ (x1_1.length : Int) then (api_Answered.l0 kj5 x0_1 (x1_1.drop 1) (x9_1 ++ [(⟨(rd_T71 x1_1 0).f0, (rd_T71 x1_1 0).f1, (rd_T71 x1_1 0).f2⟩ : S71)])) else (none)) else (none)) else ((odds_Join_1.f ((rd_T71 x0_1 0).f0) ((rd_T71 x0_1 0).f1) ((rd_T71 x0_1 0).f2) ((rd_T71 x1_1 0).f0) ((rd_T71 x1_1 0).f1) ((rd_T71 x1_1 0).f2)).bind fun bt138 => (if x9_1.length < 5864062014805 then (if 1 ≤ (x0_1.length : Int) then (if 1 ≤ (x1_1.length : Int) then (api_Answered.l0 kj5 (x0_1.drop 1) (x1_1.drop 1) (x9_1 ++ [(⟨bt138.1, bt138.2.1, bt138.2.2⟩ : S71)])) else (none)) else (none)) else (none))))) else (none)) = some r := H
         have A36 := aM A360; clear A360
         by_cases c37 : 0 < (x0_1.length : Int)
         ·rw [if_pos c37] at H
          have c37b0 : decide (0 < (x0_1.length : Int)) = true := decide_eq_true c37
          have c37b1 : decide (0 < x0_1.length) = true := decide_eq_true (by omega)
          clear c37; replace H := Option.bind_eq_some_iff.mp H
          obtain ⟨t126, A380, H⟩ := H
          replace H : (if t124 < t126 then (if x9_1.length < 5864062014805 then (if 1 ≤ (x1_1.length : Int) then (api_Answered.l0 kj5 x0_1 (x1_1.drop 1) (x9_1 ++ [(⟨(rd_T71 x1_1 0).f0, (rd_T71 x1_1 0).f1, (rd_T71 x1_1 0).f2⟩ : S71)])) else (none)) else (none)) else ((odds_Join_1.f ((rd_T71 x0_1 0).f0) ((rd_T71 x0_1 0).f1) ((rd_T71 x0_1 0).f2) ((rd_T71 x1_1 0).f0) ((rd_T71 x1_1 0).f1) ((rd_T71 x1_1 0).f2)).bind fun bt138 => (if x9_1.length < 5864062014805 then (if 1 ≤ (x0_1.length : Int) then (if 1 ≤ (x1_1.length : Int) then (api_Answered.l0 kj5 (x0_1.drop 1) (x1_1.drop 1) (x9_1 ++ [(⟨bt138.1, bt138.2.1, bt138.2.2⟩ : S71)])) else (none)) else (none)) else (none)))) = some r := H
          have A38 := aM A380; clear A380
          by_cases c39 : t124 < t126
          ·rw [if_pos c39] at H
           have c39b0 : decide (t124 < t126) = true := decide_eq_true c39
           clear c39
           by_cases c40 : x9_1.length < 5864062014805
           ·rw [if_pos c40] at H
            have LMc40 := aM c40; clear c40
            obtain ⟨y128, hy128⟩ : ∃ y_ : List (S71), y_ = (x9_1 ++ [(⟨(rd_T71 x1_1 0).f0, (rd_T71 x1_1 0).f1, (rd_T71 x1_1 0).f2⟩ : S71)]) := ⟨_, rfl⟩
            replace H : (if 1 ≤ (x1_1.length : Int) then (api_Answered.l0 kj5 x0_1 (x1_1.drop 1) y128) else (none)) = some r := by first | (rw [hy128]; with_reducible exact H) | (have H2_ := (Option.bind_some _ _).symm.trans H; rw [hy128]; with_reducible exact H2_) | (have H2_ := (Option.bind_some _ _).symm.trans H; with_reducible exact H2_) | with_reducible exact H | (rw [hy128]; exact H) | exact H
            have Ny128 := aM hy128; clear hy128
            by_cases c41 : 1 ≤ (x1_1.length : Int)
            ·rw [if_pos c41] at H
             have c41b0 := eq_true c41
             have c41b1 : decide (1 ≤ (x1_1.length : Int)) = true := decide_eq_true c41
             clear c41
             obtain ⟨y131, hy131⟩ : ∃ y_ : List (S71), y_ = (x1_1.drop 1) := ⟨_, rfl⟩
             replace H : (api_Answered.l0 kj5 x0_1 y131 y128) = some r := by first | (rw [hy131]; with_reducible exact H) | (have H2_ := (Option.bind_some _ _).symm.trans H; rw [hy131]; with_reducible exact H2_) | (have H2_ := (Option.bind_some _ _).symm.trans H; with_reducible exact H2_) | with_reducible exact H | (rw [hy131]; exact H) | exact H
             have Ny131 := aM hy131; clear hy131; have H' := aM H; clear H
             try go_wp2
             replace HO_0 := aM (Kd.V_drew HO_0.out); replace HO_1 := aM (Kd.V_drew HO_1.out); replace HO_9 := aM (Kd.R_drew HO_9.out); replace HB := aM (below_drew1 HB.out)
             have p123 : 0 ≤ (0 : Int) := (by omega)
             have q123 : 0 < (x1_1.length : Int) := of_decide_eq_true (by first | (with_reducible assumption) | assumption)
             obtain ⟨ad123, e123, hx123_0, hx123_1, hx123_2⟩ := at_T71 (Kd.V_reads' HO_1.out).2.2 0 p123 q123
             cases e123
             have qi123 : (0 < x1_1.length) = True := eq_true (by omega)
             (try rw [show ((0 : Int)).toNat = 0 from rfl] at hx123_0)
             (try rw [show 0 * 3 = 0 from rfl] at hx123_0)
             (try rw [Addr.add_zero'] at hx123_0)
             (try rw [show ((0 : Int)).toNat = 0 from rfl] at hx123_1)
             (try rw [show 0 * 3 = 0 from rfl] at hx123_1)
             (try rw [Addr.add_zero'] at hx123_1)
             (try rw [show ((0 : Int)).toNat = 0 from rfl] at hx123_2)
             (try rw [show 0 * 3 = 0 from rfl] at hx123_2)
             (try rw [Addr.add_zero'] at hx123_2)
             replace p123 := eq_true p123; replace q123 := eq_true q123
             (try (have qd123 := q123; simp only [List.length_drop] at qd123))
             have p125 : 0 ≤ (0 : Int) := (by omega)
             have q125 : 0 < (x0_1.length : Int) := of_decide_eq_true (by first | (with_reducible assumption) | assumption)
             obtain ⟨ad125, e125, hx125_0, hx125_1, hx125_2⟩ := at_T71 (Kd.V_reads' HO_0.out).2.2 0 p125 q125
             cases e125
             have qi125 : (0 < x0_1.length) = True := eq_true (by omega)
             (try rw [show ((0 : Int)).toNat = 0 from rfl] at hx125_0)
             (try rw [show 0 * 3 = 0 from rfl] at hx125_0)
             (try rw [Addr.add_zero'] at hx125_0)
             (try rw [show ((0 : Int)).toNat = 0 from rfl] at hx125_1)
             (try rw [show 0 * 3 = 0 from rfl] at hx125_1)
             (try rw [Addr.add_zero'] at hx125_1)
             (try rw [show ((0 : Int)).toNat = 0 from rfl] at hx125_2)
             (try rw [show 0 * 3 = 0 from rfl] at hx125_2)
             (try rw [Addr.add_zero'] at hx125_2)
             replace p125 := eq_true p125; replace q125 := eq_true q125
             (try (have qd125 := q125; simp only [List.length_drop] at qd125))
             refine start_ (n := 17) (S := fun w' => w'.cell? ad123 = some (.int .i64 ((rd_T71 x1_1 0).f0)) ∧ w'.cell? ⟨ad123.block, ad123.off + 1, none⟩ = some (.int .i64 ((rd_T71 x1_1 0).f1)) ∧ w'.cell? ⟨ad123.block, ad123.off + 2, none⟩ = some (.int .i64 ((rd_T71 x1_1 0).f2)) ∧ w'.cell? ad125 = some (.int .i64 ((rd_T71 x0_1 0).f0)) ∧ w'.cell? ⟨ad125.block, ad125.off + 1, none⟩ = some (.int .i64 ((rd_T71 x0_1 0).f1)) ∧ w'.cell? ⟨ad125.block, ad125.off + 2, none⟩ = some (.int .i64 ((rd_T71 x0_1 0).f2))) (ds := []) #[false, false, false, false, false, false, false, false, false, false, false, false, false, false, false, false, false] (by kernel_rfl) rfl rfl ⟨hx123_0, hx123_1, hx123_2, hx125_0, hx125_1, hx125_2⟩ (fun hHeld => ?_); refine with_tabW api_Answered.tab6 api_Answered.bits6 (fun HT_ HW_ => ?_)
             generalize wc.drew = w42 at HO_0 HO_1 HO_9 HB hx123_0 hx123_1 hx123_2 hx125_0 hx125_1 hx125_2 hHeld ⊢
             refine pX (i := 0) (N := some 62) rfl rfl HT_ ?_
             refine pX (i := 1) (N := some 63) rfl rfl HT_ ?_
             refine pX (i := 2) (N := some 64) rfl rfl HT_ ?_
             refine pX (i := 3) (N := some 65) rfl rfl HT_ ?_
             refine pX (i := 4) (N := some 66) rfl rfl HT_ ?_
             refine pX (i := 5) (N := some 67) rfl rfl HT_ ?_
             refine pX (i := 6) (N := some 68) rfl rfl HT_ ?_
             refine pX (i := 9) (N := some 71) rfl rfl HT_ ?_
             refine pX (i := 10) (N := some 72) rfl rfl HT_ ?_
             refine pX (i := 11) (N := some 73) rfl rfl HT_ ?_
             refine tX (i := 7) (N := some 69) rfl rfl HT_ HW_ hHeld (Or.inl ⟨by rfl, by rintro w' ⟨s0, s1, s2, s3, s4, s5⟩; go_simp; with_reducible rfl⟩) ?_
             refine tX (i := 12) (N := some 74) rfl rfl HT_ HW_ hHeld (Or.inl ⟨by rfl, by rintro w' ⟨s0, s1, s2, s3, s4, s5⟩; go_simp; with_reducible rfl⟩) ?_
             refine oX (i := 8) (N := some 70) rfl rfl HT_ (fun K hK => ?_)
             refine Go.Proofs.YtohnkcmbogcfhaaH.goes_v Try.func82 (by kernel_rfl) rfl #[.agg #[.int .i64 ((rd_T71 x1_1 0).f0), .int .i64 ((rd_T71 x1_1 0).f1), .int .i64 ((rd_T71 x1_1 0).f2)]] (.tmp 66) (by rfl) rfl rfl (by rfl) (by (try simp only [List.map_toArray, List.map_cons, List.map_nil]); first | done | rfl | (simp only [List.length_drop, List.length_take]; rfl)) ?_
             with_reducible refine (odds_Join_2.calls ((rd_T71 x1_1 0).f0) ((rd_T71 x1_1 0).f1) ((rd_T71 x1_1 0).f2) t124 _ A36.out).mono ?_
             rintro e w43 ⟨rfl, hb⟩
             have HS0_ := (hb.cell (World.block_lt_of_cell? _ _ (hHeld.1))).trans (hHeld.1); have HS1_ := (hb.cell (World.block_lt_of_cell? _ _ (hHeld.2.1))).trans (hHeld.2.1); have HS2_ := (hb.cell (World.block_lt_of_cell? _ _ (hHeld.2.2.1))).trans (hHeld.2.2.1); have HS3_ := (hb.cell (World.block_lt_of_cell? _ _ (hHeld.2.2.2.1))).trans (hHeld.2.2.2.1); have HS4_ := (hb.cell (World.block_lt_of_cell? _ _ (hHeld.2.2.2.2.1))).trans (hHeld.2.2.2.2.1); have HS5_ := (hb.cell (World.block_lt_of_cell? _ _ (hHeld.2.2.2.2.2))).trans (hHeld.2.2.2.2.2)
             refine ⟨_, rfl, ?_⟩
             replace HO_0 := aM (Kd.V_below (by (with_reducible repeat (first | apply Kd.V_alloc | apply Kd.V_drewN | apply Kd.V_drew)); exact HO_0.out) hb); replace HO_1 := aM (Kd.V_below (by (with_reducible repeat (first | apply Kd.V_alloc | apply Kd.V_drewN | apply Kd.V_drew)); exact HO_1.out) hb); replace HO_9 := rB HO_9 hb; replace HB := sB HB hb; (try clear hb); (try clear hb2); (try clear hk); (try clear hi)
             refine hK.out _ _ ⟨HS0_, HS1_, HS2_, HS3_, HS4_, HS5_⟩ (fun hHeld => ?_)
             clear hK K
             refine nX (some 70) ?_
             refine oX (i := 13) (N := some 75) rfl rfl HT_ (fun K hK => ?_)
             refine Go.Proofs.YtohnkcmbogcfhaaH.goes_v Try.func82 (by kernel_rfl) rfl #[.agg #[.int .i64 ((rd_T71 x0_1 0).f0), .int .i64 ((rd_T71 x0_1 0).f1), .int .i64 ((rd_T71 x0_1 0).f2)]] (.tmp 71) (by rfl) rfl rfl (by rfl) (by (try simp only [List.map_toArray, List.map_cons, List.map_nil]); first | done | rfl | (simp only [List.length_drop, List.length_take]; rfl)) ?_
             with_reducible refine (odds_Join_2.calls ((rd_T71 x0_1 0).f0) ((rd_T71 x0_1 0).f1) ((rd_T71 x0_1 0).f2) t126 _ A38.out).mono ?_
             rintro e w44 ⟨rfl, hb⟩
             have HS0_ := (hb.cell (World.block_lt_of_cell? _ _ (hHeld.1))).trans (hHeld.1); have HS1_ := (hb.cell (World.block_lt_of_cell? _ _ (hHeld.2.1))).trans (hHeld.2.1); have HS2_ := (hb.cell (World.block_lt_of_cell? _ _ (hHeld.2.2.1))).trans (hHeld.2.2.1); have HS3_ := (hb.cell (World.block_lt_of_cell? _ _ (hHeld.2.2.2.1))).trans (hHeld.2.2.2.1); have HS4_ := (hb.cell (World.block_lt_of_cell? _ _ (hHeld.2.2.2.2.1))).trans (hHeld.2.2.2.2.1); have HS5_ := (hb.cell (World.block_lt_of_cell? _ _ (hHeld.2.2.2.2.2))).trans (hHeld.2.2.2.2.2)
             refine ⟨_, rfl, ?_⟩
             replace HO_0 := aM (Kd.V_below (by (with_reducible repeat (first | apply Kd.V_alloc | apply Kd.V_drewN | apply Kd.V_drew)); exact HO_0.out) hb); replace HO_1 := aM (Kd.V_below (by (with_reducible repeat (first | apply Kd.V_alloc | apply Kd.V_drewN | apply Kd.V_drew)); exact HO_1.out) hb); replace HO_9 := rB HO_9 hb; replace HB := sB HB hb; (try clear hb); (try clear hb2); (try clear hk); (try clear hi)
             refine hK.out _ _ ⟨HS0_, HS1_, HS2_, HS3_, HS4_, HS5_⟩ (fun hHeld => ?_)
             clear hK K
             refine nX (some 75) ?_
             refine pX (i := 14) (N := some 76) rfl rfl HT_ ?_
             refine pX (i := 15) (N := some 77) rfl rfl HT_ ?_
             refine pX (i := 16) (N := some 61) rfl rfl HT_ ?_
             refine done_ (done_of HT_.out (by kernel_rfl)) ?_
             try go_wp2
             replace HO_0 := aM (Kd.V_drew HO_0.out); replace HO_1 := aM (Kd.V_drew HO_1.out); replace HO_9 := aM (Kd.R_drew HO_9.out); replace HB := aM (below_drew1 HB.out)
             have p127 : 0 ≤ (0 : Int) := (by omega)
             have q127 : 0 < (x1_1.length : Int) := of_decide_eq_true (by first | (with_reducible assumption) | assumption)
             obtain ⟨ad127, e127, hx127_0, hx127_1, hx127_2⟩ := at_T71 (Kd.V_reads' HO_1.out).2.2 0 p127 q127
             obtain rfl : ad123 = ad127 := (by injection e127)
             have qi127 : (0 < x1_1.length) = True := eq_true (by omega)
             (try rw [show ((0 : Int)).toNat = 0 from rfl] at hx127_0)
             (try rw [show 0 * 3 = 0 from rfl] at hx127_0)
             (try rw [Addr.add_zero'] at hx127_0)
             (try rw [show ((0 : Int)).toNat = 0 from rfl] at hx127_1)
             (try rw [show 0 * 3 = 0 from rfl] at hx127_1)
             (try rw [Addr.add_zero'] at hx127_1)
             (try rw [show ((0 : Int)).toNat = 0 from rfl] at hx127_2)
             (try rw [show 0 * 3 = 0 from rfl] at hx127_2)
             (try rw [Addr.add_zero'] at hx127_2)
             replace p127 := eq_true p127; replace q127 := eq_true q127
             (try (have qd127 := q127; simp only [List.length_drop] at qd127))
             have q46 : (1 : Int) ≤ ((x1_1.length : Int) : Int) := of_decide_eq_true (by first | (with_reducible assumption) | assumption)
             obtain ⟨i046, hi046, _, hsz46, _⟩ := info_parts info71
             have hroom46 : x1_1.length ≤ co8 := (Kd.V_reads' HO_1.out).2.1
             have hC46 : Kd.F k71 _ _ (some ad123) x1_1.length x1_1 := (Kd.V_at (base := w.heap.size) HO_1.out).2.2
             have hcut46 := cut_from (P := Try.prog) 22 71 .i64 Try.underlying22 hi046 3 hsz46 (some ad123) x1_1.length co8 1 (by omega) q46; have hr46 := Kd.F_cut (m := (1 : Int).toNat) (c := co8) hC46 (by omega) hroom46
             obtain ⟨A46, hA46⟩ : ∃ A1, A1 = (if co8 = (1 : Int).toNat then (some ad123) else ((some ad123) : Option Addr).map (·.add ((1 : Int).toNat * 3))) := ⟨_, rfl⟩
             obtain ⟨c46, hc46⟩ : ∃ c1, c1 = co8 - (1 : Int).toNat := ⟨_, rfl⟩
             have hy46 : y131.length = x1_1.length - (1 : Int).toNat := (by rw [Ny131.out, List.length_drop] <;> omega)
             rw [show (x1_1).drop (1 : Int).toNat = y131 from Ny131.out.symm] at hr46
             replace hr46 : Kd.F k71 _ _ A46 y131.length y131 := (by rw [hA46]; exact hr46)
             rw [← hy46, ← hA46, ← hc46] at hcut46
             have HO135 := aM (show Kd.V k71 71 _ w.heap.size _ (.slice A46 y131.length c46) y131 from Kd.V_mk (by rw [hy46, hc46]; exact Nat.sub_le_sub_right hroom46 _) hr46)
             have HC135 := aM (show y131.length ≤ c46 from by rw [hy46, hc46]; exact Nat.sub_le_sub_right hroom46 _)
             clear hr46 hC46 hroom46 hi046 hsz46 hc46; have KY46 := aM hy46; have KA46 := aM hA46; clear hy46 hA46; replace q46 := eq_true q46
             (try (have qd46 := q46; simp only [List.length_drop] at qd46))
             refine start_ (n := 10) (S := fun w' => w'.cell? ad123 = some (.int .i64 ((rd_T71 x1_1 0).f0)) ∧ w'.cell? ⟨ad123.block, ad123.off + 1, none⟩ = some (.int .i64 ((rd_T71 x1_1 0).f1)) ∧ w'.cell? ⟨ad123.block, ad123.off + 2, none⟩ = some (.int .i64 ((rd_T71 x1_1 0).f2))) (ds := [4, 5]) #[false, false, false, false, false, false, false, false, false, false] (by kernel_rfl) rfl rfl ⟨hx127_0, hx127_1, hx127_2⟩ (fun hHeld => ?_); refine with_tabW api_Answered.tab7 api_Answered.bits7 (fun HT_ HW_ => ?_)
             generalize w44.drew = w45 at HO_0 HO_1 HO_9 HB HO135 hx127_0 hx127_1 hx127_2 hHeld ⊢
             refine pX (i := 0) (N := some 78) rfl rfl HT_ ?_
             refine pX (i := 1) (N := some 79) rfl rfl HT_ ?_
             refine pX (i := 2) (N := some 80) rfl rfl HT_ ?_
             refine pX (i := 6) (N := some 84) rfl rfl HT_ ?_
             refine pX (i := 7) (N := some 85) rfl rfl HT_ ?_
             refine tX (i := 3) (N := some 81) rfl rfl HT_ HW_ hHeld (Or.inl ⟨by rfl, by rintro w' ⟨s0, s1, s2⟩; go_simp; with_reducible rfl⟩) ?_
             refine last_ (i := 4) (N := some 82) #[true, true, true, true, true, false, true, true, false, false] rfl rfl (one_of HT_.out (by kernel_rfl)) (by decide) (fun K hK => ?_)
             refine value_ (w1 := ?_) (v := ?_) (by rfl) rfl ?_ ?_
             rotate_left 2
             ·go_simp
              constructor
              ·rfl
              ·rfl
             refine hK.out _ _ ?_
             clear hK K
             refine nX (some 82) ?_
             refine last_ (i := 5) (N := some 83) #[true, true, true, true, true, true, true, true, false, false] rfl rfl (one_of HT_.out (by kernel_rfl)) (by decide) (fun K hK => ?_)
             refine Kd.R_append_step k71 (w0 := w) w.heap.size (by rfl) (.tmp 78) (.tmp 82) 22 71 (.agg #[(.int .i64 0), (.int .i64 0), (.int .i64 0)]) 24 rfl Try.underlying22 info71 rfl (by decide) (by omega) u9 x9_1 (⟨(rd_T71 x1_1 0).f0, (rd_T71 x1_1 0).f1, (rd_T71 x1_1 0).f2⟩ : S71) [.int .i64 ((rd_T71 x1_1 0).f0), .int .i64 ((rd_T71 x1_1 0).f1), .int .i64 ((rd_T71 x1_1 0).f2)] (fun k_ => (w.heap.size ≤ k_)) (fun _ => False) rfl rfl ?aP (fun _ hk => hk.elim) ?aF ?aO ?aB ?aS ?aL ?_
             (case aP => exact k71_mkM _ _ _ (⟨(rd_T71 x1_1 0).f0, (rd_T71 x1_1 0).f1, (rd_T71 x1_1 0).f2⟩ : S71))
             (case aB => exact (sD HB))
             (case aF => exact (fun k_ hk => (Nat.le_trans (below_size (sD HB)) hk)))
             (case aO => exact (rD HO_9))
             (case aS => exact (below_size (sD HB)))
             (case aL => have := LMc40.out; omega)
             intro v129 w47 ho hb hg hat
             rw [← Ny128.out] at ho
             have HO130 := aM (ho); replace HO_0 := aM (Kd.V_afterv (ok := (fun k_ => ((P0_ k_ ∨ P1_ k_) ∨ w.heap.size ≤ k_))) (by (with_reducible repeat (first | apply Kd.V_alloc | apply Kd.V_drewN | apply Kd.V_drew)); exact HO_0.out) hg hat); replace HO_1 := aM (Kd.V_afterv (ok := (fun k_ => ((P0_ k_ ∨ P1_ k_) ∨ w.heap.size ≤ k_))) (by (with_reducible repeat (first | apply Kd.V_alloc | apply Kd.V_drewN | apply Kd.V_drew)); exact HO_1.out) hg hat); replace HO135 := aM (Kd.V_afterv (ok := (fun k_ => ((P0_ k_ ∨ P1_ k_) ∨ w.heap.size ≤ k_))) (by (with_reducible repeat (first | apply Kd.V_alloc | apply Kd.V_drewN | apply Kd.V_drew)); exact HO135.out) hg hat)
             replace HB := aM (hb); clear HO_9 ho hb hg hat
             refine hK.out _ _ ?_
             clear hK K
             refine nX (some 83) ?_
             refine pX (i := 8) (N := some 9) rfl rfl HT_ ?_
             refine pX (i := 9) (N := some 1) rfl rfl HT_ ?_
             refine done_ (done_of HT_.out (by kernel_rfl)) ?_
             try go_wp2
             go_roundg kj5
             case measure => have := HK1.out; have := HJ5.out; omega
             case rel => exact ⟨(x0_1), (y131), (y128), H', ⟨by have := HK1.out; have := HJ5.out; omega⟩, ⟨by (with_reducible repeat (first | apply Kd.V_alloc | apply Kd.V_drewN | apply Kd.V_drew)); exact HO_0.out⟩, ⟨by (with_reducible repeat (first | apply Kd.V_alloc | apply Kd.V_drewN | apply Kd.V_drew)); exact HO135.out⟩, ⟨by (with_reducible repeat (first | apply Kd.R_alloc | apply Kd.R_drewN | apply Kd.R_drew)); exact HO130.out⟩, ⟨sD HB⟩⟩
            ·rw [if_neg c41] at H
             exact absurd H (by simp)
           ·rw [if_neg c40] at H
            exact absurd H (by simp)
          ·rw [if_neg c39] at H
           have c39b0 : decide (t124 < t126) = false := decide_eq_false c39
           clear c39; replace H := Option.bind_eq_some_iff.mp H
           obtain ⟨⟨t138, t139, t140⟩, A480, H⟩ := H
           replace H : (if x9_1.length < 5864062014805 then (if 1 ≤ (x0_1.length : Int) then (if 1 ≤ (x1_1.length : Int) then (api_Answered.l0 kj5 (x0_1.drop 1) (x1_1.drop 1) (x9_1 ++ [(⟨t138, t139, t140⟩ : S71)])) else (none)) else (none)) else (none)) = some r := H
           have A48 := aM A480; clear A480
           by_cases c49 : x9_1.length < 5864062014805
           ·rw [if_pos c49] at H
            have LMc49 := aM c49; clear c49
            obtain ⟨y141, hy141⟩ : ∃ y_ : List (S71), y_ = (x9_1 ++ [(⟨t138, t139, t140⟩ : S71)]) := ⟨_, rfl⟩
            replace H : (if 1 ≤ (x0_1.length : Int) then (if 1 ≤ (x1_1.length : Int) then (api_Answered.l0 kj5 (x0_1.drop 1) (x1_1.drop 1) y141) else (none)) else (none)) = some r := by first | (rw [hy141]; with_reducible exact H) | (have H2_ := (Option.bind_some _ _).symm.trans H; rw [hy141]; with_reducible exact H2_) | (have H2_ := (Option.bind_some _ _).symm.trans H; with_reducible exact H2_) | with_reducible exact H | (rw [hy141]; exact H) | exact H
            have Ny141 := aM hy141; clear hy141
            by_cases c50 : 1 ≤ (x0_1.length : Int)
            ·rw [if_pos c50] at H
             have c50b0 := eq_true c50
             have c50b1 : decide (1 ≤ (x0_1.length : Int)) = true := decide_eq_true c50
             clear c50
             obtain ⟨y144, hy144⟩ : ∃ y_ : List (S71), y_ = (x0_1.drop 1) := ⟨_, rfl⟩
             replace H : (if 1 ≤ (x1_1.length : Int) then (api_Answered.l0 kj5 y144 (x1_1.drop 1) y141) else (none)) = some r := by first | (rw [hy144]; with_reducible exact H) | (have H2_ := (Option.bind_some _ _).symm.trans H; rw [hy144]; with_reducible exact H2_) | (have H2_ := (Option.bind_some _ _).symm.trans H; with_reducible exact H2_) | with_reducible exact H | (rw [hy144]; exact H) | exact H
             have Ny144 := aM hy144; clear hy144
             by_cases c51 : 1 ≤ (x1_1.length : Int)
             ·rw [if_pos c51] at H
              have c51b0 := eq_true c51
              have c51b1 : decide (1 ≤ (x1_1.length : Int)) = true := decide_eq_true c51
              clear c51
              obtain ⟨y149, hy149⟩ : ∃ y_ : List (S71), y_ = (x1_1.drop 1) := ⟨_, rfl⟩
              replace H : (api_Answered.l0 kj5 y144 y149 y141) = some r := by first | (rw [hy149]; with_reducible exact H) | (have H2_ := (Option.bind_some _ _).symm.trans H; rw [hy149]; with_reducible exact H2_) | (have H2_ := (Option.bind_some _ _).symm.trans H; with_reducible exact H2_) | with_reducible exact H | (rw [hy149]; exact H) | exact H
              have Ny149 := aM hy149; clear hy149; have H' := aM H; clear H
              try go_wp2
              replace HO_0 := aM (Kd.V_drew HO_0.out); replace HO_1 := aM (Kd.V_drew HO_1.out); replace HO_9 := aM (Kd.R_drew HO_9.out); replace HB := aM (below_drew1 HB.out)
              have p123 : 0 ≤ (0 : Int) := (by omega)
              have q123 : 0 < (x1_1.length : Int) := of_decide_eq_true (by first | (with_reducible assumption) | assumption)
              obtain ⟨ad123, e123, hx123_0, hx123_1, hx123_2⟩ := at_T71 (Kd.V_reads' HO_1.out).2.2 0 p123 q123
              cases e123
              have qi123 : (0 < x1_1.length) = True := eq_true (by omega)
              (try rw [show ((0 : Int)).toNat = 0 from rfl] at hx123_0)
              (try rw [show 0 * 3 = 0 from rfl] at hx123_0)
              (try rw [Addr.add_zero'] at hx123_0)
              (try rw [show ((0 : Int)).toNat = 0 from rfl] at hx123_1)
              (try rw [show 0 * 3 = 0 from rfl] at hx123_1)
              (try rw [Addr.add_zero'] at hx123_1)
              (try rw [show ((0 : Int)).toNat = 0 from rfl] at hx123_2)
              (try rw [show 0 * 3 = 0 from rfl] at hx123_2)
              (try rw [Addr.add_zero'] at hx123_2)
              replace p123 := eq_true p123; replace q123 := eq_true q123
              (try (have qd123 := q123; simp only [List.length_drop] at qd123))
              have p125 : 0 ≤ (0 : Int) := (by omega)
              have q125 : 0 < (x0_1.length : Int) := of_decide_eq_true (by first | (with_reducible assumption) | assumption)
              obtain ⟨ad125, e125, hx125_0, hx125_1, hx125_2⟩ := at_T71 (Kd.V_reads' HO_0.out).2.2 0 p125 q125
              cases e125
              have qi125 : (0 < x0_1.length) = True := eq_true (by omega)
              (try rw [show ((0 : Int)).toNat = 0 from rfl] at hx125_0)
              (try rw [show 0 * 3 = 0 from rfl] at hx125_0)
              (try rw [Addr.add_zero'] at hx125_0)
              (try rw [show ((0 : Int)).toNat = 0 from rfl] at hx125_1)
              (try rw [show 0 * 3 = 0 from rfl] at hx125_1)
              (try rw [Addr.add_zero'] at hx125_1)
              (try rw [show ((0 : Int)).toNat = 0 from rfl] at hx125_2)
              (try rw [show 0 * 3 = 0 from rfl] at hx125_2)
              (try rw [Addr.add_zero'] at hx125_2)
              replace p125 := eq_true p125; replace q125 := eq_true q125
              (try (have qd125 := q125; simp only [List.length_drop] at qd125))
              refine start_ (n := 17) (S := fun w' => w'.cell? ad123 = some (.int .i64 ((rd_T71 x1_1 0).f0)) ∧ w'.cell? ⟨ad123.block, ad123.off + 1, none⟩ = some (.int .i64 ((rd_T71 x1_1 0).f1)) ∧ w'.cell? ⟨ad123.block, ad123.off + 2, none⟩ = some (.int .i64 ((rd_T71 x1_1 0).f2)) ∧ w'.cell? ad125 = some (.int .i64 ((rd_T71 x0_1 0).f0)) ∧ w'.cell? ⟨ad125.block, ad125.off + 1, none⟩ = some (.int .i64 ((rd_T71 x0_1 0).f1)) ∧ w'.cell? ⟨ad125.block, ad125.off + 2, none⟩ = some (.int .i64 ((rd_T71 x0_1 0).f2))) (ds := []) #[false, false, false, false, false, false, false, false, false, false, false, false, false, false, false, false, false] (by kernel_rfl) rfl rfl ⟨hx123_0, hx123_1, hx123_2, hx125_0, hx125_1, hx125_2⟩ (fun hHeld => ?_); refine with_tabW api_Answered.tab6 api_Answered.bits6 (fun HT_ HW_ => ?_)
              generalize wc.drew = w52 at HO_0 HO_1 HO_9 HB hx123_0 hx123_1 hx123_2 hx125_0 hx125_1 hx125_2 hHeld ⊢
              refine pX (i := 0) (N := some 62) rfl rfl HT_ ?_
              refine pX (i := 1) (N := some 63) rfl rfl HT_ ?_
              refine pX (i := 2) (N := some 64) rfl rfl HT_ ?_
              refine pX (i := 3) (N := some 65) rfl rfl HT_ ?_
              refine pX (i := 4) (N := some 66) rfl rfl HT_ ?_
              refine pX (i := 5) (N := some 67) rfl rfl HT_ ?_
              refine pX (i := 6) (N := some 68) rfl rfl HT_ ?_
              refine pX (i := 9) (N := some 71) rfl rfl HT_ ?_
              refine pX (i := 10) (N := some 72) rfl rfl HT_ ?_
              refine pX (i := 11) (N := some 73) rfl rfl HT_ ?_
              refine tX (i := 7) (N := some 69) rfl rfl HT_ HW_ hHeld (Or.inl ⟨by rfl, by rintro w' ⟨s0, s1, s2, s3, s4, s5⟩; go_simp; with_reducible rfl⟩) ?_
              refine tX (i := 12) (N := some 74) rfl rfl HT_ HW_ hHeld (Or.inl ⟨by rfl, by rintro w' ⟨s0, s1, s2, s3, s4, s5⟩; go_simp; with_reducible rfl⟩) ?_
              refine oX (i := 8) (N := some 70) rfl rfl HT_ (fun K hK => ?_)
              refine Go.Proofs.YtohnkcmbogcfhaaH.goes_v Try.func82 (by kernel_rfl) rfl #[.agg #[.int .i64 ((rd_T71 x1_1 0).f0), .int .i64 ((rd_T71 x1_1 0).f1), .int .i64 ((rd_T71 x1_1 0).f2)]] (.tmp 66) (by rfl) rfl rfl (by rfl) (by (try simp only [List.map_toArray, List.map_cons, List.map_nil]); first | done | rfl | (simp only [List.length_drop, List.length_take]; rfl)) ?_
              with_reducible refine (odds_Join_2.calls ((rd_T71 x1_1 0).f0) ((rd_T71 x1_1 0).f1) ((rd_T71 x1_1 0).f2) t124 _ A36.out).mono ?_
              rintro e w53 ⟨rfl, hb⟩
              have HS0_ := (hb.cell (World.block_lt_of_cell? _ _ (hHeld.1))).trans (hHeld.1); have HS1_ := (hb.cell (World.block_lt_of_cell? _ _ (hHeld.2.1))).trans (hHeld.2.1); have HS2_ := (hb.cell (World.block_lt_of_cell? _ _ (hHeld.2.2.1))).trans (hHeld.2.2.1); have HS3_ := (hb.cell (World.block_lt_of_cell? _ _ (hHeld.2.2.2.1))).trans (hHeld.2.2.2.1); have HS4_ := (hb.cell (World.block_lt_of_cell? _ _ (hHeld.2.2.2.2.1))).trans (hHeld.2.2.2.2.1); have HS5_ := (hb.cell (World.block_lt_of_cell? _ _ (hHeld.2.2.2.2.2))).trans (hHeld.2.2.2.2.2)
              refine ⟨_, rfl, ?_⟩
              replace HO_0 := aM (Kd.V_below (by (with_reducible repeat (first | apply Kd.V_alloc | apply Kd.V_drewN | apply Kd.V_drew)); exact HO_0.out) hb); replace HO_1 := aM (Kd.V_below (by (with_reducible repeat (first | apply Kd.V_alloc | apply Kd.V_drewN | apply Kd.V_drew)); exact HO_1.out) hb); replace HO_9 := rB HO_9 hb; replace HB := sB HB hb; (try clear hb); (try clear hb2); (try clear hk); (try clear hi)
              refine hK.out _ _ ⟨HS0_, HS1_, HS2_, HS3_, HS4_, HS5_⟩ (fun hHeld => ?_)
              clear hK K
              refine nX (some 70) ?_
              refine oX (i := 13) (N := some 75) rfl rfl HT_ (fun K hK => ?_)
              refine Go.Proofs.YtohnkcmbogcfhaaH.goes_v Try.func82 (by kernel_rfl) rfl #[.agg #[.int .i64 ((rd_T71 x0_1 0).f0), .int .i64 ((rd_T71 x0_1 0).f1), .int .i64 ((rd_T71 x0_1 0).f2)]] (.tmp 71) (by rfl) rfl rfl (by rfl) (by (try simp only [List.map_toArray, List.map_cons, List.map_nil]); first | done | rfl | (simp only [List.length_drop, List.length_take]; rfl)) ?_
              with_reducible refine (odds_Join_2.calls ((rd_T71 x0_1 0).f0) ((rd_T71 x0_1 0).f1) ((rd_T71 x0_1 0).f2) t126 _ A38.out).mono ?_
              rintro e w54 ⟨rfl, hb⟩
              have HS0_ := (hb.cell (World.block_lt_of_cell? _ _ (hHeld.1))).trans (hHeld.1); have HS1_ := (hb.cell (World.block_lt_of_cell? _ _ (hHeld.2.1))).trans (hHeld.2.1); have HS2_ := (hb.cell (World.block_lt_of_cell? _ _ (hHeld.2.2.1))).trans (hHeld.2.2.1); have HS3_ := (hb.cell (World.block_lt_of_cell? _ _ (hHeld.2.2.2.1))).trans (hHeld.2.2.2.1); have HS4_ := (hb.cell (World.block_lt_of_cell? _ _ (hHeld.2.2.2.2.1))).trans (hHeld.2.2.2.2.1); have HS5_ := (hb.cell (World.block_lt_of_cell? _ _ (hHeld.2.2.2.2.2))).trans (hHeld.2.2.2.2.2)
              refine ⟨_, rfl, ?_⟩
              replace HO_0 := aM (Kd.V_below (by (with_reducible repeat (first | apply Kd.V_alloc | apply Kd.V_drewN | apply Kd.V_drew)); exact HO_0.out) hb); replace HO_1 := aM (Kd.V_below (by (with_reducible repeat (first | apply Kd.V_alloc | apply Kd.V_drewN | apply Kd.V_drew)); exact HO_1.out) hb); replace HO_9 := rB HO_9 hb; replace HB := sB HB hb; (try clear hb); (try clear hb2); (try clear hk); (try clear hi)
              refine hK.out _ _ ⟨HS0_, HS1_, HS2_, HS3_, HS4_, HS5_⟩ (fun hHeld => ?_)
              clear hK K
              refine nX (some 75) ?_
              refine pX (i := 14) (N := some 76) rfl rfl HT_ ?_
              refine pX (i := 15) (N := some 77) rfl rfl HT_ ?_
              refine pX (i := 16) (N := some 61) rfl rfl HT_ ?_
              refine done_ (done_of HT_.out (by kernel_rfl)) ?_
              try go_wp2
              replace HO_0 := aM (Kd.V_drew HO_0.out); replace HO_1 := aM (Kd.V_drew HO_1.out); replace HO_9 := aM (Kd.R_drew HO_9.out); replace HB := aM (below_drew1 HB.out)
              have p136 : 0 ≤ (0 : Int) := (by omega)
              have q136 : 0 < (x0_1.length : Int) := of_decide_eq_true (by first | (with_reducible assumption) | assumption)
              obtain ⟨ad136, e136, hx136_0, hx136_1, hx136_2⟩ := at_T71 (Kd.V_reads' HO_0.out).2.2 0 p136 q136
              obtain rfl : ad125 = ad136 := (by injection e136)
              have qi136 : (0 < x0_1.length) = True := eq_true (by omega)
              (try rw [show ((0 : Int)).toNat = 0 from rfl] at hx136_0)
              (try rw [show 0 * 3 = 0 from rfl] at hx136_0)
              (try rw [Addr.add_zero'] at hx136_0)
              (try rw [show ((0 : Int)).toNat = 0 from rfl] at hx136_1)
              (try rw [show 0 * 3 = 0 from rfl] at hx136_1)
              (try rw [Addr.add_zero'] at hx136_1)
              (try rw [show ((0 : Int)).toNat = 0 from rfl] at hx136_2)
              (try rw [show 0 * 3 = 0 from rfl] at hx136_2)
              (try rw [Addr.add_zero'] at hx136_2)
              replace p136 := eq_true p136; replace q136 := eq_true q136
              (try (have qd136 := q136; simp only [List.length_drop] at qd136))
              have p137 : 0 ≤ (0 : Int) := (by omega)
              have q137 : 0 < (x1_1.length : Int) := of_decide_eq_true (by first | (with_reducible assumption) | assumption)
              obtain ⟨ad137, e137, hx137_0, hx137_1, hx137_2⟩ := at_T71 (Kd.V_reads' HO_1.out).2.2 0 p137 q137
              obtain rfl : ad123 = ad137 := (by injection e137)
              have qi137 : (0 < x1_1.length) = True := eq_true (by omega)
              (try rw [show ((0 : Int)).toNat = 0 from rfl] at hx137_0)
              (try rw [show 0 * 3 = 0 from rfl] at hx137_0)
              (try rw [Addr.add_zero'] at hx137_0)
              (try rw [show ((0 : Int)).toNat = 0 from rfl] at hx137_1)
              (try rw [show 0 * 3 = 0 from rfl] at hx137_1)
              (try rw [Addr.add_zero'] at hx137_1)
              (try rw [show ((0 : Int)).toNat = 0 from rfl] at hx137_2)
              (try rw [show 0 * 3 = 0 from rfl] at hx137_2)
              (try rw [Addr.add_zero'] at hx137_2)
              replace p137 := eq_true p137; replace q137 := eq_true q137
              (try (have qd137 := q137; simp only [List.length_drop] at qd137))
              have q56 : (1 : Int) ≤ ((x0_1.length : Int) : Int) := of_decide_eq_true (by first | (with_reducible assumption) | assumption)
              obtain ⟨i056, hi056, _, hsz56, _⟩ := info_parts info71
              have hroom56 : x0_1.length ≤ co7 := (Kd.V_reads' HO_0.out).2.1
              have hC56 : Kd.F k71 _ _ (some ad125) x0_1.length x0_1 := (Kd.V_at (base := w.heap.size) HO_0.out).2.2
              have hcut56 := cut_from (P := Try.prog) 22 71 .i64 Try.underlying22 hi056 3 hsz56 (some ad125) x0_1.length co7 1 (by omega) q56; have hr56 := Kd.F_cut (m := (1 : Int).toNat) (c := co7) hC56 (by omega) hroom56
              obtain ⟨A56, hA56⟩ : ∃ A1, A1 = (if co7 = (1 : Int).toNat then (some ad125) else ((some ad125) : Option Addr).map (·.add ((1 : Int).toNat * 3))) := ⟨_, rfl⟩
              obtain ⟨c56, hc56⟩ : ∃ c1, c1 = co7 - (1 : Int).toNat := ⟨_, rfl⟩
              have hy56 : y144.length = x0_1.length - (1 : Int).toNat := (by rw [Ny144.out, List.length_drop] <;> omega)
              rw [show (x0_1).drop (1 : Int).toNat = y144 from Ny144.out.symm] at hr56
              replace hr56 : Kd.F k71 _ _ A56 y144.length y144 := (by rw [hA56]; exact hr56)
              rw [← hy56, ← hA56, ← hc56] at hcut56
              have HO148 := aM (show Kd.V k71 71 _ w.heap.size _ (.slice A56 y144.length c56) y144 from Kd.V_mk (by rw [hy56, hc56]; exact Nat.sub_le_sub_right hroom56 _) hr56)
              have HC148 := aM (show y144.length ≤ c56 from by rw [hy56, hc56]; exact Nat.sub_le_sub_right hroom56 _)
              clear hr56 hC56 hroom56 hi056 hsz56 hc56; have KY56 := aM hy56; have KA56 := aM hA56; clear hy56 hA56; replace q56 := eq_true q56
              (try (have qd56 := q56; simp only [List.length_drop] at qd56))
              have q57 : (1 : Int) ≤ ((x1_1.length : Int) : Int) := of_decide_eq_true (by first | (with_reducible assumption) | assumption)
              obtain ⟨i057, hi057, _, hsz57, _⟩ := info_parts info71
              have hroom57 : x1_1.length ≤ co8 := (Kd.V_reads' HO_1.out).2.1
              have hC57 : Kd.F k71 _ _ (some ad123) x1_1.length x1_1 := (Kd.V_at (base := w.heap.size) HO_1.out).2.2
              have hcut57 := cut_from (P := Try.prog) 22 71 .i64 Try.underlying22 hi057 3 hsz57 (some ad123) x1_1.length co8 1 (by omega) q57; have hr57 := Kd.F_cut (m := (1 : Int).toNat) (c := co8) hC57 (by omega) hroom57
              obtain ⟨A57, hA57⟩ : ∃ A1, A1 = (if co8 = (1 : Int).toNat then (some ad123) else ((some ad123) : Option Addr).map (·.add ((1 : Int).toNat * 3))) := ⟨_, rfl⟩
              obtain ⟨c57, hc57⟩ : ∃ c1, c1 = co8 - (1 : Int).toNat := ⟨_, rfl⟩
              have hy57 : y149.length = x1_1.length - (1 : Int).toNat := (by rw [Ny149.out, List.length_drop] <;> omega)
              rw [show (x1_1).drop (1 : Int).toNat = y149 from Ny149.out.symm] at hr57
              replace hr57 : Kd.F k71 _ _ A57 y149.length y149 := (by rw [hA57]; exact hr57)
              rw [← hy57, ← hA57, ← hc57] at hcut57
              have HO153 := aM (show Kd.V k71 71 _ w.heap.size _ (.slice A57 y149.length c57) y149 from Kd.V_mk (by rw [hy57, hc57]; exact Nat.sub_le_sub_right hroom57 _) hr57)
              have HC153 := aM (show y149.length ≤ c57 from by rw [hy57, hc57]; exact Nat.sub_le_sub_right hroom57 _)
              clear hr57 hC57 hroom57 hi057 hsz57 hc57; have KY57 := aM hy57; have KA57 := aM hA57; clear hy57 hA57; replace q57 := eq_true q57
              (try (have qd57 := q57; simp only [List.length_drop] at qd57))
              refine start_ (n := 18) (S := fun w' => w'.cell? ad125 = some (.int .i64 ((rd_T71 x0_1 0).f0)) ∧ w'.cell? ⟨ad125.block, ad125.off + 1, none⟩ = some (.int .i64 ((rd_T71 x0_1 0).f1)) ∧ w'.cell? ⟨ad125.block, ad125.off + 2, none⟩ = some (.int .i64 ((rd_T71 x0_1 0).f2)) ∧ w'.cell? ad123 = some (.int .i64 ((rd_T71 x1_1 0).f0)) ∧ w'.cell? ⟨ad123.block, ad123.off + 1, none⟩ = some (.int .i64 ((rd_T71 x1_1 0).f1)) ∧ w'.cell? ⟨ad123.block, ad123.off + 2, none⟩ = some (.int .i64 ((rd_T71 x1_1 0).f2))) (ds := [9, 10]) #[false, false, false, false, false, false, false, false, false, false, false, false, false, false, false, false, false, false] (by kernel_rfl) rfl rfl ⟨hx136_0, hx136_1, hx136_2, hx137_0, hx137_1, hx137_2⟩ (fun hHeld => ?_); refine with_tabW api_Answered.tab3 api_Answered.bits3 (fun HT_ HW_ => ?_)
              generalize w54.drew = w55 at HO_0 HO_1 HO_9 HB HO148 HO153 hx136_0 hx136_1 hx136_2 hx137_0 hx137_1 hx137_2 hHeld ⊢
              refine pX (i := 0) (N := some 16) rfl rfl HT_ ?_
              refine pX (i := 1) (N := some 17) rfl rfl HT_ ?_
              refine pX (i := 2) (N := some 18) rfl rfl HT_ ?_
              refine pX (i := 3) (N := some 19) rfl rfl HT_ ?_
              refine pX (i := 5) (N := some 21) rfl rfl HT_ ?_
              refine pX (i := 6) (N := some 22) rfl rfl HT_ ?_
              refine pX (i := 11) (N := some 27) rfl rfl HT_ ?_
              refine pX (i := 12) (N := some 28) rfl rfl HT_ ?_
              refine pX (i := 13) (N := some 29) rfl rfl HT_ ?_
              refine pX (i := 14) (N := some 30) rfl rfl HT_ ?_
              refine tX (i := 4) (N := some 20) rfl rfl HT_ HW_ hHeld (Or.inl ⟨by rfl, by rintro w' ⟨s0, s1, s2, s3, s4, s5⟩; go_simp; with_reducible rfl⟩) ?_
              refine tX (i := 7) (N := some 23) rfl rfl HT_ HW_ hHeld (Or.inl ⟨by rfl, by rintro w' ⟨s0, s1, s2, s3, s4, s5⟩; go_simp; with_reducible rfl⟩) ?_
              refine oX (i := 8) (N := some 24) rfl rfl HT_ (fun K hK => ?_)
              refine Go.Proofs.YtohnkcmbogcfhaaH.goes_v Try.func80 (by kernel_rfl) rfl #[.agg #[.int .i64 ((rd_T71 x0_1 0).f0), .int .i64 ((rd_T71 x0_1 0).f1), .int .i64 ((rd_T71 x0_1 0).f2)], .agg #[.int .i64 ((rd_T71 x1_1 0).f0), .int .i64 ((rd_T71 x1_1 0).f1), .int .i64 ((rd_T71 x1_1 0).f2)]] (.tmp 17) (by rfl) rfl rfl (by rfl) (by (try simp only [List.map_toArray, List.map_cons, List.map_nil]); first | done | rfl | (simp only [List.length_drop, List.length_take]; rfl)) ?_
              with_reducible refine (odds_Join_1.calls ((rd_T71 x0_1 0).f0) ((rd_T71 x0_1 0).f1) ((rd_T71 x0_1 0).f2) ((rd_T71 x1_1 0).f0) ((rd_T71 x1_1 0).f1) ((rd_T71 x1_1 0).f2) t138 t139 t140 _ A48.out).mono ?_
              rintro e w58 ⟨rfl, hb⟩
              have HS0_ := (hb.cell (World.block_lt_of_cell? _ _ (hHeld.1))).trans (hHeld.1); have HS1_ := (hb.cell (World.block_lt_of_cell? _ _ (hHeld.2.1))).trans (hHeld.2.1); have HS2_ := (hb.cell (World.block_lt_of_cell? _ _ (hHeld.2.2.1))).trans (hHeld.2.2.1); have HS3_ := (hb.cell (World.block_lt_of_cell? _ _ (hHeld.2.2.2.1))).trans (hHeld.2.2.2.1); have HS4_ := (hb.cell (World.block_lt_of_cell? _ _ (hHeld.2.2.2.2.1))).trans (hHeld.2.2.2.2.1); have HS5_ := (hb.cell (World.block_lt_of_cell? _ _ (hHeld.2.2.2.2.2))).trans (hHeld.2.2.2.2.2)
              refine ⟨_, rfl, ?_⟩
              replace HO_0 := aM (Kd.V_below (by (with_reducible repeat (first | apply Kd.V_alloc | apply Kd.V_drewN | apply Kd.V_drew)); exact HO_0.out) hb); replace HO_1 := aM (Kd.V_below (by (with_reducible repeat (first | apply Kd.V_alloc | apply Kd.V_drewN | apply Kd.V_drew)); exact HO_1.out) hb); replace HO_9 := rB HO_9 hb; replace HO148 := aM (Kd.V_below (by (with_reducible repeat (first | apply Kd.V_alloc | apply Kd.V_drewN | apply Kd.V_drew)); exact HO148.out) hb); replace HO153 := aM (Kd.V_below (by (with_reducible repeat (first | apply Kd.V_alloc | apply Kd.V_drewN | apply Kd.V_drew)); exact HO153.out) hb); replace HB := sB HB hb; (try clear hb)
              (try clear hb2); (try clear hk); (try clear hi)
              refine hK.out _ _ ⟨HS0_, HS1_, HS2_, HS3_, HS4_, HS5_⟩ (fun hHeld => ?_)
              clear hK K
              refine nX (some 24) ?_
              refine last_ (i := 9) (N := some 25) #[true, true, true, true, true, true, true, true, true, true, false, true, true, true, true, false, false, false] rfl rfl (one_of HT_.out (by kernel_rfl)) (by decide) (fun K hK => ?_)
              refine value_ (w1 := ?_) (v := ?_) (by rfl) rfl ?_ ?_
              rotate_left 2
              ·go_simp
               constructor
               ·rfl
               ·rfl
              refine hK.out _ _ ?_
              clear hK K
              refine nX (some 25) ?_
              refine last_ (i := 10) (N := some 26) #[true, true, true, true, true, true, true, true, true, true, true, true, true, true, true, false, false, false] rfl rfl (one_of HT_.out (by kernel_rfl)) (by decide) (fun K hK => ?_)
              refine Kd.R_append_step k71 (w0 := w) w.heap.size (by rfl) (.tmp 16) (.tmp 25) 22 71 (.agg #[(.int .i64 0), (.int .i64 0), (.int .i64 0)]) 24 rfl Try.underlying22 info71 rfl (by decide) (by omega) u9 x9_1 (⟨t138, t139, t140⟩ : S71) [.int .i64 t138, .int .i64 t139, .int .i64 t140] (fun k_ => (w.heap.size ≤ k_)) (fun _ => False) rfl rfl ?aP (fun _ hk => hk.elim) ?aF ?aO ?aB ?aS ?aL ?_
              (case aP => exact k71_mkM _ _ _ (⟨t138, t139, t140⟩ : S71))
              (case aB => exact (sD HB))
              (case aF => exact (fun k_ hk => (Nat.le_trans (below_size (sD HB)) hk)))
              (case aO => exact (rD HO_9))
              (case aS => exact (below_size (sD HB)))
              (case aL => have := LMc49.out; omega)
              intro v142 w59 ho hb hg hat
              rw [← Ny141.out] at ho
              have HO143 := aM (ho); replace HO_0 := aM (Kd.V_afterv (ok := (fun k_ => ((P0_ k_ ∨ P1_ k_) ∨ w.heap.size ≤ k_))) (by (with_reducible repeat (first | apply Kd.V_alloc | apply Kd.V_drewN | apply Kd.V_drew)); exact HO_0.out) hg hat); replace HO_1 := aM (Kd.V_afterv (ok := (fun k_ => ((P0_ k_ ∨ P1_ k_) ∨ w.heap.size ≤ k_))) (by (with_reducible repeat (first | apply Kd.V_alloc | apply Kd.V_drewN | apply Kd.V_drew)); exact HO_1.out) hg hat); replace HO148 := aM (Kd.V_afterv (ok := (fun k_ => ((P0_ k_ ∨ P1_ k_) ∨ w.heap.size ≤ k_))) (by (with_reducible repeat (first | apply Kd.V_alloc | apply Kd.V_drewN | apply Kd.V_drew)); exact HO148.out) hg hat)
              replace HO153 := aM (Kd.V_afterv (ok := (fun k_ => ((P0_ k_ ∨ P1_ k_) ∨ w.heap.size ≤ k_))) (by (with_reducible repeat (first | apply Kd.V_alloc | apply Kd.V_drewN | apply Kd.V_drew)); exact HO153.out) hg hat); replace HB := aM (hb); clear HO_9 ho hb hg hat
              refine hK.out _ _ ?_
              clear hK K
              refine nX (some 26) ?_
              refine pX (i := 15) (N := some 9) rfl rfl HT_ ?_
              refine pX (i := 16) (N := some 0) rfl rfl HT_ ?_
              refine pX (i := 17) (N := some 1) rfl rfl HT_ ?_
              refine done_ (done_of HT_.out (by kernel_rfl)) ?_
              try go_wp2
              go_roundg kj5
              case measure => have := HK1.out; have := HJ5.out; omega
              case rel => exact ⟨(y144), (y149), (y141), H', ⟨by have := HK1.out; have := HJ5.out; omega⟩, ⟨by (with_reducible repeat (first | apply Kd.V_alloc | apply Kd.V_drewN | apply Kd.V_drew)); exact HO148.out⟩, ⟨by (with_reducible repeat (first | apply Kd.V_alloc | apply Kd.V_drewN | apply Kd.V_drew)); exact HO153.out⟩, ⟨by (with_reducible repeat (first | apply Kd.R_alloc | apply Kd.R_drewN | apply Kd.R_drew)); exact HO143.out⟩, ⟨sD HB⟩⟩
             ·rw [if_neg c51] at H
              exact absurd H (by simp)
            ·rw [if_neg c50] at H
             exact absurd H (by simp)
           ·rw [if_neg c49] at H
            exact absurd H (by simp)
         ·rw [if_neg c37] at H
          exact absurd H (by simp)
        ·rw [if_neg c35] at H
         exact absurd H (by simp)
   ·rw [if_neg c5] at H
    have c5b0 : decide (0 < (wrap64 ((x0_1.length : Int) + (x1_1.length : Int)))) = false := decide_eq_false c5
    clear c5
    obtain rfl := Option.some.inj H
    obtain ⟨Ao60, co60, eo60⟩ := Kd.V_slice HO_0.out
    subst eo60
    obtain ⟨Ao61, co61, eo61⟩ := Kd.V_slice HO_1.out
    subst eo61
    go_wp2
    go_ret
    exact ⟨_, by first | rfl | (simp [errW_none, errW_some] <;> rfl) | (simp [*, errW_none, errW_some] <;> rfl), by (with_reducible repeat (first | apply Kd.R_alloc | apply Kd.R_drewN | apply Kd.R_drew)); exact HO_9.out, sD HB⟩
end Go.Proofs.Ytohnkcmbogcfhaa.P
namespace Go.Proofs.Ytohnkcmbogcfhaa.P
open Go.Proofs.YtohnkcmbogcfhaaH Go.RowKit Go.Proofs.YtohnkcmbogcfhaaW.PrintWords Go.Proofs.YtohnkcmbogcfhaaW.PrintLast Go.Proofs.YtohnkcmbogcfhaaW.PrintMore
attribute [local go_sem] max2_int min2_int max_two min_two max_three min_three max_four min_four   -- for this text's walks alone
def odds_Join.f (k : Nat) (l0 : List (S71)) (l1 : List (S71)) : Option ((List (S71)) × Int) := (api_Answered.f k l0 l1).bind fun t101 => ((odds_Right.f k t101).bind fun t104 => (if t104 = 0 then (some (t101, 0)) else (some (([] : List (S71)), 2))))
set_option maxHeartbeats 40000000 in
set_option maxRecDepth 100000 in
theorem odds_Join.calls (k : Nat) (A0 : Option Addr) (c0 : Nat) (l0 : List (S71)) (A1 : Option Addr) (c1 : Nat) (l1 : List (S71)) (r1 : List (S71)) (r2 : Int) (w : World) (hr0 : Kd.C k71 w A0 l0.length l0) (hc0 : l0.length ≤ c0) (hr1 : Kd.C k71 w A1 l1.length l1) (hc1 : l1.length ≤ c1) (h : odds_Join.f k l0 l1 = some (r1, r2)) :
  Calls Try.prog 53 #[.slice A0 l0.length c0, .slice A1 l1.length c1] w fun e w' => ∃ v0_ : Value, e = .returned (.tuple #[v0_, .int .i64 r2]) ∧ Kd.R k71 71 w' w.heap.size (fun _ => True) v0_ r1 ∧ Below w.heap.size w w' := by
 have HR0 := aM hr0; have HC0 := aM hc0; clear hr0 hc0; have HR1 := aM hr1; have HC1 := aM hc1; clear hr1 hc1; have HB := aM (Below.refl w.heap.size w)
 have H : ((api_Answered.f k l0 l1).bind fun t101 => ((odds_Right.f k t101).bind fun t104 => (if t104 = 0 then (some (t101, 0)) else (some (([] : List (S71)), 2))))) = some (r1, r2) := h
 clear h; replace H := Option.bind_eq_some_iff.mp H
 obtain ⟨t101, A30, H⟩ := H
 replace H : ((odds_Right.f k t101).bind fun t104 => (if t104 = 0 then (some (t101, 0)) else (some (([] : List (S71)), 2)))) = some (r1, r2) := H
 have A3 := aM A30; clear A30; replace H := Option.bind_eq_some_iff.mp H
 obtain ⟨t104, A40, H⟩ := H
 replace H : (if t104 = 0 then (some (t101, 0)) else (some (([] : List (S71)), 2))) = some (r1, r2) := H
 have A4 := aM A40; clear A40
 by_cases c5 : t104 = 0
 ·rw [if_pos c5] at H
  have c5b0 : (t104 == 0) = true := beq_iff_eq.mpr c5
  have c5b1 : (t104 != 0) = false := bne_eq_false_iff_eq.mpr c5
  clear c5
  simp only [Option.some.injEq, Prod.mk.injEq] at H
  obtain ⟨rfl, rfl⟩ := H
  go_enter Try.func53, Try.ntmps53
  go_wp2_with (first | ((with_reducible refine gate_callee (f := 81) rfl ?_); refine gL (some 11) Try.func81 #[.slice A0 l0.length c0, .slice A1 l1.length c1, .func (.func 82) #[] #[], .func (.func 80) #[] #[]] ?_; (with_reducible refine (api_Answered.calls k (fun k_ => k_ < w.heap.size) _ _ l0 (fun k_ => k_ < w.heap.size) _ _ l1   t101 _ ?side1 ?side2 A3.out).mono ?_); (case side1 => exact Kd.V_mk HC0.out (Kd.F_below (Kd.C_F k71_heap HR0.out) (sD HB))); (case side2 => exact Kd.V_mk HC1.out (Kd.F_below (Kd.C_F k71_heap HR1.out) (sD HB))); rintro e w6 ⟨v102, rfl, ho0, hb⟩; refine ⟨_, rfl, ?_⟩; have HO103 := aM (Kd.R_lower (Kd.R_mono (ok' := fun k_ => True) ho0 (fun _ hk_ => trivial)) (below_size (sD HB))); replace HB := sB HB hb; (try clear hb); (try clear ho0); obtain ⟨Ao7, co7, eo7⟩ := Kd.R_slice HO103.out; subst eo7) | ((with_reducible refine gate_callee (f := 17) rfl ?_); refine gL (some 13) Try.func17 #[.slice Ao7 t101.length co7] ?_; (with_reducible refine (odds_Right.calls k _ _ t101 t104 _ ?side1 ?side2 A4.out).mono ?_); (case side1 => exact rC HO103); (case side2 => exact rN HO103); rintro e w8 ⟨rfl, hb⟩; refine ⟨_, rfl, ?_⟩; replace HO103 := rB HO103 hb; replace HB := sB HB hb; (try clear hb)))
  go_ret2
  exact ⟨_, by first | rfl | (simp [errW_none, errW_some] <;> rfl) | (simp [*, errW_none, errW_some] <;> rfl), by (with_reducible repeat (first | apply Kd.R_alloc | apply Kd.R_drewN | apply Kd.R_drew)); exact HO103.out, sD HB⟩
 rw [if_neg c5] at H
 have c5b0 : (t104 == 0) = false := beq_eq_false_iff_ne.mpr c5
 have c5b1 : (t104 != 0) = true := bne_iff_ne.mpr c5
 simp only [Option.some.injEq, Prod.mk.injEq] at H
 obtain ⟨rfl, rfl⟩ := H
 go_enter Try.func53, Try.ntmps53
 go_wp2_with (first | ((with_reducible refine gate_callee (f := 81) rfl ?_); refine gL (some 11) Try.func81 #[.slice A0 l0.length c0, .slice A1 l1.length c1, .func (.func 82) #[] #[], .func (.func 80) #[] #[]] ?_; (with_reducible refine (api_Answered.calls k (fun k_ => k_ < w.heap.size) _ _ l0 (fun k_ => k_ < w.heap.size) _ _ l1   t101 _ ?side1 ?side2 A3.out).mono ?_); (case side1 => exact Kd.V_mk HC0.out (Kd.F_below (Kd.C_F k71_heap HR0.out) (sD HB))); (case side2 => exact Kd.V_mk HC1.out (Kd.F_below (Kd.C_F k71_heap HR1.out) (sD HB))); rintro e w9 ⟨v102, rfl, ho0, hb⟩; refine ⟨_, rfl, ?_⟩; have HO103 := aM (Kd.R_lower (Kd.R_mono (ok' := fun k_ => True) ho0 (fun _ hk_ => trivial)) (below_size (sD HB))); replace HB := sB HB hb; (try clear hb); (try clear ho0); obtain ⟨Ao10, co10, eo10⟩ := Kd.R_slice HO103.out; subst eo10) | ((with_reducible refine gate_callee (f := 17) rfl ?_); refine gL (some 13) Try.func17 #[.slice Ao10 t101.length co10] ?_; (with_reducible refine (odds_Right.calls k _ _ t101 t104 _ ?side1 ?side2 A4.out).mono ?_); (case side1 => exact rC HO103); (case side2 => exact rN HO103); rintro e w11 ⟨rfl, hb⟩; refine ⟨_, rfl, ?_⟩; replace HO103 := rB HO103 hb; replace HB := sB HB hb; (try clear hb)))
 go_ret2
 exact ⟨_, by first | rfl | (simp [errW_none, errW_some] <;> rfl) | (simp [*, errW_none, errW_some] <;> rfl), by first | exact Kd.R_nil _ _ _ _ _ | exact Kd.N_nil _ _ _ _ _ | exact Kd.V_nil _ _ _ _ _ | exact Kd.Q_nil _ _ _ _ _ | exact Kd.S_nil _ _ _ _ _, sD HB⟩
end Go.Proofs.Ytohnkcmbogcfhaa.P
namespace Go.Proofs.Ytohnkcmbogcfhaa.P
open Go.Proofs.YtohnkcmbogcfhaaH Go.RowKit Go.Proofs.YtohnkcmbogcfhaaW.PrintWords Go.Proofs.YtohnkcmbogcfhaaW.PrintLast Go.Proofs.YtohnkcmbogcfhaaW.PrintMore
attribute [local go_sem] max2_int min2_int max_two min_two max_three min_three max_four min_four   -- for this text's walks alone
attribute [local go_sem] Go.Proofs.YtohnkcmbogcfhaaH.cell_set_map
def odds_Learn.j0 : Nat → List (S71) → Int → Bool → Bool → Option ((List (S71)) × Int)
 | 0, _, _, _, _ => none
 | k + 1, x0, x1, x2, x14 => if x14 = true then (some (([] : List (S71)), 1)) else (if x2 = true then ((odds_Join.f k x0 (([(⟨x1, 1, 0⟩ : S71)] : List (S71)))).bind fun bt105 => (some (bt105.1, bt105.2))) else ((odds_Join.f k x0 (([(⟨x1, 0, 1⟩ : S71)] : List (S71)))).bind fun bt112 => (some (bt112.1, bt112.2))))
def odds_Learn.f (k : Nat) (l0 : List (S71)) (a1 : Int) (a2 : Bool) : Option ((List (S71)) × Int) := if a1 < 1 then (odds_Learn.j0 k l0 a1 a2 true) else (odds_Learn.j0 k l0 a1 a2 (decide (a1 > 14)))
set_option maxHeartbeats 40000000 in
set_option maxRecDepth 100000 in
theorem odds_Learn.calls (k : Nat) (A0 : Option Addr) (c0 : Nat) (l0 : List (S71)) (a1 : Int) (a2 : Bool) (r1 : List (S71)) (r2 : Int) (w : World) (hr0 : Kd.C k71 w A0 l0.length l0) (hc0 : l0.length ≤ c0) (h : odds_Learn.f k l0 a1 a2 = some (r1, r2)) :
  Calls Try.prog 57 #[.slice A0 l0.length c0, .int .i64 a1, .bool a2] w fun e w' => ∃ v0_ : Value, e = .returned (.tuple #[v0_, .int .i64 r2]) ∧ Kd.R k71 71 w' w.heap.size (fun _ => True) v0_ r1 ∧ Below w.heap.size w w' := by
 have hu71 := Try.underlying71; have HR0 := aM hr0; have HC0 := aM hc0; clear hr0 hc0; have HB := aM (Below.refl w.heap.size w)
 have H : (if a1 < 1 then (odds_Learn.j0 k l0 a1 a2 true) else (odds_Learn.j0 k l0 a1 a2 (decide (a1 > 14)))) = some (r1, r2) := h
 clear h; have HC4 := aM H; clear H
 go_enter Try.func57, Try.ntmps57
 go_upto_region 1 with (fail)
 go_cut [14] (fun v14 wc => ∃ (kq : Nat) (x14_3 : Bool), v14 = .bool x14_3 ∧ Aside0 (odds_Learn.j0 kq l0 a1 a2 x14_3 = some (r1, r2)) ∧ Aside0 (kq ≤ k) ∧ Aside0 (Below w.heap.size w wc))
 case first =>
  have H := HC4.out; clear HC4
  by_cases c5 : a1 < 1
  ·rw [if_pos c5] at H
   have c5b0 : decide (a1 < 1) = true := decide_eq_true c5
   clear c5
   (first | rw [c5b0] | (simp only [i64_w, i32_w]; rw [c5b0]) | skip)
   have H' := aM H; clear H
   go_wp2
   go_meet
   case rel => exact ⟨_, (true), (by first | rfl | (simp; done) | (simp [*]; done)), H', ⟨by first | omega | exact Nat.le_refl _⟩, ⟨sD HB⟩⟩
  ·rw [if_neg c5] at H
   have c5b0 : decide (a1 < 1) = false := decide_eq_false c5
   clear c5
   (first | rw [c5b0] | (simp only [i64_w, i32_w]; rw [c5b0]) | skip)
   have H' := aM H; clear H
   go_wp2
   go_meet
   case rel => exact ⟨_, (decide (a1 > 14)), (by first | rfl | (simp; done) | (simp [*]; done)), H', ⟨by first | omega | exact Nat.le_refl _⟩, ⟨sD HB⟩⟩
 case rest =>
  clear HC4
  try clear p2
  try clear c5
  try clear c5b0
  obtain ⟨kq, x14_3, rfl, HA, HJ3, HB⟩ := hcut
  cases kq with
  | zero => exact absurd HA.out (by simp [odds_Learn.j0])
  | succ kj3 =>
   have H := HA.out; clear HA
   simp only [odds_Learn.j0] at H
   by_cases c6 : x14_3 = true
   ·subst c6
    have H1 : (some (([] : List (S71)), 1)) = some (r1, r2) := by rw [if_pos rfl] at H; exact H
    clear H; have H := H1; clear H1
    simp only [Option.some.injEq, Prod.mk.injEq] at H
    obtain ⟨rfl, rfl⟩ := H
    go_wp2
    go_ret2
    exact ⟨_, by first | rfl | (simp [errW_none, errW_some] <;> rfl) | (simp [*, errW_none, errW_some] <;> rfl), by first | exact Kd.R_nil _ _ _ _ _ | exact Kd.N_nil _ _ _ _ _ | exact Kd.V_nil _ _ _ _ _ | exact Kd.Q_nil _ _ _ _ _ | exact Kd.S_nil _ _ _ _ _, sD HB⟩
   ·replace c6 := Bool.eq_false_iff.mpr c6
    subst c6
    have H1 : (if a2 = true then ((odds_Join.f kj3 l0 (([(⟨a1, 1, 0⟩ : S71)] : List (S71)))).bind fun bt105 => (some (bt105.1, bt105.2))) else ((odds_Join.f kj3 l0 (([(⟨a1, 0, 1⟩ : S71)] : List (S71)))).bind fun bt112 => (some (bt112.1, bt112.2)))) = some (r1, r2) := by rw [if_neg (show ¬ (false = true) by decide)] at H; exact H
    clear H; have H := H1; clear H1
    by_cases c7 : a2 = true
    ·subst c7
     have H1 : ((odds_Join.f kj3 l0 (([(⟨a1, 1, 0⟩ : S71)] : List (S71)))).bind fun bt105 => (some (bt105.1, bt105.2))) = some (r1, r2) := by rw [if_pos rfl] at H; exact H
     clear H; have H := H1; clear H1
     obtain ⟨y102, hy102⟩ : ∃ y_ : List (S71), y_ = (([(⟨a1, 1, 0⟩ : S71)] : List (S71))) := ⟨_, rfl⟩
     replace H : ((odds_Join.f kj3 l0 y102).bind fun bt105 => (some (bt105.1, bt105.2))) = some (r1, r2) := by first | (rw [hy102]; with_reducible exact H) | (have H2_ := (Option.bind_some _ _).symm.trans H; rw [hy102]; with_reducible exact H2_) | (have H2_ := (Option.bind_some _ _).symm.trans H; with_reducible exact H2_) | with_reducible exact H | (rw [hy102]; exact H) | exact H
     have Ny102 := aM hy102; clear hy102; replace H := Option.bind_eq_some_iff.mp H
     obtain ⟨⟨t105, t106⟩, A80, H⟩ := H
     replace H : (some (t105, t106)) = some (r1, r2) := H
     have A8 := aM A80; clear A80
     simp only [Option.some.injEq, Prod.mk.injEq] at H
     obtain ⟨rfl, rfl⟩ := H
     go_wp2_with (first | ((with_reducible refine gate_dst (N := 8) rfl ?_); refine bE (N := 8) (cs := #[.int .i64 0, .int .i64 0, .int .i64 0]) (t := 71) ?_; intro gb101 hg w9 hbox hb; have BK101 := aM (hbox); have GW101 := gE hg HB; have GE101 := gE hg HB; replace HB := sB HB hb; clear hb hbox hg; obtain ⟨hcz10_0, hcz10_1, hcz10_2, hfz10_0, hfz10_1, hfz10_2⟩ := cZ3 BK101) | ((with_reducible refine gate_dst (N := 28) rfl ?_); refine Kd.R_lit k71 _ 71 ?hg (N := 28) ?hd (xs := ([(⟨a1, 1, 0⟩ : S71)] : List (S71))) (inner := [.int .i64 a1, .int .i64 1, .int .i64 0]) (ok := fun _ => True) (okp := fun _ => True) ?hr ?hp (fun _ hk => hk) trivial (Below.refl _ _) (Nat.le_refl _) (by simp) ?_; (case hd => rfl); (case hg => rfl); (case hr => first | (go_simp; done) | (go_simp; rfl)); (case hp => exact (Reps.c3 (show Kd.M k71 _ _ _ (⟨a1, 1, 0⟩ : S71) [.int .i64 a1, .int .i64 1, .int .i64 0] from (k71_mkM _ _ _ (⟨a1, 1, 0⟩ : S71) )) (Reps.none _ _))); intro v103 w11 ho12 hb hg_ hnew_; clear hg_ hnew_; (first | rw [← Ny102.out] at ho12 | (simp only [Int.reduceToNat] at ho12; rw [← Ny102.out] at ho12)); have HO104 := aM (Kd.R_lower (Kd.R_newB ho12 (g := gb101) (o := .cells #[.int .i64 a1, .int .i64 1, .int .i64 0] 71 (0, 0)) (by refine bM ?_; refine blk_put (cs := #[.int .i64 a1, .int .i64 0, .int .i64 0]) ?_ 1 _ rfl; refine bM ?_; refine blk_put (cs := #[.int .i64 a1, .int .i64 0, .int .i64 0]) ?_ 2 _ rfl; refine bM ?_; refine blk_put (cs := #[.int .i64 a1, .int .i64 0, .int .i64 0]) ?_ 1 _ rfl; refine bM ?_; refine blk_put (cs := #[.int .i64 0, .int .i64 0, .int .i64 0]) ?_ 0 _ rfl; exact bD BK101)) (below_size (sD HB))); replace BK101 := aM (blk_below (g := gb101) (o := .cells #[.int .i64 a1, .int .i64 1, .int .i64 0] 71 (0, 0)) (by refine bM ?_; refine blk_put (cs := #[.int .i64 a1, .int .i64 0, .int .i64 0]) ?_ 1 _ rfl; refine bM ?_; refine blk_put (cs := #[.int .i64 a1, .int .i64 0, .int .i64 0]) ?_ 2 _ rfl; refine bM ?_; refine blk_put (cs := #[.int .i64 a1, .int .i64 0, .int .i64 0]) ?_ 1 _ rfl; refine bM ?_; refine blk_put (cs := #[.int .i64 0, .int .i64 0, .int .i64 0]) ?_ 0 _ rfl; exact bD BK101) hb); replace HB := sB HB hb; clear hb ho12; obtain ⟨Ao13, co13, eo13⟩ := Kd.R_slice HO104.out; subst eo13) | ((with_reducible refine gate_callee (f := 53) rfl ?_); refine gL (some 29) Try.func53 #[.slice A0 l0.length c0, .slice Ao13 y102.length co13] ?_; (with_reducible refine (odds_Join.calls kj3 _ _ l0 _ _ y102 t105 t106 _ ?side1 ?side2 ?side3 ?side4 A8.out).mono ?_); (case side1 => exact cC HR0 HB); (case side2 => exact HC0.out); (case side3 => exact rC HO104); (case side4 => exact rN HO104); rintro e w14 ⟨v107, rfl, ho0, hb⟩; refine ⟨_, rfl, ?_⟩; have HO108 := aM (Kd.R_lower (Kd.R_newB (Kd.R_new' ho0 (Kd.R_lt (rD HO104))) (g := gb101) (o := .cells #[.int .i64 a1, .int .i64 1, .int .i64 0] 71 (0, 0)) (bD BK101)) (below_size (sD HB))); replace HO104 := aM (Kd.R_elder' (rD HO104) (Kd.R_base ho0) hb); replace BK101 := bB BK101 hb; replace HB := sB HB hb; (try clear hb); (try clear ho0)))
     go_ret2
     exact ⟨_, by first | rfl | (simp [errW_none, errW_some] <;> rfl) | (simp [*, errW_none, errW_some] <;> rfl), by (with_reducible repeat (first | apply Kd.R_alloc | apply Kd.R_drewN | apply Kd.R_drew)); exact Kd.R_mono HO108.out (fun _ hk => trivial), sD HB⟩
    ·replace c7 := Bool.eq_false_iff.mpr c7
     subst c7
     have H1 : ((odds_Join.f kj3 l0 (([(⟨a1, 0, 1⟩ : S71)] : List (S71)))).bind fun bt112 => (some (bt112.1, bt112.2))) = some (r1, r2) := by rw [if_neg (show ¬ (false = true) by decide)] at H; exact H
     clear H; have H := H1; clear H1
     obtain ⟨y109, hy109⟩ : ∃ y_ : List (S71), y_ = (([(⟨a1, 0, 1⟩ : S71)] : List (S71))) := ⟨_, rfl⟩
     replace H : ((odds_Join.f kj3 l0 y109).bind fun bt112 => (some (bt112.1, bt112.2))) = some (r1, r2) := by first | (rw [hy109]; with_reducible exact H) | (have H2_ := (Option.bind_some _ _).symm.trans H; rw [hy109]; with_reducible exact H2_) | (have H2_ := (Option.bind_some _ _).symm.trans H; with_reducible exact H2_) | with_reducible exact H | (rw [hy109]; exact H) | exact H
     have Ny109 := aM hy109; clear hy109; replace H := Option.bind_eq_some_iff.mp H
     obtain ⟨⟨t112, t113⟩, A150, H⟩ := H
     replace H : (some (t112, t113)) = some (r1, r2) := H
     have A15 := aM A150; clear A150
     simp only [Option.some.injEq, Prod.mk.injEq] at H
     obtain ⟨rfl, rfl⟩ := H
     go_wp2_with (first | ((with_reducible refine gate_dst (N := 8) rfl ?_); refine bE (N := 8) (cs := #[.int .i64 0, .int .i64 0, .int .i64 0]) (t := 71) ?_; intro gb101 hg w16 hbox hb; have BK101 := aM (hbox); have GW101 := gE hg HB; have GE101 := gE hg HB; replace HB := sB HB hb; clear hb hbox hg; obtain ⟨hcz17_0, hcz17_1, hcz17_2, hfz17_0, hfz17_1, hfz17_2⟩ := cZ3 BK101) | ((with_reducible refine gate_dst (N := 28) rfl ?_); refine Kd.R_lit k71 _ 71 ?hg (N := 28) ?hd (xs := ([(⟨a1, 0, 1⟩ : S71)] : List (S71))) (inner := [.int .i64 a1, .int .i64 0, .int .i64 1]) (ok := fun _ => True) (okp := fun _ => True) ?hr ?hp (fun _ hk => hk) trivial (Below.refl _ _) (Nat.le_refl _) (by simp) ?_; (case hd => rfl); (case hg => rfl); (case hr => first | (go_simp; done) | (go_simp; rfl)); (case hp => exact (Reps.c3 (show Kd.M k71 _ _ _ (⟨a1, 0, 1⟩ : S71) [.int .i64 a1, .int .i64 0, .int .i64 1] from (k71_mkM _ _ _ (⟨a1, 0, 1⟩ : S71) )) (Reps.none _ _))); intro v110 w18 ho19 hb hg_ hnew_; clear hg_ hnew_; (first | rw [← Ny109.out] at ho19 | (simp only [Int.reduceToNat] at ho19; rw [← Ny109.out] at ho19)); have HO111 := aM (Kd.R_lower (Kd.R_newB ho19 (g := gb101) (o := .cells #[.int .i64 a1, .int .i64 0, .int .i64 1] 71 (0, 0)) (by refine bM ?_; refine blk_put (cs := #[.int .i64 a1, .int .i64 0, .int .i64 0]) ?_ 2 _ rfl; refine bM ?_; refine blk_put (cs := #[.int .i64 a1, .int .i64 0, .int .i64 0]) ?_ 2 _ rfl; refine bM ?_; refine blk_put (cs := #[.int .i64 a1, .int .i64 0, .int .i64 0]) ?_ 1 _ rfl; refine bM ?_; refine blk_put (cs := #[.int .i64 0, .int .i64 0, .int .i64 0]) ?_ 0 _ rfl; exact bD BK101)) (below_size (sD HB))); replace BK101 := aM (blk_below (g := gb101) (o := .cells #[.int .i64 a1, .int .i64 0, .int .i64 1] 71 (0, 0)) (by refine bM ?_; refine blk_put (cs := #[.int .i64 a1, .int .i64 0, .int .i64 0]) ?_ 2 _ rfl; refine bM ?_; refine blk_put (cs := #[.int .i64 a1, .int .i64 0, .int .i64 0]) ?_ 2 _ rfl; refine bM ?_; refine blk_put (cs := #[.int .i64 a1, .int .i64 0, .int .i64 0]) ?_ 1 _ rfl; refine bM ?_; refine blk_put (cs := #[.int .i64 0, .int .i64 0, .int .i64 0]) ?_ 0 _ rfl; exact bD BK101) hb); replace HB := sB HB hb; clear hb ho19; obtain ⟨Ao20, co20, eo20⟩ := Kd.R_slice HO111.out; subst eo20) | ((with_reducible refine gate_callee (f := 53) rfl ?_); refine gL (some 29) Try.func53 #[.slice A0 l0.length c0, .slice Ao20 y109.length co20] ?_; (with_reducible refine (odds_Join.calls kj3 _ _ l0 _ _ y109 t112 t113 _ ?side1 ?side2 ?side3 ?side4 A15.out).mono ?_); (case side1 => exact cC HR0 HB); (case side2 => exact HC0.out); (case side3 => exact rC HO111); (case side4 => exact rN HO111); rintro e w21 ⟨v114, rfl, ho0, hb⟩; refine ⟨_, rfl, ?_⟩; have HO115 := aM (Kd.R_lower (Kd.R_newB (Kd.R_new' ho0 (Kd.R_lt (rD HO111))) (g := gb101) (o := .cells #[.int .i64 a1, .int .i64 0, .int .i64 1] 71 (0, 0)) (bD BK101)) (below_size (sD HB))); replace HO111 := aM (Kd.R_elder' (rD HO111) (Kd.R_base ho0) hb); replace BK101 := bB BK101 hb; replace HB := sB HB hb; (try clear hb); (try clear ho0)))
     go_ret2
     exact ⟨_, by first | rfl | (simp [errW_none, errW_some] <;> rfl) | (simp [*, errW_none, errW_some] <;> rfl), by (with_reducible repeat (first | apply Kd.R_alloc | apply Kd.R_drewN | apply Kd.R_drew)); exact Kd.R_mono HO115.out (fun _ hk => trivial), sD HB⟩
end Go.Proofs.Ytohnkcmbogcfhaa.P
namespace Go.Proofs.Ytohnkcmbogcfhaa.P
open Go.Proofs.YtohnkcmbogcfhaaH Go.RowKit Go.Proofs.YtohnkcmbogcfhaaW.PrintWords Go.Proofs.YtohnkcmbogcfhaaW.PrintLast Go.Proofs.YtohnkcmbogcfhaaW.PrintMore
attribute [local go_sem] max2_int min2_int max_two min_two max_three min_three max_four min_four   -- for this text's walks alone
attribute [local go_sem] Go.Proofs.YtohnkcmbogcfhaaH.cell_set_map
def parolelaw37_learned.f (k : Nat) (l0 : List (S71)) (a1 : Int) (a2 : Bool) : Option ((List (S71)) × Int) := (odds_Learn.f k l0 a1 a2).bind fun bt102 => (some (bt102.1, bt102.2))
set_option maxHeartbeats 40000000 in
set_option maxRecDepth 100000 in
theorem parolelaw37_learned.calls (k : Nat) (A0 : Option Addr) (c0 : Nat) (l0 : List (S71)) (a1 : Int) (a2 : Bool) (r1 : List (S71)) (r2 : Int) (w : World) (hr0 : Kd.C k71 w A0 l0.length l0) (hc0 : l0.length ≤ c0) (h : parolelaw37_learned.f k l0 a1 a2 = some (r1, r2)) :
  Calls Try.prog 26 #[.slice A0 l0.length c0, .int .i64 a1, .bool a2] w fun e w' => ∃ v0_ : Value, e = .returned (.agg #[v0_, .int .i64 r2]) ∧ Kd.R k71 71 w' w.heap.size (fun _ => True) v0_ r1 ∧ Below w.heap.size w w' := by
 have hu32 := Try.underlying32; have HR0 := aM hr0; have HC0 := aM hc0; clear hr0 hc0; have HB := aM (Below.refl w.heap.size w)
 have H : ((odds_Learn.f k l0 a1 a2).bind fun bt102 => (some (bt102.1, bt102.2))) = some (r1, r2) := h
 clear h; replace H := Option.bind_eq_some_iff.mp H
 obtain ⟨⟨t102, t103⟩, A40, H⟩ := H
 replace H : (some (t102, t103)) = some (r1, r2) := H
 have A4 := aM A40; clear A40
 simp only [Option.some.injEq, Prod.mk.injEq] at H
 obtain ⟨rfl, rfl⟩ := H
 go_enter Try.func26, Try.ntmps26
 go_wp2_with (first | ((with_reducible refine gate_dst (N := 6) rfl ?_); refine bE (N := 6) (cs := #[.slice none 0 0, .int .i64 0]) (t := 32) ?_; intro gb101 hg w5 hbox hb; have BK101 := aM (hbox); have GW101 := gE hg HB; have GE101 := gE hg HB; replace HB := sB HB hb; clear hb hbox hg) | ((with_reducible refine gate_callee (f := 57) rfl ?_); refine gL (some 13) Try.func57 #[.slice A0 l0.length c0, .int .i64 a1, .bool a2] ?_; (with_reducible refine (odds_Learn.calls k _ _ l0 a1 a2 t102 t103 _ ?side1 ?side2 A4.out).mono ?_); (case side1 => exact cC HR0 HB); (case side2 => exact HC0.out); rintro e w6 ⟨v104, rfl, ho0, hb⟩; refine ⟨_, rfl, ?_⟩; have HO105 := rL (n := 0) ho0 HB; replace BK101 := bB BK101 hb; replace HB := sB HB hb; (try clear hb); (try clear ho0); obtain ⟨Ao7, co7, eo7⟩ := Kd.R_slice HO105.out; subst eo7; obtain ⟨hcz8_0, hcz8_1, hfz8_0, hfz8_1⟩ := cZ2 BK101))
 refine bodyPost_ret (results_cell_row rfl _ _ gb101 32 #[.slice Ao7 t102.length co7, .int .i64 t103] (0, 0) _ rfl (by refine bM ?_; refine blk_put (cs := #[.slice Ao7 t102.length co7, .int .i64 0]) ?_ 1 _ rfl; refine bM ?_; refine blk_put (cs := #[.slice none 0 0, .int .i64 0]) ?_ 0 _ rfl; exact bD BK101) Try.underlying32 rfl (by kernel_rfl)) rfl ?_
 exact ⟨_, by first | rfl | (simp [errW_none, errW_some] <;> rfl) | (simp [*, errW_none, errW_some] <;> rfl), by (with_reducible repeat (first | apply Kd.R_alloc | apply Kd.R_drewN | apply Kd.R_drew)); exact Kd.R_mono (Kd.R_far (p := ⟨gb101, 1, none⟩) (Kd.R_far (p := ⟨gb101, 0, none⟩) (Kd.R_types HO105.out BK101.out (by decide)) (fun _ hk => hk.2) (.slice Ao7 t102.length co7)) (fun _ hk => hk.2) (.int .i64 t103)) (fun _ hk => trivial), sD HB⟩
end Go.Proofs.Ytohnkcmbogcfhaa.P
namespace Go.Proofs.Ytohnkcmbogcfhaa.P
open Go.Proofs.YtohnkcmbogcfhaaH Go.RowKit Go.Proofs.YtohnkcmbogcfhaaW.PrintWords Go.Proofs.YtohnkcmbogcfhaaW.PrintLast Go.Proofs.YtohnkcmbogcfhaaW.PrintMore
attribute [local go_sem] max2_int min2_int max_two min_two max_three min_three max_four min_four   -- for this text's walks alone
attribute [local go_sem] Go.Proofs.YtohnkcmbogcfhaaH.cell_set_map
attribute [local go_sem high] eqA35
def parolelaw37_examples0.f (k : Nat)  : Option (Bool) := (some (([(⟨4, 3, 1⟩ : S71)] : List (S71)) : List (S71))).bind fun y101 => ((parolelaw37_learned.f k y101 4 false).bind fun bt104 => ((parolelaw37_loss.f k y101 4 9).bind fun bt109 => ((odds_Right.f k y101).bind fun t113 => (if t113 = 0 then ((odds_Right.f k (([(⟨15, 0, 0⟩ : S71)] : List (S71)))).bind fun t117 => (if t117 = 1 then ((odds_Of.f k y101 4).bind fun bt118 => (if (bt118.1 == 2 && (bt118.2 == 3)) = true then (if bt104.2 = 0 then ((odds_Of.f k bt104.1 4).bind fun bt120 => (if (bt120.1 == 4 && (bt120.2 == 7)) = true then (if bt109.2.2 = 0 then (if (bt109.1 == 6 && (bt109.2.1 == 1)) = true then ((odds_Of.f k ([] : List (S71)) 4).bind fun bt122 => (some (bt122.1 == 1 && (bt122.2 == 2)))) else (some false)) else (some false)) else (some false))) else (some false)) else (some false))) else (some false))) else (some false)))))
set_option maxHeartbeats 40000000 in
set_option maxRecDepth 100000 in
theorem parolelaw37_examples0.calls (k : Nat)  (r : Bool) (w : World) (hT : r = true) (h : parolelaw37_examples0.f k  = some r) :
  Calls Try.prog 15 #[] w fun e w' => e = .returned (.bool r) ∧ Below w.heap.size w w' := by
 have hu71 := Try.underlying71; have hu32 := Try.underlying32; have hu38 := Try.underlying38; have hu35 := Try.underlying35; have HB := aM (Below.refl w.heap.size w); have HT := aM hT; clear hT
 have H : ((some (([(⟨4, 3, 1⟩ : S71)] : List (S71)) : List (S71))).bind fun y101 => ((parolelaw37_learned.f k y101 4 false).bind fun bt104 => ((parolelaw37_loss.f k y101 4 9).bind fun bt109 => ((odds_Right.f k y101).bind fun t113 => (if t113 = 0 then ((odds_Right.f k (([(⟨15, 0, 0⟩ : S71)] : List (S71)))).bind fun t117 => (if t117 = 1 then ((odds_Of.f k y101 4).bind fun bt118 => (if (bt118.1 == 2 && (bt118.2 == 3)) = true then (if bt104.2 = 0 then ((odds_Of.f k bt104.1 4).bind fun bt120 => (if (bt120.1 == 4 && (bt120.2 == 7)) = true then (if bt109.2.2 = 0 then (if (bt109.1 == 6 && (bt109.2.1 == 1)) = true then ((odds_Of.f k ([] : List (S71)) 4).bind fun bt122 => (some (bt122.1 == 1 && (bt122.2 == 2)))) else (some false)) else (some false)) else (some false))) else (some false)) else (some false))) else (some false))) else (some false)))))) = some r := h
 clear h
 obtain ⟨y101, hy101⟩ : ∃ y_ : List (S71), y_ = (([(⟨4, 3, 1⟩ : S71)] : List (S71))) := ⟨_, rfl⟩
 replace H : ((parolelaw37_learned.f k y101 4 false).bind fun bt104 => ((parolelaw37_loss.f k y101 4 9).bind fun bt109 => ((odds_Right.f k y101).bind fun t113 => (if t113 = 0 then ((odds_Right.f k (([(⟨15, 0, 0⟩ : S71)] : List (S71)))).bind fun t117 => (if t117 = 1 then ((odds_Of.f k y101 4).bind fun bt118 => (if (bt118.1 == 2 && (bt118.2 == 3)) = true then (if bt104.2 = 0 then ((odds_Of.f k bt104.1 4).bind fun bt120 => (if (bt120.1 == 4 && (bt120.2 == 7)) = true then (if bt109.2.2 = 0 then (if (bt109.1 == 6 && (bt109.2.1 == 1)) = true then ((odds_Of.f k ([] : List (S71)) 4).bind fun bt122 => (some (bt122.1 == 1 && (bt122.2 == 2)))) else (some false)) else (some false)) else (some false))) else (some false)) else (some false))) else (some false))) else (some false))))) = some r := by first | (rw [hy101]; with_reducible exact H) | (have H2_ := (Option.bind_some _ _).symm.trans H; rw [hy101]; with_reducible exact H2_) | (have H2_ := (Option.bind_some _ _).symm.trans H; with_reducible exact H2_) | with_reducible exact H | (rw [hy101]; exact H) | exact H
 have Ny101 := aM hy101; clear hy101; replace H := Option.bind_eq_some_iff.mp H
 obtain ⟨⟨t104, t107⟩, A10, H⟩ := H
 replace H : ((parolelaw37_loss.f k y101 4 9).bind fun bt109 => ((odds_Right.f k y101).bind fun t113 => (if t113 = 0 then ((odds_Right.f k (([(⟨15, 0, 0⟩ : S71)] : List (S71)))).bind fun t117 => (if t117 = 1 then ((odds_Of.f k y101 4).bind fun bt118 => (if (bt118.1 == 2 && (bt118.2 == 3)) = true then (if t107 = 0 then ((odds_Of.f k t104 4).bind fun bt120 => (if (bt120.1 == 4 && (bt120.2 == 7)) = true then (if bt109.2.2 = 0 then (if (bt109.1 == 6 && (bt109.2.1 == 1)) = true then ((odds_Of.f k ([] : List (S71)) 4).bind fun bt122 => (some (bt122.1 == 1 && (bt122.2 == 2)))) else (some false)) else (some false)) else (some false))) else (some false)) else (some false))) else (some false))) else (some false)))) = some r := H
 have A1 := aM A10; clear A10; replace H := Option.bind_eq_some_iff.mp H
 obtain ⟨⟨t109, t110, t111⟩, A20, H⟩ := H
 replace H : ((odds_Right.f k y101).bind fun t113 => (if t113 = 0 then ((odds_Right.f k (([(⟨15, 0, 0⟩ : S71)] : List (S71)))).bind fun t117 => (if t117 = 1 then ((odds_Of.f k y101 4).bind fun bt118 => (if (bt118.1 == 2 && (bt118.2 == 3)) = true then (if t107 = 0 then ((odds_Of.f k t104 4).bind fun bt120 => (if (bt120.1 == 4 && (bt120.2 == 7)) = true then (if t111 = 0 then (if (t109 == 6 && (t110 == 1)) = true then ((odds_Of.f k ([] : List (S71)) 4).bind fun bt122 => (some (bt122.1 == 1 && (bt122.2 == 2)))) else (some false)) else (some false)) else (some false))) else (some false)) else (some false))) else (some false))) else (some false))) = some r := H
 have A2 := aM A20; clear A20; replace H := Option.bind_eq_some_iff.mp H
 obtain ⟨t113, A30, H⟩ := H
 replace H : (if t113 = 0 then ((odds_Right.f k (([(⟨15, 0, 0⟩ : S71)] : List (S71)))).bind fun t117 => (if t117 = 1 then ((odds_Of.f k y101 4).bind fun bt118 => (if (bt118.1 == 2 && (bt118.2 == 3)) = true then (if t107 = 0 then ((odds_Of.f k t104 4).bind fun bt120 => (if (bt120.1 == 4 && (bt120.2 == 7)) = true then (if t111 = 0 then (if (t109 == 6 && (t110 == 1)) = true then ((odds_Of.f k ([] : List (S71)) 4).bind fun bt122 => (some (bt122.1 == 1 && (bt122.2 == 2)))) else (some false)) else (some false)) else (some false))) else (some false)) else (some false))) else (some false))) else (some false)) = some r := H
 have A3 := aM A30; clear A30
 by_cases c4 : t113 = 0
 rotate_left
 ·rw [if_neg c4] at H
  have c4b0 : (t113 == 0) = false := beq_eq_false_iff_ne.mpr c4
  have c4b1 : (t113 != 0) = true := bne_iff_ne.mpr c4
  exact absurd ((Option.some.inj H).trans HT.out) (by decide)
 rw [if_pos c4] at H
 have c4b0 : (t113 == 0) = true := beq_iff_eq.mpr c4
 have c4b1 : (t113 != 0) = false := bne_eq_false_iff_eq.mpr c4
 clear c4
 obtain ⟨y114, hy114⟩ : ∃ y_ : List (S71), y_ = (([(⟨15, 0, 0⟩ : S71)] : List (S71))) := ⟨_, rfl⟩
 replace H : ((odds_Right.f k y114).bind fun t117 => (if t117 = 1 then ((odds_Of.f k y101 4).bind fun bt118 => (if (bt118.1 == 2 && (bt118.2 == 3)) = true then (if t107 = 0 then ((odds_Of.f k t104 4).bind fun bt120 => (if (bt120.1 == 4 && (bt120.2 == 7)) = true then (if t111 = 0 then (if (t109 == 6 && (t110 == 1)) = true then ((odds_Of.f k ([] : List (S71)) 4).bind fun bt122 => (some (bt122.1 == 1 && (bt122.2 == 2)))) else (some false)) else (some false)) else (some false))) else (some false)) else (some false))) else (some false))) = some r := by first | (rw [hy114]; with_reducible exact H) | (have H2_ := (Option.bind_some _ _).symm.trans H; rw [hy114]; with_reducible exact H2_) | (have H2_ := (Option.bind_some _ _).symm.trans H; with_reducible exact H2_) | with_reducible exact H | (rw [hy114]; exact H) | exact H
 have Ny114 := aM hy114; clear hy114; replace H := Option.bind_eq_some_iff.mp H
 obtain ⟨t117, A50, H⟩ := H
 replace H : (if t117 = 1 then ((odds_Of.f k y101 4).bind fun bt118 => (if (bt118.1 == 2 && (bt118.2 == 3)) = true then (if t107 = 0 then ((odds_Of.f k t104 4).bind fun bt120 => (if (bt120.1 == 4 && (bt120.2 == 7)) = true then (if t111 = 0 then (if (t109 == 6 && (t110 == 1)) = true then ((odds_Of.f k ([] : List (S71)) 4).bind fun bt122 => (some (bt122.1 == 1 && (bt122.2 == 2)))) else (some false)) else (some false)) else (some false))) else (some false)) else (some false))) else (some false)) = some r := H
 have A5 := aM A50; clear A50
 by_cases c6 : t117 = 1
 rotate_left
 ·rw [if_neg c6] at H
  have c6b0 : (t117 == 1) = false := beq_eq_false_iff_ne.mpr c6
  have c6b1 : (t117 != 1) = true := bne_iff_ne.mpr c6
  exact absurd ((Option.some.inj H).trans HT.out) (by decide)
 rw [if_pos c6] at H
 have c6b0 : (t117 == 1) = true := beq_iff_eq.mpr c6
 have c6b1 : (t117 != 1) = false := bne_eq_false_iff_eq.mpr c6
 clear c6; replace H := Option.bind_eq_some_iff.mp H
 obtain ⟨⟨t118, t119⟩, A70, H⟩ := H
 replace H : (if (t118 == 2 && (t119 == 3)) = true then (if t107 = 0 then ((odds_Of.f k t104 4).bind fun bt120 => (if (bt120.1 == 4 && (bt120.2 == 7)) = true then (if t111 = 0 then (if (t109 == 6 && (t110 == 1)) = true then ((odds_Of.f k ([] : List (S71)) 4).bind fun bt122 => (some (bt122.1 == 1 && (bt122.2 == 2)))) else (some false)) else (some false)) else (some false))) else (some false)) else (some false)) = some r := H
 have A7 := aM A70; clear A70
 by_cases c8 : (t118 == 2 && (t119 == 3)) = true
 rotate_left
 ·rw [if_neg c8] at H
  have c8b0 : (t118 == 2 && (t119 == 3)) = false := by simpa using c8
  (try (have c8b1 : decide (t118 = 2 && (t119 == 3)) = false := by simpa using c8))
  (try (have c8b2 : (t118 == 2 && (t119 == 3)) = false := by simpa using c8))
  (try (have c8b3 : ¬ (t118 = 2 && (t119 == 3)) := by simpa using c8))
  clear c8
  exact absurd ((Option.some.inj H).trans HT.out) (by decide)
 rw [if_pos c8] at H
 have c8b0 : (t118 == 2 && (t119 == 3)) = true := c8
 (try (have c8b1 : decide (t118 = 2 && (t119 == 3)) = true := by simpa using c8))
 (try (have c8b2 : (t118 == 2 && (t119 == 3)) = true := by simpa using c8))
 clear c8
 by_cases c9 : t107 = 0
 rotate_left
 ·rw [if_neg c9] at H
  have c9b0 : (t107 == 0) = false := beq_eq_false_iff_ne.mpr c9
  have c9b1 : (t107 != 0) = true := bne_iff_ne.mpr c9
  exact absurd ((Option.some.inj H).trans HT.out) (by decide)
 rw [if_pos c9] at H
 have c9b0 : (t107 == 0) = true := beq_iff_eq.mpr c9
 have c9b1 : (t107 != 0) = false := bne_eq_false_iff_eq.mpr c9
 clear c9; replace H := Option.bind_eq_some_iff.mp H
 obtain ⟨⟨t120, t121⟩, A100, H⟩ := H
 replace H : (if (t120 == 4 && (t121 == 7)) = true then (if t111 = 0 then (if (t109 == 6 && (t110 == 1)) = true then ((odds_Of.f k ([] : List (S71)) 4).bind fun bt122 => (some (bt122.1 == 1 && (bt122.2 == 2)))) else (some false)) else (some false)) else (some false)) = some r := H
 have A10 := aM A100; clear A100
 by_cases c11 : (t120 == 4 && (t121 == 7)) = true
 rotate_left
 ·rw [if_neg c11] at H
  have c11b0 : (t120 == 4 && (t121 == 7)) = false := by simpa using c11
  (try (have c11b1 : decide (t120 = 4 && (t121 == 7)) = false := by simpa using c11))
  (try (have c11b2 : (t120 == 4 && (t121 == 7)) = false := by simpa using c11))
  (try (have c11b3 : ¬ (t120 = 4 && (t121 == 7)) := by simpa using c11))
  clear c11
  exact absurd ((Option.some.inj H).trans HT.out) (by decide)
 rw [if_pos c11] at H
 have c11b0 : (t120 == 4 && (t121 == 7)) = true := c11
 (try (have c11b1 : decide (t120 = 4 && (t121 == 7)) = true := by simpa using c11))
 (try (have c11b2 : (t120 == 4 && (t121 == 7)) = true := by simpa using c11))
 clear c11
 by_cases c12 : t111 = 0
 rotate_left
 ·rw [if_neg c12] at H
  have c12b0 : (t111 == 0) = false := beq_eq_false_iff_ne.mpr c12
  have c12b1 : (t111 != 0) = true := bne_iff_ne.mpr c12
  exact absurd ((Option.some.inj H).trans HT.out) (by decide)
 rw [if_pos c12] at H
 have c12b0 : (t111 == 0) = true := beq_iff_eq.mpr c12
 have c12b1 : (t111 != 0) = false := bne_eq_false_iff_eq.mpr c12
 clear c12
 by_cases c13 : (t109 == 6 && (t110 == 1)) = true
 rotate_left
 ·rw [if_neg c13] at H
  have c13b0 : (t109 == 6 && (t110 == 1)) = false := by simpa using c13
  (try (have c13b1 : decide (t109 = 6 && (t110 == 1)) = false := by simpa using c13))
  (try (have c13b2 : (t109 == 6 && (t110 == 1)) = false := by simpa using c13))
  (try (have c13b3 : ¬ (t109 = 6 && (t110 == 1)) := by simpa using c13))
  clear c13
  exact absurd ((Option.some.inj H).trans HT.out) (by decide)
 rw [if_pos c13] at H
 have c13b0 : (t109 == 6 && (t110 == 1)) = true := c13
 (try (have c13b1 : decide (t109 = 6 && (t110 == 1)) = true := by simpa using c13))
 (try (have c13b2 : (t109 == 6 && (t110 == 1)) = true := by simpa using c13))
 clear c13; replace H := Option.bind_eq_some_iff.mp H
 obtain ⟨⟨t122, t123⟩, A140, H⟩ := H
 replace H : (some (t122 == 1 && (t123 == 2))) = some r := H
 have A14 := aM A140; clear A140
 obtain rfl := Option.some.inj H
 go_enter Try.func15, Try.ntmps15
 go_wp2_with (first | ((with_reducible refine gate_dst (N := 5) rfl ?_); (try (refine gate_guard (by rfl) ?_; dsimp only)); refine Kd.R_lit k71 _ 71 ?hg (N := 5) ?hd (xs := ([(⟨4, 3, 1⟩ : S71)] : List (S71))) (inner := [.int .i64 4, .int .i64 3, .int .i64 1]) (ok := fun _ => True) (okp := fun _ => True) ?hr ?hp (fun _ hk => hk) trivial (Below.refl _ _) (Nat.le_refl _) (by simp) ?_; (case hd => rfl); (case hg => rfl); (case hr => first | (go_simp; done) | (go_simp; rfl)); (case hp => exact (Reps.c3 (show Kd.M k71 _ _ _ (⟨4, 3, 1⟩ : S71) [.int .i64 4, .int .i64 3, .int .i64 1] from (k71_mkM _ _ _ (⟨4, 3, 1⟩ : S71) )) (Reps.none _ _))); intro v102 w15 ho16 hb hg_ hnew_; clear hg_ hnew_; (first | rw [← Ny101.out] at ho16 | (simp only [Int.reduceToNat] at ho16; rw [← Ny101.out] at ho16)); have HO103 := rL (n := 0) ho16 HB; replace HB := sB HB hb; clear hb ho16; obtain ⟨Ao17, co17, eo17⟩ := Kd.R_slice HO103.out; subst eo17) | ((with_reducible refine gate_callee (f := 26) rfl ?_); refine gL (some 7) Try.func26 #[.slice Ao17 y101.length co17, .int .i64 4, .bool false] ?_; (with_reducible refine (parolelaw37_learned.calls k _ _ y101 4 false t104 t107 _ ?side1 ?side2 A1.out).mono ?_); (case side1 => exact rC HO103); (case side2 => exact rN HO103); rintro e w18 ⟨v105, rfl, ho0, hb⟩; refine ⟨_, rfl, ?_⟩; have HO106 := aM (Kd.R_lower (Kd.R_new' ho0 (Kd.R_lt (rD HO103))) (below_size (sD HB))); replace HO103 := aM (Kd.R_elder' (rD HO103) (Kd.R_base ho0) hb); replace HB := sB HB hb; (try clear hb); (try clear ho0)) | ((with_reducible refine gate_dst (N := 2) rfl ?_); (try (refine gate_guard (by rfl) ?_; dsimp only)); refine bE (N := 2) (cs := #[.slice none 0 0, .int .i64 0]) (t := 32) ?_; intro gb108 hg w19 hbox hb; have BK108 := aM (hbox); have GW108 := gE hg HB; have GE108 := gE hg HB; replace HO103 := rB HO103 hb; replace HO106 := rB HO106 hb; replace HB := sB HB hb; clear hb hbox hg; obtain ⟨Ao20, co20, eo20⟩ := Kd.R_slice HO106.out; subst eo20; obtain ⟨hcz21_0, hcz21_1, hfz21_0, hfz21_1⟩ := cZ2 BK108) | ((with_reducible refine gate_callee (f := 24) rfl ?_); refine gL (some 9) Try.func24 #[.slice Ao17 y101.length co17, .int .i64 4, .int .i64 9] ?_; (with_reducible refine (parolelaw37_loss.calls k _ _ y101 4 9 t109 t110 t111 _ ?side1 ?side2 A2.out).mono ?_); (case side1 => refine (Kd.R_reads' (e := 71) (base := w.heap.size) (ok := fun k_ => (True ∧ some k_ ≠ (.slice Ao20 t104.length co20 : Value).ownBlock)) (n := y101.length) (c := co17) ?_).2.2; exact (rD ⟨(Kd.R_mono (Kd.R_far (p := ⟨gb108, 1, none⟩) (Kd.R_far (p := ⟨gb108, 0, none⟩) (Kd.R_types HO103.out BK108.out (by decide)) (fun _ hk => hk.2) (.slice Ao20 t104.length co20)) (fun _ hk => hk.2) (.int .i64 t107)) (fun _ h_ => h_.1))⟩)); (case side2 => exact rN HO103); rintro e w22 ⟨rfl, hb⟩; refine ⟨_, rfl, ?_⟩; replace HO103 := aM (Kd.R_below (rD ⟨(Kd.R_mono (Kd.R_far (p := ⟨gb108, 1, none⟩) (Kd.R_far (p := ⟨gb108, 0, none⟩) (Kd.R_types HO103.out BK108.out (by decide)) (fun _ hk => hk.2) (.slice Ao20 t104.length co20)) (fun _ hk => hk.2) (.int .i64 t107)) (fun _ h_ => h_.1))⟩) hb); replace HO106 := aM (Kd.R_below (rD ⟨(Kd.R_mono (Kd.R_far (p := ⟨gb108, 1, none⟩) (Kd.R_far (p := ⟨gb108, 0, none⟩) (Kd.R_types HO106.out BK108.out (by decide)) (fun _ hk => hk.2) (.slice Ao20 t104.length co20)) (fun _ hk => hk.2) (.int .i64 t107)) (fun _ h_ => h_.1))⟩) hb); replace HB := sB HB hb; replace BK108 := aM (blk_below (g := gb108) (o := .cells #[.slice Ao20 t104.length co20, .int .i64 t107] 32 (0, 0)) (by refine bM ?_; refine blk_put (cs := #[.slice Ao20 t104.length co20, .int .i64 0]) ?_ 1 _ rfl; refine bM ?_; refine blk_put (cs := #[.slice none 0 0, .int .i64 0]) ?_ 0 _ rfl; exact bD BK108) hb); (try clear hb)) | ((with_reducible refine gate_dst (N := 3) rfl ?_); (try (refine gate_guard (by rfl) ?_; dsimp only)); refine bE (N := 3) (cs := #[.int .i64 0, .int .i64 0, .int .i64 0]) (t := 38) ?_; intro gb112 hg w23 hbox hb; have BK112 := aM (hbox); have GW112 := gE hg HB; have GE112 := gE hg HB; have NB108_112 := nL hg BK108; replace HO103 := rB HO103 hb; replace HO106 := rB HO106 hb; replace BK108 := bB BK108 hb; replace HB := sB HB hb; clear hb hbox hg; have hnb24 := NB108_112.out.symm; have hnc24 := NB108_112.out; obtain ⟨hcz25_0, hcz25_1, hcz25_2, hfz25_0, hfz25_1, hfz25_2⟩ := cZ3 BK112) | ((with_reducible refine gate_callee (f := 17) rfl ?_); refine gL (some 11) Try.func17 #[.slice Ao17 y101.length co17] ?_; (with_reducible refine (odds_Right.calls k _ _ y101 t113 _ ?side1 ?side2 A3.out).mono ?_); (case side1 => refine (Kd.R_reads' (e := 71) (base := w.heap.size) (ok := fun k_ => (True ∧ some k_ ≠ (.slice Ao20 t104.length co20 : Value).ownBlock)) (n := y101.length) (c := co17) ?_).2.2; exact (rD ⟨(Kd.R_mono (Kd.R_far (p := ⟨gb112, 2, none⟩) (Kd.R_far (p := ⟨gb112, 1, none⟩) (Kd.R_far (p := ⟨gb112, 0, none⟩) (Kd.R_types HO103.out BK112.out (by decide)) (fun _ hk => hk.2) (.int .i64 t109)) (fun _ hk => hk.2) (.int .i64 t110)) (fun _ hk => hk.2) (.int .i64 t111)) (fun _ h_ => h_.1))⟩)); (case side2 => exact rN HO103); rintro e w26 ⟨rfl, hb⟩; refine ⟨_, rfl, ?_⟩; replace HO103 := aM (Kd.R_below (rD ⟨(Kd.R_mono (Kd.R_far (p := ⟨gb112, 2, none⟩) (Kd.R_far (p := ⟨gb112, 1, none⟩) (Kd.R_far (p := ⟨gb112, 0, none⟩) (Kd.R_types HO103.out BK112.out (by decide)) (fun _ hk => hk.2) (.int .i64 t109)) (fun _ hk => hk.2) (.int .i64 t110)) (fun _ hk => hk.2) (.int .i64 t111)) (fun _ h_ => h_.1))⟩) hb); replace HO106 := aM (Kd.R_below (rD ⟨(Kd.R_mono (Kd.R_far (p := ⟨gb112, 2, none⟩) (Kd.R_far (p := ⟨gb112, 1, none⟩) (Kd.R_far (p := ⟨gb112, 0, none⟩) (Kd.R_types HO106.out BK112.out (by decide)) (fun _ hk => hk.2) (.int .i64 t109)) (fun _ hk => hk.2) (.int .i64 t110)) (fun _ hk => hk.2) (.int .i64 t111)) (fun _ h_ => h_.1))⟩) hb); replace BK108 := aM (blk_below (g := gb108) (o := .cells #[.slice Ao20 t104.length co20, .int .i64 t107] 32 (0, 0)) (bF BK108) hb); replace HB := sB HB hb; replace BK112 := aM (blk_below (g := gb112) (o := .cells #[.int .i64 t109, .int .i64 t110, .int .i64 t111] 38 (0, 0)) (by refine bM ?_; refine blk_put (cs := #[.int .i64 t109, .int .i64 t110, .int .i64 0]) ?_ 2 _ rfl; refine bM ?_; refine blk_put (cs := #[.int .i64 t109, .int .i64 0, .int .i64 0]) ?_ 1 _ rfl; refine bM ?_; refine blk_put (cs := #[.int .i64 0, .int .i64 0, .int .i64 0]) ?_ 0 _ rfl; exact bD BK112) hb); (try clear hb)) | ((with_reducible refine gate_dst (N := 15) rfl ?_); (try (refine gate_guard (by rfl) ?_; dsimp only)); refine Kd.R_lit k71 _ 71 ?hg (N := 15) ?hd (xs := ([(⟨15, 0, 0⟩ : S71)] : List (S71))) (inner := [.int .i64 15, .int .i64 0, .int .i64 0]) (ok := fun _ => True) (okp := fun _ => True) ?hr ?hp (fun _ hk => hk) trivial (Below.refl _ _) (Nat.le_refl _) (by simp) ?_; (case hd => rfl); (case hg => rfl); (case hr => first | (go_simp; done) | (go_simp; rfl)); (case hp => exact (Reps.c3 (show Kd.M k71 _ _ _ (⟨15, 0, 0⟩ : S71) [.int .i64 15, .int .i64 0, .int .i64 0] from (k71_mkM _ _ _ (⟨15, 0, 0⟩ : S71) )) (Reps.none _ _))); intro v115 w27 ho28 hb hg_ hnew_; clear hg_ hnew_; (first | rw [← Ny114.out] at ho28 | (simp only [Int.reduceToNat] at ho28; rw [← Ny114.out] at ho28)); have HO116 := aM (Kd.R_lower (Kd.R_new' (Kd.R_new' ho28 (Kd.R_lt (rD HO103))) (Kd.R_lt (rD HO106))) (below_size (sD HB))); replace HO103 := aM (Kd.R_elder' (rD HO103) (Kd.R_base ho28) hb); replace HO106 := aM (Kd.R_elder' (rD HO106) (Kd.R_base ho28) hb); replace BK108 := bB BK108 hb; replace BK112 := bB BK112 hb; replace HB := sB HB hb; clear hb ho28; obtain ⟨Ao29, co29, eo29⟩ := Kd.R_slice HO116.out; subst eo29) | (go_at_call 17; (with_reducible refine (odds_Right.calls k _ _ y114 t117 _ ?side1 ?side2 A5.out).mono ?_); (case side1 => exact rC HO116); (case side2 => exact rN HO116); rintro e w30 ⟨rfl, hb⟩; replace HO103 := rB HO103 hb; replace HO106 := rB HO106 hb; replace HO116 := rB HO116 hb; replace BK108 := bB BK108 hb; replace BK112 := bB BK112 hb; replace HB := sB HB hb; (try clear hb)) | (go_at_call 22; (with_reducible refine (odds_Of.calls k _ _ y101 4 t118 t119 _ ?side1 ?side2 A7.out).mono ?_); (case side1 => exact rC HO103); (case side2 => exact rN HO103); rintro e w31 ⟨rfl, hb⟩; replace HO103 := rB HO103 hb; replace HO106 := rB HO106 hb; replace HO116 := rB HO116 hb; replace BK108 := bB BK108 hb; replace BK112 := bB BK112 hb; replace HB := sB HB hb; (try clear hb); obtain ⟨hcz32_0, hcz32_1, hfz32_0, hfz32_1⟩ := cZ2 BK108) | (go_at_call 22; (with_reducible refine (odds_Of.calls k _ _ t104 4 t120 t121 _ ?side1 ?side2 A10.out).mono ?_); (case side1 => exact rC HO106); (case side2 => exact rN HO106); rintro e w33 ⟨rfl, hb⟩; replace HO103 := rB HO103 hb; replace HO106 := rB HO106 hb; replace HO116 := rB HO116 hb; replace BK108 := bB BK108 hb; replace BK112 := bB BK112 hb; replace HB := sB HB hb; (try clear hb); obtain ⟨hcz34_0, hcz34_1, hcz34_2, hfz34_0, hfz34_1, hfz34_2⟩ := cZ3 BK112) | (go_at_call 22; (refine (odds_Of.calls k _ _ ([] : List (S71)) 4 t122 t123 _ ?side1 ?side2 A14.out).mono ?_); (case side1 => exact Kd.C_nil _ _); (case side2 => exact Nat.le_refl _); rintro e w35 ⟨rfl, hb⟩; replace HO103 := rB HO103 hb; replace HO106 := rB HO106 hb; replace HO116 := rB HO116 hb; replace BK108 := bB BK108 hb; replace BK112 := bB BK112 hb; replace HB := sB HB hb; (try clear hb)))
 go_ret
 exact ⟨by first | rfl | (simp [errW_none, errW_some] <;> rfl) | (simp [*, errW_none, errW_some] <;> rfl), sD HB⟩
def parolelaw37_examples.f : Option (Bool) := some true
theorem parolelaw37_examples.calls (r : Bool) (w : World) (h : parolelaw37_examples.f = some r) :
  Calls Try.prog 15 #[] w fun e w' => e = .returned (.bool r) ∧ Below w.heap.size w w' := by
 obtain rfl := Option.some.inj h
 exact (parolelaw37_examples0.calls 200 true w rfl (by kernel_rfl))
end Go.Proofs.Ytohnkcmbogcfhaa.P

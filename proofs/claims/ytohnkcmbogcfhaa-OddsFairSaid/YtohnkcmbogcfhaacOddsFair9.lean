/- A part of the claim OddsFair: lemmas, printed functions with their contracts, plain laws. -/
import Derived.Test.YtohnkcmbogcfhaacOddsFair8
set_option linter.unusedVariables false
set_option linter.unusedSimpArgs false
namespace Go.Proofs.Ytohnkcmbogcfhaa.P
open Go.Proofs.YtohnkcmbogcfhaaH Go.RowKit Go.Proofs.YtohnkcmbogcfhaaW.PrintWords Go.Proofs.YtohnkcmbogcfhaaW.PrintLast Go.Proofs.YtohnkcmbogcfhaaW.PrintMore
attribute [local go_sem] max2_int min2_int max_two min_two max_three min_three max_four min_four   -- for this text's walks alone
attribute [local go_sem] Go.Proofs.YtohnkcmbogcfhaaH.cell_set_map
attribute [local go_sem high] eqA35
def parolelaw37_OddsFair.j0 : Nat → Bool → Int → Bool → Int → Int → List (S71) → Int → List (S71) → Int → Option (Bool)
 | 0, _, _, _, _, _, _, _, _, _ => none
 | k + 1, x5, x7, x53, x108000, x108001, x117000, x117001, x118000, x118001 => if x53 = true then (if x117001 = 2 then (some x5) else (if x118001 = 2 then (some x5) else (if x108001 > 1048576 then (some x5) else (some false)))) else ((rat_Sub.f k 1 1 x108000 x108001).bind fun bt118 => ((odds_Of.f k x117000 x7).bind fun bt122 => ((rat_Mul.f k x108000 x108001 bt122.1 bt122.2).bind fun bt124 => ((odds_Of.f k x118000 x7).bind fun bt128 => ((rat_Mul.f k bt118.1 bt118.2.1 bt128.1 bt128.2).bind fun bt130 => ((rat_Add.f k bt124.1 bt124.2.1 bt130.1 bt130.2.1).bind fun bt134 => (if bt118.2.2 = 0 then (if bt124.2.2 = 0 then (if bt130.2.2 = 0 then (if bt134.2.2 = 0 then (if (bt134.1 == x108000 && (bt134.2.1 == x108001)) = true then (some x5) else (some false)) else (some false)) else (some false)) else (some false)) else (some false))))))))
def parolelaw37_OddsFair.f (k : Nat) (l0 : List (S96)) (a1 : Int) : Option (Bool) := (parolelaw37_examples.f).bind fun t101 => (if t101 = true then (if (l0.length : Int) > 40 then (some t101) else ((paroleref37_Made.f k l0).bind fun t102 => ((odds_Of.f k t102 (wrap64 (1 + (wrap64 (Int.tmod a1 14))))).bind fun bt105 => ((parolelaw37_learned.f k t102 (wrap64 (1 + (wrap64 (Int.tmod a1 14)))) true).bind fun bt108 => ((parolelaw37_learned.f k t102 (wrap64 (1 + (wrap64 (Int.tmod a1 14)))) false).bind fun bt112 => (if bt108.2 = 0 then (if bt112.2 = 0 then (parolelaw37_OddsFair.j0 k t101 (wrap64 (1 + (wrap64 (Int.tmod a1 14)))) (decide (bt105.2 > 1048576)) bt105.1 bt105.2 bt108.1 bt108.2 bt112.1 bt112.2) else (parolelaw37_OddsFair.j0 k t101 (wrap64 (1 + (wrap64 (Int.tmod a1 14)))) true bt105.1 bt105.2 bt108.1 bt108.2 bt112.1 bt112.2)) else (parolelaw37_OddsFair.j0 k t101 (wrap64 (1 + (wrap64 (Int.tmod a1 14)))) true bt105.1 bt105.2 bt108.1 bt108.2 bt112.1 bt112.2))))))) else (some false))
theorem parolelaw37_OddsFair.mono_l : ∀ k, (∀ y0 y1 y2 y3 y4 y5 y6 y7 y8, LeO (parolelaw37_OddsFair.j0 k y0 y1 y2 y3 y4 y5 y6 y7 y8) (parolelaw37_OddsFair.j0 (k + 1) y0 y1 y2 y3 y4 y5 y6 y7 y8))
 | 0 => fun _ _ _ _ _ _ _ _ _ r h => by simp [parolelaw37_OddsFair.j0] at h
 | k + 1 => by
  have ih0 := parolelaw37_OddsFair.mono_l k
  ·intro y0 y1 y2 y3 y4 y5 y6 y7 y8
   unfold parolelaw37_OddsFair.j0
   repeat' first
   | (with_reducible exact ih0 _ _ _ _ _ _ _ _ _)
   | (with_reducible exact odds_Of.mono _ _ _)
   | (with_reducible exact parolelaw37_learned.mono _ _ _ _)
   | (with_reducible exact paroleref37_Made.mono _ _)
   | (with_reducible exact rat_Add.mono _ _ _ _ _)
   | (with_reducible exact rat_Mul.mono _ _ _ _ _)
   | (with_reducible exact rat_Sub.mono _ _ _ _ _)
   | (with_reducible exact LeO.refl _)
   | (with_reducible exact LeO.none _)
   | (with_reducible refine LeO.ite ?_ ?_)
   | (with_reducible refine LeO.bind ?_ (fun _ => ?_))
   | exact ih0 _ _ _ _ _ _ _ _ _
   | exact odds_Of.mono _ _ _
   | exact parolelaw37_learned.mono _ _ _ _
   | exact paroleref37_Made.mono _ _
   | exact rat_Add.mono _ _ _ _ _
   | exact rat_Mul.mono _ _ _ _ _
   | exact rat_Sub.mono _ _ _ _ _
   | exact LeO.none _
   | refine LeO.ite ?_ ?_
   | refine LeO.bind ?_ (fun _ => ?_)
theorem parolelaw37_OddsFair.mono : ∀ a0 a1 k, LeO (parolelaw37_OddsFair.f k a0 a1) (parolelaw37_OddsFair.f (k + 1) a0 a1) := by
 intro a0 a1 k
 have ih0 := parolelaw37_OddsFair.mono_l k
 unfold parolelaw37_OddsFair.f
 repeat' first
   | (with_reducible exact ih0 _ _ _ _ _ _ _ _ _)
   | (with_reducible exact odds_Of.mono _ _ _)
   | (with_reducible exact parolelaw37_learned.mono _ _ _ _)
   | (with_reducible exact paroleref37_Made.mono _ _)
   | (with_reducible exact rat_Add.mono _ _ _ _ _)
   | (with_reducible exact rat_Mul.mono _ _ _ _ _)
   | (with_reducible exact rat_Sub.mono _ _ _ _ _)
   | (with_reducible exact LeO.refl _)
   | (with_reducible exact LeO.none _)
   | (with_reducible refine LeO.ite ?_ ?_)
   | (with_reducible refine LeO.bind ?_ (fun _ => ?_))
   | exact ih0 _ _ _ _ _ _ _ _ _
   | exact odds_Of.mono _ _ _
   | exact parolelaw37_learned.mono _ _ _ _
   | exact paroleref37_Made.mono _ _
   | exact rat_Add.mono _ _ _ _ _
   | exact rat_Mul.mono _ _ _ _ _
   | exact rat_Sub.mono _ _ _ _ _
   | exact LeO.none _
   | refine LeO.ite ?_ ?_
   | refine LeO.bind ?_ (fun _ => ?_)
def parolelaw37_OddsFair.T13 : Bool × List (List Nat × List Nat) := (true, [([], []), ([], []), ([1], [1]), ([], []), ([2, 3], [2, 3]), ([0, 4, 4], [0, 4]), ([5], [5]), ([6], [6]), ([6], [6]), ([], []), ([9, 7, 5, 0, 1, 2, 3, 4, 5, 6, 7, 9], [7, 9]), ([8, 10, 0, 1, 2, 3, 4, 5, 6, 7, 8, 9, 10], [8])])
def parolelaw37_OddsFair.B13 : List Nat := [0, 0, 2, 0, 14, 31, 63, 127, 127, 0, 767, 2047]
theorem parolelaw37_OddsFair.tab13 : rtab .any (opsOf Try.f9 13) = parolelaw37_OddsFair.T13 := by kernel_rfl
theorem parolelaw37_OddsFair.bits13 : waitsOk parolelaw37_OddsFair.T13.2 parolelaw37_OddsFair.B13 = true := by kernel_rfl
def parolelaw37_OddsFair.T14 : Bool × List (List Nat × List Nat) := (true, [([], []), ([], []), ([1], [1]), ([], []), ([2, 3], [2, 3]), ([0, 4, 4], [0, 4]), ([5], [5]), ([6], [6]), ([6], [6]), ([], []), ([9, 7, 5, 0, 1, 2, 3, 4, 5, 6, 7, 9], [7, 9]), ([8, 10, 0, 1, 2, 3, 4, 5, 6, 7, 8, 9, 10], [8])])
def parolelaw37_OddsFair.B14 : List Nat := [0, 0, 2, 0, 14, 31, 63, 127, 127, 0, 767, 2047]
theorem parolelaw37_OddsFair.tab14 : rtab .any (opsOf Try.f9 14) = parolelaw37_OddsFair.T14 := by kernel_rfl
theorem parolelaw37_OddsFair.bits14 : waitsOk parolelaw37_OddsFair.T14.2 parolelaw37_OddsFair.B14 = true := by kernel_rfl
set_option maxHeartbeats 8000000 in
set_option maxRecDepth 100000 in
theorem parolelaw37_OddsFair.calls (k : Nat) (A0 : Option Addr) (c0 : Nat) (l0 : List (S96)) (a1 : Int) (r : Bool) (w : World) (hr0 : Kd.C k96 w A0 l0.length l0) (hc0 : l0.length ≤ c0) (hT : r = true) (h : parolelaw37_OddsFair.f k l0 a1 = some r) :
  Calls Try.prog 9 #[.slice A0 l0.length c0, .int .u8 a1] w fun e w' => e = .returned (.bool r) ∧ Below w.heap.size w w' := by
 have hu35 := Try.underlying35
 have hu32 := Try.underlying32
 have HR0 := Aside0.mk hr0
 have HC0 := Aside0.mk hc0
 clear hr0 hc0
 have HB := Aside0.mk (Below.refl w.heap.size w)
 have HT := Aside0.mk hT
 clear hT
 have H : ((parolelaw37_examples.f).bind fun t101 => (if t101 = true then (if (l0.length : Int) > 40 then (some t101) else ((paroleref37_Made.f k l0).bind fun t102 => ((odds_Of.f k t102 (wrap64 (1 + (wrap64 (Int.tmod a1 14))))).bind fun bt105 => ((parolelaw37_learned.f k t102 (wrap64 (1 + (wrap64 (Int.tmod a1 14)))) true).bind fun bt108 => ((parolelaw37_learned.f k t102 (wrap64 (1 + (wrap64 (Int.tmod a1 14)))) false).bind fun bt112 => (if bt108.2 = 0 then (if bt112.2 = 0 then (parolelaw37_OddsFair.j0 k t101 (wrap64 (1 + (wrap64 (Int.tmod a1 14)))) (decide (bt105.2 > 1048576)) bt105.1 bt105.2 bt108.1 bt108.2 bt112.1 bt112.2) else (parolelaw37_OddsFair.j0 k t101 (wrap64 (1 + (wrap64 (Int.tmod a1 14)))) true bt105.1 bt105.2 bt108.1 bt108.2 bt112.1 bt112.2)) else (parolelaw37_OddsFair.j0 k t101 (wrap64 (1 + (wrap64 (Int.tmod a1 14)))) true bt105.1 bt105.2 bt108.1 bt108.2 bt112.1 bt112.2))))))) else (some false))) = some r := h
 clear h
 replace H := Option.bind_eq_some_iff.mp H
 obtain ⟨t101, A30, H⟩ := H
 replace H : (if t101 = true then (if (l0.length : Int) > 40 then (some t101) else ((paroleref37_Made.f k l0).bind fun t102 => ((odds_Of.f k t102 (wrap64 (1 + (wrap64 (Int.tmod a1 14))))).bind fun bt105 => ((parolelaw37_learned.f k t102 (wrap64 (1 + (wrap64 (Int.tmod a1 14)))) true).bind fun bt108 => ((parolelaw37_learned.f k t102 (wrap64 (1 + (wrap64 (Int.tmod a1 14)))) false).bind fun bt112 => (if bt108.2 = 0 then (if bt112.2 = 0 then (parolelaw37_OddsFair.j0 k t101 (wrap64 (1 + (wrap64 (Int.tmod a1 14)))) (decide (bt105.2 > 1048576)) bt105.1 bt105.2 bt108.1 bt108.2 bt112.1 bt112.2) else (parolelaw37_OddsFair.j0 k t101 (wrap64 (1 + (wrap64 (Int.tmod a1 14)))) true bt105.1 bt105.2 bt108.1 bt108.2 bt112.1 bt112.2)) else (parolelaw37_OddsFair.j0 k t101 (wrap64 (1 + (wrap64 (Int.tmod a1 14)))) true bt105.1 bt105.2 bt108.1 bt108.2 bt112.1 bt112.2))))))) else (some false)) = some r := H
 have A3 := Aside0.mk A30
 clear A30
 by_cases c4 : t101 = true
 ·subst c4
  have H1 : (if (l0.length : Int) > 40 then (some true) else ((paroleref37_Made.f k l0).bind fun t102 => ((odds_Of.f k t102 (wrap64 (1 + (wrap64 (Int.tmod a1 14))))).bind fun bt105 => ((parolelaw37_learned.f k t102 (wrap64 (1 + (wrap64 (Int.tmod a1 14)))) true).bind fun bt108 => ((parolelaw37_learned.f k t102 (wrap64 (1 + (wrap64 (Int.tmod a1 14)))) false).bind fun bt112 => (if bt108.2 = 0 then (if bt112.2 = 0 then (parolelaw37_OddsFair.j0 k true (wrap64 (1 + (wrap64 (Int.tmod a1 14)))) (decide (bt105.2 > 1048576)) bt105.1 bt105.2 bt108.1 bt108.2 bt112.1 bt112.2) else (parolelaw37_OddsFair.j0 k true (wrap64 (1 + (wrap64 (Int.tmod a1 14)))) true bt105.1 bt105.2 bt108.1 bt108.2 bt112.1 bt112.2)) else (parolelaw37_OddsFair.j0 k true (wrap64 (1 + (wrap64 (Int.tmod a1 14)))) true bt105.1 bt105.2 bt108.1 bt108.2 bt112.1 bt112.2))))))) = some r := by rw [if_pos rfl] at H; exact H
  clear H
  have H := H1
  clear H1
  by_cases c5 : (l0.length : Int) > 40
  ·rw [if_pos c5] at H
   have c5b0 : decide (40 < (l0.length : Int)) = true := decide_eq_true c5
   have c5b1 : decide (40 < l0.length) = true := decide_eq_true (by omega)
   clear c5
   obtain rfl := Option.some.inj H
   go_enter Try.func9, Try.ntmps9
   go_wp2_with (first | ((with_reducible refine gate_callee (f := 15) rfl ?_); refine goesL_ (some 19) rfl rfl Try.func15 (by kernel_rfl) rfl #[] rfl (by (try simp only [List.map_toArray, List.map_cons, List.map_nil]); first | done | rfl | (simp only [List.length_drop, List.length_take]; rfl)) ?_; (with_reducible refine (parolelaw37_examples.calls  true _ A3.out).mono ?_); rintro e w6 ⟨rfl, hb⟩; refine ⟨_, rfl, ?_⟩; have n0_ := Aside0.mk (below_step (by repeat (first | (with_reducible first | exact HB.out | apply below_alloc | apply pw_below_drewN | apply below_drew1) | exact HB.out)) hb); clear HB; have HB := n0_; clear n0_; (try clear hb); (try clear hb2); (try clear hk); (try clear hi)))
   go_ret
   exact ⟨by first | rfl | (simp [errW_none, errW_some] <;> rfl) | (simp [*, errW_none, errW_some] <;> rfl), by repeat (first | (with_reducible first | exact HB.out | apply below_alloc | apply pw_below_drewN | apply below_drew1) | exact HB.out)⟩
  ·rw [if_neg c5] at H
   have c5b0 : decide (40 < (l0.length : Int)) = false := decide_eq_false c5
   have c5b1 : decide (40 < l0.length) = false := decide_eq_false (by omega)
   clear c5
   replace H := Option.bind_eq_some_iff.mp H
   obtain ⟨t102, A70, H⟩ := H
   replace H : ((odds_Of.f k t102 (wrap64 (1 + (wrap64 (Int.tmod a1 14))))).bind fun bt105 => ((parolelaw37_learned.f k t102 (wrap64 (1 + (wrap64 (Int.tmod a1 14)))) true).bind fun bt108 => ((parolelaw37_learned.f k t102 (wrap64 (1 + (wrap64 (Int.tmod a1 14)))) false).bind fun bt112 => (if bt108.2 = 0 then (if bt112.2 = 0 then (parolelaw37_OddsFair.j0 k true (wrap64 (1 + (wrap64 (Int.tmod a1 14)))) (decide (bt105.2 > 1048576)) bt105.1 bt105.2 bt108.1 bt108.2 bt112.1 bt112.2) else (parolelaw37_OddsFair.j0 k true (wrap64 (1 + (wrap64 (Int.tmod a1 14)))) true bt105.1 bt105.2 bt108.1 bt108.2 bt112.1 bt112.2)) else (parolelaw37_OddsFair.j0 k true (wrap64 (1 + (wrap64 (Int.tmod a1 14)))) true bt105.1 bt105.2 bt108.1 bt108.2 bt112.1 bt112.2))))) = some r := H
   have A7 := Aside0.mk A70
   clear A70
   replace H := Option.bind_eq_some_iff.mp H
   obtain ⟨⟨t105, t106⟩, A80, H⟩ := H
   replace H : ((parolelaw37_learned.f k t102 (wrap64 (1 + (wrap64 (Int.tmod a1 14)))) true).bind fun bt108 => ((parolelaw37_learned.f k t102 (wrap64 (1 + (wrap64 (Int.tmod a1 14)))) false).bind fun bt112 => (if bt108.2 = 0 then (if bt112.2 = 0 then (parolelaw37_OddsFair.j0 k true (wrap64 (1 + (wrap64 (Int.tmod a1 14)))) (decide (t106 > 1048576)) t105 t106 bt108.1 bt108.2 bt112.1 bt112.2) else (parolelaw37_OddsFair.j0 k true (wrap64 (1 + (wrap64 (Int.tmod a1 14)))) true t105 t106 bt108.1 bt108.2 bt112.1 bt112.2)) else (parolelaw37_OddsFair.j0 k true (wrap64 (1 + (wrap64 (Int.tmod a1 14)))) true t105 t106 bt108.1 bt108.2 bt112.1 bt112.2)))) = some r := H
   have A8 := Aside0.mk A80
   clear A80
   replace H := Option.bind_eq_some_iff.mp H
   obtain ⟨⟨t108, t111⟩, A90, H⟩ := H
   replace H : ((parolelaw37_learned.f k t102 (wrap64 (1 + (wrap64 (Int.tmod a1 14)))) false).bind fun bt112 => (if t111 = 0 then (if bt112.2 = 0 then (parolelaw37_OddsFair.j0 k true (wrap64 (1 + (wrap64 (Int.tmod a1 14)))) (decide (t106 > 1048576)) t105 t106 t108 t111 bt112.1 bt112.2) else (parolelaw37_OddsFair.j0 k true (wrap64 (1 + (wrap64 (Int.tmod a1 14)))) true t105 t106 t108 t111 bt112.1 bt112.2)) else (parolelaw37_OddsFair.j0 k true (wrap64 (1 + (wrap64 (Int.tmod a1 14)))) true t105 t106 t108 t111 bt112.1 bt112.2))) = some r := H
   have A9 := Aside0.mk A90
   clear A90
   replace H := Option.bind_eq_some_iff.mp H
   obtain ⟨⟨t112, t115⟩, A100, H⟩ := H
   replace H : (if t111 = 0 then (if t115 = 0 then (parolelaw37_OddsFair.j0 k true (wrap64 (1 + (wrap64 (Int.tmod a1 14)))) (decide (t106 > 1048576)) t105 t106 t108 t111 t112 t115) else (parolelaw37_OddsFair.j0 k true (wrap64 (1 + (wrap64 (Int.tmod a1 14)))) true t105 t106 t108 t111 t112 t115)) else (parolelaw37_OddsFair.j0 k true (wrap64 (1 + (wrap64 (Int.tmod a1 14)))) true t105 t106 t108 t111 t112 t115)) = some r := H
   have A10 := Aside0.mk A100
   clear A100
   have HC11 := Aside0.mk H
   clear H
   go_enter Try.func9, Try.ntmps9
   go_upto_region 10 with (first | ((with_reducible refine gate_callee (f := 15) rfl ?_); refine goesL_ (some 19) rfl rfl Try.func15 (by kernel_rfl) rfl #[] rfl (by (try simp only [List.map_toArray, List.map_cons, List.map_nil]); first | done | rfl | (simp only [List.length_drop, List.length_take]; rfl)) ?_; (with_reducible refine (parolelaw37_examples.calls  true _ A3.out).mono ?_); rintro e w12 ⟨rfl, hb⟩; refine ⟨_, rfl, ?_⟩; have n0_ := Aside0.mk (below_step (by repeat (first | (with_reducible first | exact HB.out | apply below_alloc | apply pw_below_drewN | apply below_drew1) | exact HB.out)) hb); clear HB; have HB := n0_; clear n0_; (try clear hb); (try clear hb2); (try clear hk); (try clear hi)) | ((with_reducible refine gate_callee (f := 16) rfl ?_); refine goesL_ (some 27) rfl rfl Try.func16 (by kernel_rfl) rfl #[.slice A0 l0.length c0] rfl (by (try simp only [List.map_toArray, List.map_cons, List.map_nil]); first | done | rfl | (simp only [List.length_drop, List.length_take]; rfl)) ?_; (with_reducible refine (paroleref37_Made.calls k _ _ l0 t102 _ ?side1 ?side2 A7.out).mono ?_); (case side1 => repeat (first | exact (Kd.C_below HR0.out HB.out) | (with_reducible refine Kd.C_alloc ?_ _) | (with_reducible refine Kd.C_drewN ?_ _) | (with_reducible refine Kd.C_drew ?_))); (case side2 => exact HC0.out); rintro e w13 ⟨v103, rfl, ho0, hb⟩; refine ⟨_, rfl, ?_⟩; have n0_ := Aside0.mk (Kd.R_lower ho0 (below_size (by repeat (first | (with_reducible first | exact HB.out | apply below_alloc | apply pw_below_drewN | apply below_drew1) | exact HB.out)))); have n1_ := Aside0.mk (below_step (by repeat (first | (with_reducible first | exact HB.out | apply below_alloc | apply pw_below_drewN | apply below_drew1) | exact HB.out)) hb); clear HB; have HO104 := n0_; have HB := n1_; clear n0_ n1_; (try clear hb); (try clear hb2); (try clear hk); (try clear hi); (try clear ho0); obtain ⟨Ao14, co14, eo14⟩ := Kd.R_slice HO104.out; subst eo14) | ((with_reducible refine gate_callee (f := 22) rfl ?_); refine goesL_ (some 34) rfl rfl Try.func22 (by kernel_rfl) rfl #[.slice Ao14 t102.length co14, .int .i64 (wrap64 (1 + (wrap64 (Int.tmod a1 14))))] rfl (by (try simp only [List.map_toArray, List.map_cons, List.map_nil]); first | done | rfl | (simp only [List.length_drop, List.length_take]; rfl)) ?_; (with_reducible refine (odds_Of.calls k _ _ t102 (wrap64 (1 + (wrap64 (Int.tmod a1 14)))) t105 t106 _ ?side1 ?side2 A8.out).mono ?_); (case side1 => repeat (first | exact (Kd.R_reads' HO104.out).2.2 | (with_reducible refine Kd.C_alloc ?_ _) | (with_reducible refine Kd.C_drewN ?_ _) | (with_reducible refine Kd.C_drew ?_))); (case side2 => exact (Kd.R_reads' HO104.out).2.1); rintro e w15 ⟨rfl, hb⟩; refine ⟨_, rfl, ?_⟩; have n0_ := Aside0.mk (Kd.R_below (by (with_reducible repeat (first | apply Kd.R_alloc | apply Kd.R_drewN | apply Kd.R_drew)); exact HO104.out) hb); have n1_ := Aside0.mk (below_step (by repeat (first | (with_reducible first | exact HB.out | apply below_alloc | apply pw_below_drewN | apply below_drew1) | exact HB.out)) hb); clear HO104; clear HB; have HO104 := n0_; have HB := n1_; clear n0_ n1_; (try clear hb); (try clear hb2); (try clear hk); (try clear hi)) | ((with_reducible refine gate_dst (N := 8) rfl ?_); refine box_event ?hg (N := 8) ?hd (cs := #[.int .i64 0, .int .i64 0]) (t := 35) ?hr ?_; (case hd => rfl); (case hg => rfl); (case hr => first | (go_simp; done) | (go_simp; rfl)); intro gb107 hg w16 hbox hb; have n0_ := Aside0.mk (Kd.R_below (by (with_reducible repeat (first | apply Kd.R_alloc | apply Kd.R_drewN | apply Kd.R_drew)); exact HO104.out) hb); have n1_ := Aside0.mk (below_step (by repeat (first | (with_reducible first | exact HB.out | apply below_alloc | apply pw_below_drewN | apply below_drew1) | exact HB.out)) hb); have n2_ := Aside0.mk (hbox); have n3_ := Aside0.mk ((by rw [hg]; exact (below_size (by repeat (first | (with_reducible first | exact HB.out | apply below_alloc | apply pw_below_drewN | apply below_drew1) | exact HB.out))) : w.heap.size ≤ gb107)); have n4_ := Aside0.mk ((by rw [hg]; exact (below_size (by repeat (first | (with_reducible first | exact HB.out | apply below_alloc | apply pw_below_drewN | apply below_drew1) | exact HB.out))) : w.heap.size ≤ gb107)); clear HO104; clear HB; have HO104 := n0_; have HB := n1_; have BK107 := n2_; have GW107 := n3_; have GE107 := n4_; clear n0_ n1_ n2_ n3_ n4_; clear hb hbox hg; have hcz17_0 : w16.cell? ⟨gb107, 0, none⟩ = some (.int .i64 0) := (blk_cell BK107.out 0).trans rfl; have hcz17_1 : w16.cell? ⟨gb107, 1, none⟩ = some (.int .i64 0) := (blk_cell BK107.out 1).trans rfl; have hfz17_0 := blk_frozen BK107.out 0; have hfz17_1 := blk_frozen BK107.out 1) | ((with_reducible refine gate_callee (f := 26) rfl ?_); refine goesL_ (some 37) rfl rfl Try.func26 (by kernel_rfl) rfl #[.slice Ao14 t102.length co14, .int .i64 (wrap64 (1 + (wrap64 (Int.tmod a1 14)))), .bool true] rfl (by (try simp only [List.map_toArray, List.map_cons, List.map_nil]); first | done | rfl | (simp only [List.length_drop, List.length_take]; rfl)) ?_; (with_reducible refine (parolelaw37_learned.calls k _ _ t102 (wrap64 (1 + (wrap64 (Int.tmod a1 14)))) true t108 t111 _ ?side1 ?side2 A9.out).mono ?_); (case side1 => refine (Kd.R_reads' (e := 71) (base := w.heap.size) (ok := fun k_ => True) (n := t102.length) (c := co14) ?_).2.2; exact (by (with_reducible repeat (first | apply Kd.R_alloc | apply Kd.R_drewN | apply Kd.R_drew)); exact (Kd.R_mono (Kd.R_far (p := ⟨gb107, 1, none⟩) (Kd.R_far (p := ⟨gb107, 0, none⟩) (Kd.R_types HO104.out BK107.out (by decide)) (fun _ hk => hk.2) (.int .i64 t105)) (fun _ hk => hk.2) (.int .i64 t106)) (fun _ h_ => h_.1)))); (case side2 => exact (Kd.R_reads' HO104.out).2.1); rintro e w18 ⟨v109, rfl, ho0, hb⟩; refine ⟨_, rfl, ?_⟩; have n0_ := Aside0.mk (Kd.R_elder' (by (with_reducible repeat (first | apply Kd.R_alloc | apply Kd.R_drewN | apply Kd.R_drew)); exact (Kd.R_mono (Kd.R_far (p := ⟨gb107, 1, none⟩) (Kd.R_far (p := ⟨gb107, 0, none⟩) (Kd.R_types HO104.out BK107.out (by decide)) (fun _ hk => hk.2) (.int .i64 t105)) (fun _ hk => hk.2) (.int .i64 t106)) (fun _ h_ => h_.1))) (Kd.R_base ho0) hb); have n1_ := Aside0.mk (Kd.R_lower (Kd.R_new' ho0 (Kd.R_lt (by (with_reducible repeat (first | apply Kd.R_alloc | apply Kd.R_drewN | apply Kd.R_drew)); exact (Kd.R_mono (Kd.R_far (p := ⟨gb107, 1, none⟩) (Kd.R_far (p := ⟨gb107, 0, none⟩) (Kd.R_types HO104.out BK107.out (by decide)) (fun _ hk => hk.2) (.int .i64 t105)) (fun _ hk => hk.2) (.int .i64 t106)) (fun _ h_ => h_.1))))) (below_size (by repeat (first | (with_reducible first | exact HB.out | apply below_alloc | apply pw_below_drewN | apply below_drew1 | refine below_set ?_ GE107.out) | exact HB.out)))); have n2_ := Aside0.mk (blk_below (g := gb107) (o := .cells #[.int .i64 t105, .int .i64 t106] 35 (0, 0)) (by (with_reducible repeat (first | refine blk_drewN ?_ _ | refine blk_drew ?_ | refine blk_alloc ?_ _)); refine blk_put (cs := #[.int .i64 t105, .int .i64 0]) ?_ 1 _ rfl; (with_reducible repeat (first | refine blk_drewN ?_ _ | refine blk_drew ?_ | refine blk_alloc ?_ _)); refine blk_put (cs := #[.int .i64 0, .int .i64 0]) ?_ 0 _ rfl; (with_reducible repeat (first | refine blk_drewN ?_ _ | refine blk_drew ?_ | refine blk_alloc ?_ _)); exact BK107.out) hb); have n3_ := Aside0.mk (below_step (by repeat (first | (with_reducible first | exact HB.out | apply below_alloc | apply pw_below_drewN | apply below_drew1 | refine below_set ?_ GE107.out) | exact HB.out)) hb); clear HO104; clear BK107; clear HB; have HO104 := n0_; have HO110 := n1_; have BK107 := n2_; have HB := n3_; clear n0_ n1_ n2_ n3_; (try clear hb); (try clear hb2); (try clear hk); (try clear hi); (try clear ho0)) | ((with_reducible refine gate_callee (f := 26) rfl ?_); refine goesL_ (some 40) rfl rfl Try.func26 (by kernel_rfl) rfl #[.slice Ao14 t102.length co14, .int .i64 (wrap64 (1 + (wrap64 (Int.tmod a1 14)))), .bool false] rfl (by (try simp only [List.map_toArray, List.map_cons, List.map_nil]); first | done | rfl | (simp only [List.length_drop, List.length_take]; rfl)) ?_; (with_reducible refine (parolelaw37_learned.calls k _ _ t102 (wrap64 (1 + (wrap64 (Int.tmod a1 14)))) false t112 t115 _ ?side1 ?side2 A10.out).mono ?_); (case side1 => repeat (first | exact (Kd.R_reads' HO104.out).2.2 | (with_reducible refine Kd.C_alloc ?_ _) | (with_reducible refine Kd.C_drewN ?_ _) | (with_reducible refine Kd.C_drew ?_))); (case side2 => exact (Kd.R_reads' HO104.out).2.1); rintro e w19 ⟨v113, rfl, ho0, hb⟩; refine ⟨_, rfl, ?_⟩; have n0_ := Aside0.mk (Kd.R_elder' (by (with_reducible repeat (first | apply Kd.R_alloc | apply Kd.R_drewN | apply Kd.R_drew)); exact HO104.out) (Kd.R_base ho0) hb); have n1_ := Aside0.mk (Kd.R_elder' (by (with_reducible repeat (first | apply Kd.R_alloc | apply Kd.R_drewN | apply Kd.R_drew)); exact HO110.out) (Kd.R_base ho0) hb); have n2_ := Aside0.mk (Kd.R_lower (Kd.R_new' (Kd.R_new' ho0 (Kd.R_lt (by (with_reducible repeat (first | apply Kd.R_alloc | apply Kd.R_drewN | apply Kd.R_drew)); exact HO104.out))) (Kd.R_lt (by (with_reducible repeat (first | apply Kd.R_alloc | apply Kd.R_drewN | apply Kd.R_drew)); exact HO110.out))) (below_size (by repeat (first | (with_reducible first | exact HB.out | apply below_alloc | apply pw_below_drewN | apply below_drew1 | refine below_set ?_ GE107.out) | exact HB.out)))); have n3_ := Aside0.mk (blk_below (g := gb107) (o := .cells #[.int .i64 t105, .int .i64 t106] 35 (0, 0)) (by (with_reducible repeat (first | refine blk_drewN ?_ _ | refine blk_drew ?_ | refine blk_alloc ?_ _)); exact BK107.out) hb); have n4_ := Aside0.mk (below_step (by repeat (first | (with_reducible first | exact HB.out | apply below_alloc | apply pw_below_drewN | apply below_drew1 | refine below_set ?_ GE107.out) | exact HB.out)) hb); clear HO104; clear HO110; clear BK107; clear HB; have HO104 := n0_; have HO110 := n1_; have HO114 := n2_; have BK107 := n3_; have HB := n4_; clear n0_ n1_ n2_ n3_ n4_; (try clear hb); (try clear hb2); (try clear hk); (try clear hi); (try clear ho0)) | ((with_reducible refine gate_dst (N := 9) rfl ?_); refine box_event ?hg (N := 9) ?hd (cs := #[.slice none 0 0, .int .i64 0]) (t := 32) ?hr ?_; (case hd => rfl); (case hg => rfl); (case hr => first | (go_simp; done) | (go_simp; rfl)); intro gb116 hg w20 hbox hb; have n0_ := Aside0.mk (Kd.R_below (by (with_reducible repeat (first | apply Kd.R_alloc | apply Kd.R_drewN | apply Kd.R_drew)); exact HO104.out) hb); have n1_ := Aside0.mk (Kd.R_below (by (with_reducible repeat (first | apply Kd.R_alloc | apply Kd.R_drewN | apply Kd.R_drew)); exact HO110.out) hb); have n2_ := Aside0.mk (Kd.R_below (by (with_reducible repeat (first | apply Kd.R_alloc | apply Kd.R_drewN | apply Kd.R_drew)); exact HO114.out) hb); have n3_ := Aside0.mk (blk_below (g := gb107) (o := .cells #[.int .i64 t105, .int .i64 t106] 35 (0, 0)) (by (with_reducible repeat (first | refine blk_drewN ?_ _ | refine blk_drew ?_ | refine blk_alloc ?_ _)); exact BK107.out) hb); have n4_ := Aside0.mk (below_step (by repeat (first | (with_reducible first | exact HB.out | apply below_alloc | apply pw_below_drewN | apply below_drew1 | refine below_set ?_ GE107.out) | exact HB.out)) hb); have n5_ := Aside0.mk (hbox); have n6_ := Aside0.mk ((by rw [hg]; exact (below_size (by repeat (first | (with_reducible first | exact HB.out | apply below_alloc | apply pw_below_drewN | apply below_drew1 | refine below_set ?_ GE107.out) | exact HB.out))) : w.heap.size ≤ gb116)); have n7_ := Aside0.mk ((by rw [hg]; exact (below_size (by repeat (first | (with_reducible first | exact HB.out | apply below_alloc | apply pw_below_drewN | apply below_drew1 | refine below_set ?_ GE107.out) | exact HB.out))) : w.heap.size ≤ gb116)); have n8_ := Aside0.mk ((by rw [hg]; exact Nat.ne_of_lt (blk_lt (g := gb107) (o := .cells #[.int .i64 t105, .int .i64 t106] 35 (0, 0)) (by (with_reducible repeat (first | refine blk_drewN ?_ _ | refine blk_drew ?_ | refine blk_alloc ?_ _)); exact BK107.out)) : gb107 ≠ gb116)); have n9_ := Aside0.mk ((by rw [hg]; exact Nat.ne_of_gt (blk_lt (g := gb107) (o := .cells #[.int .i64 t105, .int .i64 t106] 35 (0, 0)) (by (with_reducible repeat (first | refine blk_drewN ?_ _ | refine blk_drew ?_ | refine blk_alloc ?_ _)); exact BK107.out)) : gb116 ≠ gb107)); clear HO104; clear HO110; clear HO114; clear BK107; clear HB; have HO104 := n0_; have HO110 := n1_; have HO114 := n2_; have BK107 := n3_; have HB := n4_; have BK116 := n5_; have GW116 := n6_; have GE116 := n7_; have NB107_116 := n8_; have NB116_107 := n9_; clear n0_ n1_ n2_ n3_ n4_ n5_ n6_ n7_ n8_ n9_; clear hb hbox hg) | ((with_reducible refine gate_dst (N := 10) rfl ?_); refine box_event ?hg (N := 10) ?hd (cs := #[.slice none 0 0, .int .i64 0]) (t := 32) ?hr ?_; (case hd => rfl); (case hg => rfl); (case hr => first | (go_simp; done) | (go_simp; rfl)); intro gb117 hg w21 hbox hb; have n0_ := Aside0.mk (Kd.R_below (by (with_reducible repeat (first | apply Kd.R_alloc | apply Kd.R_drewN | apply Kd.R_drew)); exact HO104.out) hb); have n1_ := Aside0.mk (Kd.R_below (by (with_reducible repeat (first | apply Kd.R_alloc | apply Kd.R_drewN | apply Kd.R_drew)); exact HO110.out) hb); have n2_ := Aside0.mk (Kd.R_below (by (with_reducible repeat (first | apply Kd.R_alloc | apply Kd.R_drewN | apply Kd.R_drew)); exact HO114.out) hb); have n3_ := Aside0.mk (blk_below (g := gb107) (o := .cells #[.int .i64 t105, .int .i64 t106] 35 (0, 0)) (by (with_reducible repeat (first | refine blk_drewN ?_ _ | refine blk_drew ?_ | refine blk_alloc ?_ _)); exact BK107.out) hb); have n4_ := Aside0.mk (blk_below (g := gb116) (o := .cells #[.slice none 0 0, .int .i64 0] 32 (0, 0)) (by (with_reducible repeat (first | refine blk_drewN ?_ _ | refine blk_drew ?_ | refine blk_alloc ?_ _)); exact BK116.out) hb); have n5_ := Aside0.mk (below_step (by repeat (first | (with_reducible first | exact HB.out | apply below_alloc | apply pw_below_drewN | apply below_drew1 | refine below_set ?_ GE107.out | refine below_set ?_ GE116.out) | exact HB.out)) hb); have n6_ := Aside0.mk (hbox); have n7_ := Aside0.mk ((by rw [hg]; exact (below_size (by repeat (first | (with_reducible first | exact HB.out | apply below_alloc | apply pw_below_drewN | apply below_drew1 | refine below_set ?_ GE107.out | refine below_set ?_ GE116.out) | exact HB.out))) : w.heap.size ≤ gb117)); have n8_ := Aside0.mk ((by rw [hg]; exact (below_size (by repeat (first | (with_reducible first | exact HB.out | apply below_alloc | apply pw_below_drewN | apply below_drew1 | refine below_set ?_ GE107.out | refine below_set ?_ GE116.out) | exact HB.out))) : w.heap.size ≤ gb117)); have n9_ := Aside0.mk ((by rw [hg]; exact Nat.ne_of_lt (blk_lt (g := gb107) (o := .cells #[.int .i64 t105, .int .i64 t106] 35 (0, 0)) (by (with_reducible repeat (first | refine blk_drewN ?_ _ | refine blk_drew ?_ | refine blk_alloc ?_ _)); exact BK107.out)) : gb107 ≠ gb117)); have n10_ := Aside0.mk ((by rw [hg]; exact Nat.ne_of_gt (blk_lt (g := gb107) (o := .cells #[.int .i64 t105, .int .i64 t106] 35 (0, 0)) (by (with_reducible repeat (first | refine blk_drewN ?_ _ | refine blk_drew ?_ | refine blk_alloc ?_ _)); exact BK107.out)) : gb117 ≠ gb107)); have n11_ := Aside0.mk ((by rw [hg]; exact Nat.ne_of_lt (blk_lt (g := gb116) (o := .cells #[.slice none 0 0, .int .i64 0] 32 (0, 0)) (by (with_reducible repeat (first | refine blk_drewN ?_ _ | refine blk_drew ?_ | refine blk_alloc ?_ _)); exact BK116.out)) : gb116 ≠ gb117)); have n12_ := Aside0.mk ((by rw [hg]; exact Nat.ne_of_gt (blk_lt (g := gb116) (o := .cells #[.slice none 0 0, .int .i64 0] 32 (0, 0)) (by (with_reducible repeat (first | refine blk_drewN ?_ _ | refine blk_drew ?_ | refine blk_alloc ?_ _)); exact BK116.out)) : gb117 ≠ gb116)); clear HO104; clear HO110; clear HO114; clear BK107; clear BK116; clear HB; have HO104 := n0_; have HO110 := n1_; have HO114 := n2_; have BK107 := n3_; have BK116 := n4_; have HB := n5_; have BK117 := n6_; have GW117 := n7_; have GE117 := n8_; have NB107_117 := n9_; have NB117_107 := n10_; have NB116_117 := n11_; have NB117_116 := n12_; clear n0_ n1_ n2_ n3_ n4_ n5_ n6_ n7_ n8_ n9_ n10_ n11_ n12_; clear hb hbox hg; obtain ⟨Ao22, co22, eo22⟩ := Kd.R_slice HO110.out; subst eo22; have hnb23 := NB116_107.out; have hnc23 := NB107_116.out; have hnb24 := NB116_117.out; have hnc24 := NB117_116.out; have hcz25_0 : w21.cell? ⟨gb116, 0, none⟩ = some (.slice none 0 0) := (blk_cell BK116.out 0).trans rfl; have hcz25_1 : w21.cell? ⟨gb116, 1, none⟩ = some (.int .i64 0) := (blk_cell BK116.out 1).trans rfl; have hfz25_0 := blk_frozen BK116.out 0; have hfz25_1 := blk_frozen BK116.out 1; obtain ⟨Ao26, co26, eo26⟩ := Kd.R_slice HO114.out; subst eo26; have hnb27 := NB117_107.out; have hnc27 := NB107_117.out; have hcz28_0 : w21.cell? ⟨gb117, 0, none⟩ = some (.slice none 0 0) := (blk_cell BK117.out 0).trans rfl; have hcz28_1 : w21.cell? ⟨gb117, 1, none⟩ = some (.int .i64 0) := (blk_cell BK117.out 1).trans rfl; have hfz28_0 := blk_frozen BK117.out 0; have hfz28_1 := blk_frozen BK117.out 1))
   (try simp only [Act.put, List.setIfInBounds_toArray, List.set_cons_zero, List.set_cons_succ])
   go_cut [53] (fun v53 wc => ∃ (kq : Nat) (x53_10 : Bool), v53 = .bool x53_10 ∧ Aside0 (parolelaw37_OddsFair.j0 kq true (wrap64 (1 + (wrap64 (Int.tmod a1 14)))) x53_10 t105 t106 t108 t111 t112 t115 = some r) ∧ Aside0 (kq ≤ k) ∧ Aside0 (Kd.R k71 71 wc w.heap.size (fun k_ => some k_ ≠ ((.slice Ao26 t112.length co26) : Value).ownBlock) (.slice Ao22 t108.length co22) t108) ∧ Aside0 (Kd.R k71 71 wc w.heap.size (fun k_ => some k_ ≠ ((.slice Ao22 t108.length co22) : Value).ownBlock) (.slice Ao26 t112.length co26) t112) ∧ Aside0 (wc.heap[gb107]? = some (.cells #[.int .i64 t105, .int .i64 t106] 35 (0, 0))) ∧ Aside0 (wc.heap[gb116]? = some (.cells #[(.slice Ao22 t108.length co22), .int .i64 t111] 32 (0, 0))) ∧ Aside0 (wc.heap[gb117]? = some (.cells #[(.slice Ao26 t112.length co26), .int .i64 t115] 32 (0, 0))) ∧ Aside0 (Below w.heap.size w wc))
   case first =>
    have H := HC11.out
    clear HC11
    by_cases c29 : t111 = 0
    ·rw [if_pos c29] at H
     have c29b0 : (t111 == 0) = true := beq_iff_eq.mpr c29
     have c29b1 : (t111 != 0) = false := bne_eq_false_iff_eq.mpr c29
     clear c29
     (first | rw [c29b0] | (simp only [i64_w, i32_w]; rw [c29b0]) | skip)
     by_cases c30 : t115 = 0
     ·rw [if_pos c30] at H
      have c30b0 : (t115 == 0) = true := beq_iff_eq.mpr c30
      have c30b1 : (t115 != 0) = false := bne_eq_false_iff_eq.mpr c30
      clear c30
      have H' := Aside0.mk H
      clear H
      have hnb31 := NB116_107.out
      have hnc31 := NB107_116.out
      have hnb32 := NB116_117.out
      have hnc32 := NB117_116.out
      have hcz33_0 : w21.cell? ⟨gb116, 0, none⟩ = some (.slice none 0 0) := (blk_cell BK116.out 0).trans rfl
      have hcz33_1 : w21.cell? ⟨gb116, 1, none⟩ = some (.int .i64 0) := (blk_cell BK116.out 1).trans rfl
      have hfz33_0 := blk_frozen BK116.out 0
      have hfz33_1 := blk_frozen BK116.out 1
      have hnb34 := NB117_107.out
      have hnc34 := NB107_117.out
      have hcz35_0 : w21.cell? ⟨gb117, 0, none⟩ = some (.slice none 0 0) := (blk_cell BK117.out 0).trans rfl
      have hcz35_1 : w21.cell? ⟨gb117, 1, none⟩ = some (.int .i64 0) := (blk_cell BK117.out 1).trans rfl
      have hfz35_0 := blk_frozen BK117.out 0
      have hfz35_1 := blk_frozen BK117.out 1
      have hcz36_0 : w21.cell? ⟨gb107, 0, none⟩ = some (.int .i64 t105) := (blk_cell BK107.out 0).trans rfl
      have hcz36_1 : w21.cell? ⟨gb107, 1, none⟩ = some (.int .i64 t106) := (blk_cell BK107.out 1).trans rfl
      have hfz36_0 := blk_frozen BK107.out 0
      have hfz36_1 := blk_frozen BK107.out 1
      go_wp2
      go_meet
      case rel => exact ⟨_, (decide (t106 > 1048576)), (by first | rfl | (simp; done) | (simp [*]; done)), H', ⟨by first | omega | exact Nat.le_refl _⟩, ⟨by (with_reducible repeat (first | apply Kd.R_alloc | apply Kd.R_drewN | apply Kd.R_drew)); exact Kd.R_mono (Kd.R_far (p := ⟨gb117, 1, none⟩) (Kd.R_far (p := ⟨gb117, 0, none⟩) (Kd.R_far (p := ⟨gb116, 1, none⟩) (Kd.R_far (p := ⟨gb116, 0, none⟩) (Kd.R_types (Kd.R_types HO110.out BK116.out (by decide)) BK117.out (by decide)) (fun _ hk => hk.1.2) (.slice Ao22 t108.length co22)) (fun _ hk => hk.1.2) (.int .i64 t111)) (fun _ hk => hk.2) (.slice Ao26 t112.length co26)) (fun _ hk => hk.2) (.int .i64 t115)) (fun _ hk => hk.1.1.2)⟩, ⟨by (with_reducible repeat (first | apply Kd.R_alloc | apply Kd.R_drewN | apply Kd.R_drew)); exact Kd.R_mono (Kd.R_far (p := ⟨gb117, 1, none⟩) (Kd.R_far (p := ⟨gb117, 0, none⟩) (Kd.R_far (p := ⟨gb116, 1, none⟩) (Kd.R_far (p := ⟨gb116, 0, none⟩) (Kd.R_types (Kd.R_types HO114.out BK116.out (by decide)) BK117.out (by decide)) (fun _ hk => hk.1.2) (.slice Ao22 t108.length co22)) (fun _ hk => hk.1.2) (.int .i64 t111)) (fun _ hk => hk.2) (.slice Ao26 t112.length co26)) (fun _ hk => hk.2) (.int .i64 t115)) (fun _ hk => hk.1.1.2)⟩, ⟨by (with_reducible repeat (first | refine blk_drewN ?_ _ | refine blk_drew ?_ | refine blk_alloc ?_ _)); refine blk_far ?_ NB107_117.out _; (with_reducible repeat (first | refine blk_drewN ?_ _ | refine blk_drew ?_ | refine blk_alloc ?_ _)); refine blk_far ?_ NB107_117.out _; (with_reducible repeat (first | refine blk_drewN ?_ _ | refine blk_drew ?_ | refine blk_alloc ?_ _)); refine blk_far ?_ NB107_116.out _; (with_reducible repeat (first | refine blk_drewN ?_ _ | refine blk_drew ?_ | refine blk_alloc ?_ _)); refine blk_far ?_ NB107_116.out _; (with_reducible repeat (first | refine blk_drewN ?_ _ | refine blk_drew ?_ | refine blk_alloc ?_ _)); exact BK107.out⟩, ⟨by (with_reducible repeat (first | refine blk_drewN ?_ _ | refine blk_drew ?_ | refine blk_alloc ?_ _)); refine blk_far ?_ NB116_117.out _; (with_reducible repeat (first | refine blk_drewN ?_ _ | refine blk_drew ?_ | refine blk_alloc ?_ _)); refine blk_far ?_ NB116_117.out _; (with_reducible repeat (first | refine blk_drewN ?_ _ | refine blk_drew ?_ | refine blk_alloc ?_ _)); refine blk_put (cs := #[.slice Ao22 t108.length co22, .int .i64 0]) ?_ 1 _ rfl; (with_reducible repeat (first | refine blk_drewN ?_ _ | refine blk_drew ?_ | refine blk_alloc ?_ _)); refine blk_put (cs := #[.slice none 0 0, .int .i64 0]) ?_ 0 _ rfl; (with_reducible repeat (first | refine blk_drewN ?_ _ | refine blk_drew ?_ | refine blk_alloc ?_ _)); exact BK116.out⟩, ⟨by (with_reducible repeat (first | refine blk_drewN ?_ _ | refine blk_drew ?_ | refine blk_alloc ?_ _)); refine blk_put (cs := #[.slice Ao26 t112.length co26, .int .i64 0]) ?_ 1 _ rfl; (with_reducible repeat (first | refine blk_drewN ?_ _ | refine blk_drew ?_ | refine blk_alloc ?_ _)); refine blk_put (cs := #[.slice none 0 0, .int .i64 0]) ?_ 0 _ rfl; (with_reducible repeat (first | refine blk_drewN ?_ _ | refine blk_drew ?_ | refine blk_alloc ?_ _)); refine blk_far ?_ NB117_116.out _; (with_reducible repeat (first | refine blk_drewN ?_ _ | refine blk_drew ?_ | refine blk_alloc ?_ _)); refine blk_far ?_ NB117_116.out _; (with_reducible repeat (first | refine blk_drewN ?_ _ | refine blk_drew ?_ | refine blk_alloc ?_ _)); exact BK117.out⟩, ⟨by repeat (first | (with_reducible first | exact HB.out | apply below_alloc | apply pw_below_drewN | apply below_drew1 | refine below_set ?_ GE107.out | refine below_set ?_ GE116.out | refine below_set ?_ GE117.out) | exact HB.out)⟩⟩
     ·rw [if_neg c30] at H
      have c30b0 : (t115 == 0) = false := beq_eq_false_iff_ne.mpr c30
      have c30b1 : (t115 != 0) = true := bne_iff_ne.mpr c30
      have H' := Aside0.mk H
      clear H
      have hnb37 := NB116_107.out
      have hnc37 := NB107_116.out
      have hnb38 := NB116_117.out
      have hnc38 := NB117_116.out
      have hcz39_0 : w21.cell? ⟨gb116, 0, none⟩ = some (.slice none 0 0) := (blk_cell BK116.out 0).trans rfl
      have hcz39_1 : w21.cell? ⟨gb116, 1, none⟩ = some (.int .i64 0) := (blk_cell BK116.out 1).trans rfl
      have hfz39_0 := blk_frozen BK116.out 0
      have hfz39_1 := blk_frozen BK116.out 1
      have hnb40 := NB117_107.out
      have hnc40 := NB107_117.out
      have hcz41_0 : w21.cell? ⟨gb117, 0, none⟩ = some (.slice none 0 0) := (blk_cell BK117.out 0).trans rfl
      have hcz41_1 : w21.cell? ⟨gb117, 1, none⟩ = some (.int .i64 0) := (blk_cell BK117.out 1).trans rfl
      have hfz41_0 := blk_frozen BK117.out 0
      have hfz41_1 := blk_frozen BK117.out 1
      go_wp2
      go_meet
      case rel => exact ⟨_, (true), (by first | rfl | (simp; done) | (simp [*]; done)), H', ⟨by first | omega | exact Nat.le_refl _⟩, ⟨by (with_reducible repeat (first | apply Kd.R_alloc | apply Kd.R_drewN | apply Kd.R_drew)); exact Kd.R_mono (Kd.R_far (p := ⟨gb117, 1, none⟩) (Kd.R_far (p := ⟨gb117, 0, none⟩) (Kd.R_far (p := ⟨gb116, 1, none⟩) (Kd.R_far (p := ⟨gb116, 0, none⟩) (Kd.R_types (Kd.R_types HO110.out BK116.out (by decide)) BK117.out (by decide)) (fun _ hk => hk.1.2) (.slice Ao22 t108.length co22)) (fun _ hk => hk.1.2) (.int .i64 t111)) (fun _ hk => hk.2) (.slice Ao26 t112.length co26)) (fun _ hk => hk.2) (.int .i64 t115)) (fun _ hk => hk.1.1.2)⟩, ⟨by (with_reducible repeat (first | apply Kd.R_alloc | apply Kd.R_drewN | apply Kd.R_drew)); exact Kd.R_mono (Kd.R_far (p := ⟨gb117, 1, none⟩) (Kd.R_far (p := ⟨gb117, 0, none⟩) (Kd.R_far (p := ⟨gb116, 1, none⟩) (Kd.R_far (p := ⟨gb116, 0, none⟩) (Kd.R_types (Kd.R_types HO114.out BK116.out (by decide)) BK117.out (by decide)) (fun _ hk => hk.1.2) (.slice Ao22 t108.length co22)) (fun _ hk => hk.1.2) (.int .i64 t111)) (fun _ hk => hk.2) (.slice Ao26 t112.length co26)) (fun _ hk => hk.2) (.int .i64 t115)) (fun _ hk => hk.1.1.2)⟩, ⟨by (with_reducible repeat (first | refine blk_drewN ?_ _ | refine blk_drew ?_ | refine blk_alloc ?_ _)); refine blk_far ?_ NB107_117.out _; (with_reducible repeat (first | refine blk_drewN ?_ _ | refine blk_drew ?_ | refine blk_alloc ?_ _)); refine blk_far ?_ NB107_117.out _; (with_reducible repeat (first | refine blk_drewN ?_ _ | refine blk_drew ?_ | refine blk_alloc ?_ _)); refine blk_far ?_ NB107_116.out _; (with_reducible repeat (first | refine blk_drewN ?_ _ | refine blk_drew ?_ | refine blk_alloc ?_ _)); refine blk_far ?_ NB107_116.out _; (with_reducible repeat (first | refine blk_drewN ?_ _ | refine blk_drew ?_ | refine blk_alloc ?_ _)); exact BK107.out⟩, ⟨by (with_reducible repeat (first | refine blk_drewN ?_ _ | refine blk_drew ?_ | refine blk_alloc ?_ _)); refine blk_far ?_ NB116_117.out _; (with_reducible repeat (first | refine blk_drewN ?_ _ | refine blk_drew ?_ | refine blk_alloc ?_ _)); refine blk_far ?_ NB116_117.out _; (with_reducible repeat (first | refine blk_drewN ?_ _ | refine blk_drew ?_ | refine blk_alloc ?_ _)); refine blk_put (cs := #[.slice Ao22 t108.length co22, .int .i64 0]) ?_ 1 _ rfl; (with_reducible repeat (first | refine blk_drewN ?_ _ | refine blk_drew ?_ | refine blk_alloc ?_ _)); refine blk_put (cs := #[.slice none 0 0, .int .i64 0]) ?_ 0 _ rfl; (with_reducible repeat (first | refine blk_drewN ?_ _ | refine blk_drew ?_ | refine blk_alloc ?_ _)); exact BK116.out⟩, ⟨by (with_reducible repeat (first | refine blk_drewN ?_ _ | refine blk_drew ?_ | refine blk_alloc ?_ _)); refine blk_put (cs := #[.slice Ao26 t112.length co26, .int .i64 0]) ?_ 1 _ rfl; (with_reducible repeat (first | refine blk_drewN ?_ _ | refine blk_drew ?_ | refine blk_alloc ?_ _)); refine blk_put (cs := #[.slice none 0 0, .int .i64 0]) ?_ 0 _ rfl; (with_reducible repeat (first | refine blk_drewN ?_ _ | refine blk_drew ?_ | refine blk_alloc ?_ _)); refine blk_far ?_ NB117_116.out _; (with_reducible repeat (first | refine blk_drewN ?_ _ | refine blk_drew ?_ | refine blk_alloc ?_ _)); refine blk_far ?_ NB117_116.out _; (with_reducible repeat (first | refine blk_drewN ?_ _ | refine blk_drew ?_ | refine blk_alloc ?_ _)); exact BK117.out⟩, ⟨by repeat (first | (with_reducible first | exact HB.out | apply below_alloc | apply pw_below_drewN | apply below_drew1 | refine below_set ?_ GE107.out | refine below_set ?_ GE116.out | refine below_set ?_ GE117.out) | exact HB.out)⟩⟩
    ·rw [if_neg c29] at H
     have c29b0 : (t111 == 0) = false := beq_eq_false_iff_ne.mpr c29
     have c29b1 : (t111 != 0) = true := bne_iff_ne.mpr c29
     (first | rw [c29b0] | (simp only [i64_w, i32_w]; rw [c29b0]) | skip)
     have H' := Aside0.mk H
     clear H
     have hnb42 := NB116_107.out
     have hnc42 := NB107_116.out
     have hnb43 := NB116_117.out
     have hnc43 := NB117_116.out
     have hcz44_0 : w21.cell? ⟨gb116, 0, none⟩ = some (.slice none 0 0) := (blk_cell BK116.out 0).trans rfl
     have hcz44_1 : w21.cell? ⟨gb116, 1, none⟩ = some (.int .i64 0) := (blk_cell BK116.out 1).trans rfl
     have hfz44_0 := blk_frozen BK116.out 0
     have hfz44_1 := blk_frozen BK116.out 1
     go_wp2
     go_meet
     case rel => exact ⟨_, (true), (by first | rfl | (simp; done) | (simp [*]; done)), H', ⟨by first | omega | exact Nat.le_refl _⟩, ⟨by (with_reducible repeat (first | apply Kd.R_alloc | apply Kd.R_drewN | apply Kd.R_drew)); exact Kd.R_mono (Kd.R_far (p := ⟨gb117, 1, none⟩) (Kd.R_far (p := ⟨gb117, 0, none⟩) (Kd.R_far (p := ⟨gb116, 1, none⟩) (Kd.R_far (p := ⟨gb116, 0, none⟩) (Kd.R_types (Kd.R_types HO110.out BK116.out (by decide)) BK117.out (by decide)) (fun _ hk => hk.1.2) (.slice Ao22 t108.length co22)) (fun _ hk => hk.1.2) (.int .i64 t111)) (fun _ hk => hk.2) (.slice Ao26 t112.length co26)) (fun _ hk => hk.2) (.int .i64 t115)) (fun _ hk => hk.1.1.2)⟩, ⟨by (with_reducible repeat (first | apply Kd.R_alloc | apply Kd.R_drewN | apply Kd.R_drew)); exact Kd.R_mono (Kd.R_far (p := ⟨gb117, 1, none⟩) (Kd.R_far (p := ⟨gb117, 0, none⟩) (Kd.R_far (p := ⟨gb116, 1, none⟩) (Kd.R_far (p := ⟨gb116, 0, none⟩) (Kd.R_types (Kd.R_types HO114.out BK116.out (by decide)) BK117.out (by decide)) (fun _ hk => hk.1.2) (.slice Ao22 t108.length co22)) (fun _ hk => hk.1.2) (.int .i64 t111)) (fun _ hk => hk.2) (.slice Ao26 t112.length co26)) (fun _ hk => hk.2) (.int .i64 t115)) (fun _ hk => hk.1.1.2)⟩, ⟨by (with_reducible repeat (first | refine blk_drewN ?_ _ | refine blk_drew ?_ | refine blk_alloc ?_ _)); refine blk_far ?_ NB107_117.out _; (with_reducible repeat (first | refine blk_drewN ?_ _ | refine blk_drew ?_ | refine blk_alloc ?_ _)); refine blk_far ?_ NB107_117.out _; (with_reducible repeat (first | refine blk_drewN ?_ _ | refine blk_drew ?_ | refine blk_alloc ?_ _)); refine blk_far ?_ NB107_116.out _; (with_reducible repeat (first | refine blk_drewN ?_ _ | refine blk_drew ?_ | refine blk_alloc ?_ _)); refine blk_far ?_ NB107_116.out _; (with_reducible repeat (first | refine blk_drewN ?_ _ | refine blk_drew ?_ | refine blk_alloc ?_ _)); exact BK107.out⟩, ⟨by (with_reducible repeat (first | refine blk_drewN ?_ _ | refine blk_drew ?_ | refine blk_alloc ?_ _)); refine blk_far ?_ NB116_117.out _; (with_reducible repeat (first | refine blk_drewN ?_ _ | refine blk_drew ?_ | refine blk_alloc ?_ _)); refine blk_far ?_ NB116_117.out _; (with_reducible repeat (first | refine blk_drewN ?_ _ | refine blk_drew ?_ | refine blk_alloc ?_ _)); refine blk_put (cs := #[.slice Ao22 t108.length co22, .int .i64 0]) ?_ 1 _ rfl; (with_reducible repeat (first | refine blk_drewN ?_ _ | refine blk_drew ?_ | refine blk_alloc ?_ _)); refine blk_put (cs := #[.slice none 0 0, .int .i64 0]) ?_ 0 _ rfl; (with_reducible repeat (first | refine blk_drewN ?_ _ | refine blk_drew ?_ | refine blk_alloc ?_ _)); exact BK116.out⟩, ⟨by (with_reducible repeat (first | refine blk_drewN ?_ _ | refine blk_drew ?_ | refine blk_alloc ?_ _)); refine blk_put (cs := #[.slice Ao26 t112.length co26, .int .i64 0]) ?_ 1 _ rfl; (with_reducible repeat (first | refine blk_drewN ?_ _ | refine blk_drew ?_ | refine blk_alloc ?_ _)); refine blk_put (cs := #[.slice none 0 0, .int .i64 0]) ?_ 0 _ rfl; (with_reducible repeat (first | refine blk_drewN ?_ _ | refine blk_drew ?_ | refine blk_alloc ?_ _)); refine blk_far ?_ NB117_116.out _; (with_reducible repeat (first | refine blk_drewN ?_ _ | refine blk_drew ?_ | refine blk_alloc ?_ _)); refine blk_far ?_ NB117_116.out _; (with_reducible repeat (first | refine blk_drewN ?_ _ | refine blk_drew ?_ | refine blk_alloc ?_ _)); exact BK117.out⟩, ⟨by repeat (first | (with_reducible first | exact HB.out | apply below_alloc | apply pw_below_drewN | apply below_drew1 | refine below_set ?_ GE107.out | refine below_set ?_ GE116.out | refine below_set ?_ GE117.out) | exact HB.out)⟩⟩
   case rest =>
    clear HC11
    try clear c1
    try clear c2
    try clear p2
    try clear c3
    try clear c4
    try clear c5
    try clear c5b0
    try clear c5b1
    try clear p6
    try clear c9
    try clear c15
    try clear c16
    try clear c22
    try clear c23
    try clear c24
    try clear c26
    try clear c27
    try clear c29
    try clear c29b0
    try clear c29b1
    try clear c30
    try clear c30b0
    try clear c30b1
    try clear c31
    try clear c32
    try clear c34
    try clear c37
    try clear c38
    try clear c40
    try clear c42
    try clear c43
    try clear hcz17_0
    try clear hcz17_1
    try clear hcz25_0
    try clear hcz25_1
    try clear hcz28_0
    try clear hcz28_1
    try clear hcz33_0
    try clear hcz33_1
    try clear hcz35_0
    try clear hcz35_1
    try clear hcz36_0
    try clear hcz36_1
    try clear hcz39_0
    try clear hcz39_1
    try clear hcz41_0
    try clear hcz41_1
    try clear hcz44_0
    try clear hcz44_1
    try clear hfz17_0
    try clear hfz17_1
    try clear hfz25_0
    try clear hfz25_1
    try clear hfz28_0
    try clear hfz28_1
    try clear hfz33_0
    try clear hfz33_1
    try clear hfz35_0
    try clear hfz35_1
    try clear hfz36_0
    try clear hfz36_1
    try clear hfz39_0
    try clear hfz39_1
    try clear hfz41_0
    try clear hfz41_1
    try clear hfz44_0
    try clear hfz44_1
    obtain ⟨kq, x53_10, rfl, HA, HJ10, HO_117000, HO_118000, BK107, BK116, BK117, HB⟩ := hcut
    cases kq with
    | zero => exact absurd HA.out (by simp [parolelaw37_OddsFair.j0])
    | succ kj10 =>
     have H := HA.out
     clear HA
     simp only [parolelaw37_OddsFair.j0] at H
     by_cases c45 : x53_10 = true
     ·subst c45
      have H1 : (if t111 = 2 then (some true) else (if t115 = 2 then (some true) else (if t106 > 1048576 then (some true) else (some false)))) = some r := by rw [if_pos rfl] at H; exact H
      clear H
      have H := H1
      clear H1
      by_cases c46 : t111 = 2
      ·rw [if_pos c46] at H
       have c46b0 : (t111 == 2) = true := beq_iff_eq.mpr c46
       have c46b1 : (t111 != 2) = false := bne_eq_false_iff_eq.mpr c46
       clear c46
       obtain rfl := Option.some.inj H
       have hnb47 := NB116_107.out
       have hnc47 := NB107_116.out
       have hnb48 := NB116_117.out
       have hnc48 := NB117_116.out
       have hcz49_0 : wc.cell? ⟨gb116, 0, none⟩ = some (.slice Ao22 t108.length co22) := (blk_cell BK116.out 0).trans rfl
       have hcz49_1 : wc.cell? ⟨gb116, 1, none⟩ = some (.int .i64 t111) := (blk_cell BK116.out 1).trans rfl
       have hfz49_0 := blk_frozen BK116.out 0
       have hfz49_1 := blk_frozen BK116.out 1
       go_wp2
       go_ret
       exact ⟨by first | rfl | (simp [errW_none, errW_some] <;> rfl) | (simp [*, errW_none, errW_some] <;> rfl), by repeat (first | (with_reducible first | exact HB.out | apply below_alloc | apply pw_below_drewN | apply below_drew1 | refine below_set ?_ GE107.out | refine below_set ?_ GE116.out | refine below_set ?_ GE117.out) | exact HB.out)⟩
      ·rw [if_neg c46] at H
       have c46b0 : (t111 == 2) = false := beq_eq_false_iff_ne.mpr c46
       have c46b1 : (t111 != 2) = true := bne_iff_ne.mpr c46
       by_cases c50 : t115 = 2
       ·rw [if_pos c50] at H
        have c50b0 : (t115 == 2) = true := beq_iff_eq.mpr c50
        have c50b1 : (t115 != 2) = false := bne_eq_false_iff_eq.mpr c50
        clear c50
        obtain rfl := Option.some.inj H
        have hnb51 := NB116_107.out
        have hnc51 := NB107_116.out
        have hnb52 := NB116_117.out
        have hnc52 := NB117_116.out
        have hcz53_0 : wc.cell? ⟨gb116, 0, none⟩ = some (.slice Ao22 t108.length co22) := (blk_cell BK116.out 0).trans rfl
        have hcz53_1 : wc.cell? ⟨gb116, 1, none⟩ = some (.int .i64 t111) := (blk_cell BK116.out 1).trans rfl
        have hfz53_0 := blk_frozen BK116.out 0
        have hfz53_1 := blk_frozen BK116.out 1
        have hnb54 := NB117_107.out
        have hnc54 := NB107_117.out
        have hcz55_0 : wc.cell? ⟨gb117, 0, none⟩ = some (.slice Ao26 t112.length co26) := (blk_cell BK117.out 0).trans rfl
        have hcz55_1 : wc.cell? ⟨gb117, 1, none⟩ = some (.int .i64 t115) := (blk_cell BK117.out 1).trans rfl
        have hfz55_0 := blk_frozen BK117.out 0
        have hfz55_1 := blk_frozen BK117.out 1
        go_wp2
        go_ret
        exact ⟨by first | rfl | (simp [errW_none, errW_some] <;> rfl) | (simp [*, errW_none, errW_some] <;> rfl), by repeat (first | (with_reducible first | exact HB.out | apply below_alloc | apply pw_below_drewN | apply below_drew1 | refine below_set ?_ GE107.out | refine below_set ?_ GE116.out | refine below_set ?_ GE117.out) | exact HB.out)⟩
       ·rw [if_neg c50] at H
        have c50b0 : (t115 == 2) = false := beq_eq_false_iff_ne.mpr c50
        have c50b1 : (t115 != 2) = true := bne_iff_ne.mpr c50
        by_cases c56 : t106 > 1048576
        ·rw [if_pos c56] at H
         have c56b0 : decide (1048576 < t106) = true := decide_eq_true c56
         clear c56
         obtain rfl := Option.some.inj H
         have hnb57 := NB116_107.out
         have hnc57 := NB107_116.out
         have hnb58 := NB116_117.out
         have hnc58 := NB117_116.out
         have hcz59_0 : wc.cell? ⟨gb116, 0, none⟩ = some (.slice Ao22 t108.length co22) := (blk_cell BK116.out 0).trans rfl
         have hcz59_1 : wc.cell? ⟨gb116, 1, none⟩ = some (.int .i64 t111) := (blk_cell BK116.out 1).trans rfl
         have hfz59_0 := blk_frozen BK116.out 0
         have hfz59_1 := blk_frozen BK116.out 1
         have hnb60 := NB117_107.out
         have hnc60 := NB107_117.out
         have hcz61_0 : wc.cell? ⟨gb117, 0, none⟩ = some (.slice Ao26 t112.length co26) := (blk_cell BK117.out 0).trans rfl
         have hcz61_1 : wc.cell? ⟨gb117, 1, none⟩ = some (.int .i64 t115) := (blk_cell BK117.out 1).trans rfl
         have hfz61_0 := blk_frozen BK117.out 0
         have hfz61_1 := blk_frozen BK117.out 1
         have hcz62_0 : wc.cell? ⟨gb107, 0, none⟩ = some (.int .i64 t105) := (blk_cell BK107.out 0).trans rfl
         have hcz62_1 : wc.cell? ⟨gb107, 1, none⟩ = some (.int .i64 t106) := (blk_cell BK107.out 1).trans rfl
         have hfz62_0 := blk_frozen BK107.out 0
         have hfz62_1 := blk_frozen BK107.out 1
         go_wp2
         go_ret
         exact ⟨by first | rfl | (simp [errW_none, errW_some] <;> rfl) | (simp [*, errW_none, errW_some] <;> rfl), by repeat (first | (with_reducible first | exact HB.out | apply below_alloc | apply pw_below_drewN | apply below_drew1 | refine below_set ?_ GE107.out | refine below_set ?_ GE116.out | refine below_set ?_ GE117.out) | exact HB.out)⟩
        ·rw [if_neg c56] at H
         have c56b0 : decide (1048576 < t106) = false := decide_eq_false c56
         clear c56
         exact absurd ((Option.some.inj H).trans HT.out) (by decide)
     ·replace c45 := Bool.eq_false_iff.mpr c45
      subst c45
      have H1 : ((rat_Sub.f kj10 1 1 t105 t106).bind fun bt118 => ((odds_Of.f kj10 t108 (wrap64 (1 + (wrap64 (Int.tmod a1 14))))).bind fun bt122 => ((rat_Mul.f kj10 t105 t106 bt122.1 bt122.2).bind fun bt124 => ((odds_Of.f kj10 t112 (wrap64 (1 + (wrap64 (Int.tmod a1 14))))).bind fun bt128 => ((rat_Mul.f kj10 bt118.1 bt118.2.1 bt128.1 bt128.2).bind fun bt130 => ((rat_Add.f kj10 bt124.1 bt124.2.1 bt130.1 bt130.2.1).bind fun bt134 => (if bt118.2.2 = 0 then (if bt124.2.2 = 0 then (if bt130.2.2 = 0 then (if bt134.2.2 = 0 then (if (bt134.1 == t105 && (bt134.2.1 == t106)) = true then (some true) else (some false)) else (some false)) else (some false)) else (some false)) else (some false)))))))) = some r := by rw [if_neg (show ¬ (false = true) by decide)] at H; exact H
      clear H
      have H := H1
      clear H1
      replace H := Option.bind_eq_some_iff.mp H
      obtain ⟨⟨t118, t119, t120⟩, A630, H⟩ := H
      replace H : ((odds_Of.f kj10 t108 (wrap64 (1 + (wrap64 (Int.tmod a1 14))))).bind fun bt122 => ((rat_Mul.f kj10 t105 t106 bt122.1 bt122.2).bind fun bt124 => ((odds_Of.f kj10 t112 (wrap64 (1 + (wrap64 (Int.tmod a1 14))))).bind fun bt128 => ((rat_Mul.f kj10 t118 t119 bt128.1 bt128.2).bind fun bt130 => ((rat_Add.f kj10 bt124.1 bt124.2.1 bt130.1 bt130.2.1).bind fun bt134 => (if t120 = 0 then (if bt124.2.2 = 0 then (if bt130.2.2 = 0 then (if bt134.2.2 = 0 then (if (bt134.1 == t105 && (bt134.2.1 == t106)) = true then (some true) else (some false)) else (some false)) else (some false)) else (some false)) else (some false))))))) = some r := H
      have A63 := Aside0.mk A630
      clear A630
      replace H := Option.bind_eq_some_iff.mp H
      obtain ⟨⟨t122, t123⟩, A640, H⟩ := H
      replace H : ((rat_Mul.f kj10 t105 t106 t122 t123).bind fun bt124 => ((odds_Of.f kj10 t112 (wrap64 (1 + (wrap64 (Int.tmod a1 14))))).bind fun bt128 => ((rat_Mul.f kj10 t118 t119 bt128.1 bt128.2).bind fun bt130 => ((rat_Add.f kj10 bt124.1 bt124.2.1 bt130.1 bt130.2.1).bind fun bt134 => (if t120 = 0 then (if bt124.2.2 = 0 then (if bt130.2.2 = 0 then (if bt134.2.2 = 0 then (if (bt134.1 == t105 && (bt134.2.1 == t106)) = true then (some true) else (some false)) else (some false)) else (some false)) else (some false)) else (some false)))))) = some r := H
      have A64 := Aside0.mk A640
      clear A640
      replace H := Option.bind_eq_some_iff.mp H
      obtain ⟨⟨t124, t125, t126⟩, A650, H⟩ := H
      replace H : ((odds_Of.f kj10 t112 (wrap64 (1 + (wrap64 (Int.tmod a1 14))))).bind fun bt128 => ((rat_Mul.f kj10 t118 t119 bt128.1 bt128.2).bind fun bt130 => ((rat_Add.f kj10 t124 t125 bt130.1 bt130.2.1).bind fun bt134 => (if t120 = 0 then (if t126 = 0 then (if bt130.2.2 = 0 then (if bt134.2.2 = 0 then (if (bt134.1 == t105 && (bt134.2.1 == t106)) = true then (some true) else (some false)) else (some false)) else (some false)) else (some false)) else (some false))))) = some r := H
      have A65 := Aside0.mk A650
      clear A650
      replace H := Option.bind_eq_some_iff.mp H
      obtain ⟨⟨t128, t129⟩, A660, H⟩ := H
      replace H : ((rat_Mul.f kj10 t118 t119 t128 t129).bind fun bt130 => ((rat_Add.f kj10 t124 t125 bt130.1 bt130.2.1).bind fun bt134 => (if t120 = 0 then (if t126 = 0 then (if bt130.2.2 = 0 then (if bt134.2.2 = 0 then (if (bt134.1 == t105 && (bt134.2.1 == t106)) = true then (some true) else (some false)) else (some false)) else (some false)) else (some false)) else (some false)))) = some r := H
      have A66 := Aside0.mk A660
      clear A660
      replace H := Option.bind_eq_some_iff.mp H
      obtain ⟨⟨t130, t131, t132⟩, A670, H⟩ := H
      replace H : ((rat_Add.f kj10 t124 t125 t130 t131).bind fun bt134 => (if t120 = 0 then (if t126 = 0 then (if t132 = 0 then (if bt134.2.2 = 0 then (if (bt134.1 == t105 && (bt134.2.1 == t106)) = true then (some true) else (some false)) else (some false)) else (some false)) else (some false)) else (some false))) = some r := H
      have A67 := Aside0.mk A670
      clear A670
      replace H := Option.bind_eq_some_iff.mp H
      obtain ⟨⟨t134, t135, t136⟩, A680, H⟩ := H
      replace H : (if t120 = 0 then (if t126 = 0 then (if t132 = 0 then (if t136 = 0 then (if (t134 == t105 && (t135 == t106)) = true then (some true) else (some false)) else (some false)) else (some false)) else (some false)) else (some false)) = some r := H
      have A68 := Aside0.mk A680
      clear A680
      by_cases c69 : t120 = 0
      ·rw [if_pos c69] at H
       have c69b0 : (t120 == 0) = true := beq_iff_eq.mpr c69
       have c69b1 : (t120 != 0) = false := bne_eq_false_iff_eq.mpr c69
       clear c69
       by_cases c70 : t126 = 0
       ·rw [if_pos c70] at H
        have c70b0 : (t126 == 0) = true := beq_iff_eq.mpr c70
        have c70b1 : (t126 != 0) = false := bne_eq_false_iff_eq.mpr c70
        clear c70
        by_cases c71 : t132 = 0
        ·rw [if_pos c71] at H
         have c71b0 : (t132 == 0) = true := beq_iff_eq.mpr c71
         have c71b1 : (t132 != 0) = false := bne_eq_false_iff_eq.mpr c71
         clear c71
         by_cases c72 : t136 = 0
         ·rw [if_pos c72] at H
          have c72b0 : (t136 == 0) = true := beq_iff_eq.mpr c72
          have c72b1 : (t136 != 0) = false := bne_eq_false_iff_eq.mpr c72
          clear c72
          by_cases c73 : (t134 == t105 && (t135 == t106)) = true
          ·rw [if_pos c73] at H
           have c73b0 : (t134 == t105 && (t135 == t106)) = true := c73
           (try (have c73b1 : decide (t134 = t105 && (t135 == t106)) = true := by simpa using c73))
           (try (have c73b2 : (t134 == t105 && (t135 == t106)) = true := by simpa using c73))
           clear c73
           obtain rfl := Option.some.inj H
           have hnb74 := NB107_116.out
           have hnc74 := NB116_107.out
           have hnb75 := NB107_117.out
           have hnc75 := NB117_107.out
           have hcz76_0 : wc.cell? ⟨gb107, 0, none⟩ = some (.int .i64 t105) := (blk_cell BK107.out 0).trans rfl
           have hcz76_1 : wc.cell? ⟨gb107, 1, none⟩ = some (.int .i64 t106) := (blk_cell BK107.out 1).trans rfl
           have hfz76_0 := blk_frozen BK107.out 0
           have hfz76_1 := blk_frozen BK107.out 1
           try go_wp2_with (first | ((with_reducible refine gate_callee (f := 48) rfl ?_); refine goesL_ (some 73) rfl rfl Try.func48 (by kernel_rfl) rfl #[.agg #[.int .i64 1, .int .i64 1], .agg #[.int .i64 t105, .int .i64 t106]] rfl (by (try simp only [List.map_toArray, List.map_cons, List.map_nil]); first | done | rfl | (simp only [List.length_drop, List.length_take]; rfl)) ?_; (with_reducible refine (rat_Sub.calls kj10 1 1 t105 t106 t118 t119 t120 _ A63.out).mono ?_); rintro e w77 ⟨rfl, hb⟩; refine ⟨_, rfl, ?_⟩; have n0_ := Aside0.mk (Kd.R_below (by (with_reducible repeat (first | apply Kd.R_alloc | apply Kd.R_drewN | apply Kd.R_drew)); exact HO_117000.out) hb); have n1_ := Aside0.mk (Kd.R_below (by (with_reducible repeat (first | apply Kd.R_alloc | apply Kd.R_drewN | apply Kd.R_drew)); exact HO_118000.out) hb); have n2_ := Aside0.mk (blk_below (g := gb107) (o := .cells #[.int .i64 t105, .int .i64 t106] 35 (0, 0)) (by (with_reducible repeat (first | refine blk_drewN ?_ _ | refine blk_drew ?_ | refine blk_alloc ?_ _)); exact BK107.out) hb); have n3_ := Aside0.mk (blk_below (g := gb116) (o := .cells #[.slice Ao22 t108.length co22, .int .i64 t111] 32 (0, 0)) (by (with_reducible repeat (first | refine blk_drewN ?_ _ | refine blk_drew ?_ | refine blk_alloc ?_ _)); exact BK116.out) hb); have n4_ := Aside0.mk (blk_below (g := gb117) (o := .cells #[.slice Ao26 t112.length co26, .int .i64 t115] 32 (0, 0)) (by (with_reducible repeat (first | refine blk_drewN ?_ _ | refine blk_drew ?_ | refine blk_alloc ?_ _)); exact BK117.out) hb); have n5_ := Aside0.mk (below_step (by repeat (first | (with_reducible first | exact HB.out | apply below_alloc | apply pw_below_drewN | apply below_drew1 | refine below_set ?_ GE107.out | refine below_set ?_ GE116.out | refine below_set ?_ GE117.out) | exact HB.out)) hb); clear HO_117000; clear HO_118000; clear BK107; clear BK116; clear BK117; clear HB; have HO_117000 := n0_; have HO_118000 := n1_; have BK107 := n2_; have BK116 := n3_; have BK117 := n4_; have HB := n5_; clear n0_ n1_ n2_ n3_ n4_ n5_; (try clear hb); (try clear hb2); (try clear hk); (try clear hi)) | ((with_reducible refine gate_dst (N := 11) rfl ?_); refine box_event ?hg (N := 11) ?hd (cs := #[.int .i64 0, .int .i64 0]) (t := 35) ?hr ?_; (case hd => rfl); (case hg => rfl); (case hr => first | (go_simp; done) | (go_simp; rfl)); intro gb121 hg w78 hbox hb; have n0_ := Aside0.mk (Kd.R_below (by (with_reducible repeat (first | apply Kd.R_alloc | apply Kd.R_drewN | apply Kd.R_drew)); exact HO_117000.out) hb); have n1_ := Aside0.mk (Kd.R_below (by (with_reducible repeat (first | apply Kd.R_alloc | apply Kd.R_drewN | apply Kd.R_drew)); exact HO_118000.out) hb); have n2_ := Aside0.mk (blk_below (g := gb107) (o := .cells #[.int .i64 t105, .int .i64 t106] 35 (0, 0)) (by (with_reducible repeat (first | refine blk_drewN ?_ _ | refine blk_drew ?_ | refine blk_alloc ?_ _)); exact BK107.out) hb); have n3_ := Aside0.mk (blk_below (g := gb116) (o := .cells #[.slice Ao22 t108.length co22, .int .i64 t111] 32 (0, 0)) (by (with_reducible repeat (first | refine blk_drewN ?_ _ | refine blk_drew ?_ | refine blk_alloc ?_ _)); exact BK116.out) hb); have n4_ := Aside0.mk (blk_below (g := gb117) (o := .cells #[.slice Ao26 t112.length co26, .int .i64 t115] 32 (0, 0)) (by (with_reducible repeat (first | refine blk_drewN ?_ _ | refine blk_drew ?_ | refine blk_alloc ?_ _)); exact BK117.out) hb); have n5_ := Aside0.mk (below_step (by repeat (first | (with_reducible first | exact HB.out | apply below_alloc | apply pw_below_drewN | apply below_drew1 | refine below_set ?_ GE107.out | refine below_set ?_ GE116.out | refine below_set ?_ GE117.out) | exact HB.out)) hb); have n6_ := Aside0.mk (hbox); have n7_ := Aside0.mk ((by rw [hg]; exact (below_size (by repeat (first | (with_reducible first | exact HB.out | apply below_alloc | apply pw_below_drewN | apply below_drew1 | refine below_set ?_ GE107.out | refine below_set ?_ GE116.out | refine below_set ?_ GE117.out) | exact HB.out))) : w.heap.size ≤ gb121)); have n8_ := Aside0.mk ((by rw [hg]; exact (below_size (by repeat (first | (with_reducible first | exact HB.out | apply below_alloc | apply pw_below_drewN | apply below_drew1 | refine below_set ?_ GE107.out | refine below_set ?_ GE116.out | refine below_set ?_ GE117.out) | exact HB.out))) : w.heap.size ≤ gb121)); have n9_ := Aside0.mk ((by rw [hg]; exact Nat.ne_of_lt (blk_lt (g := gb107) (o := .cells #[.int .i64 t105, .int .i64 t106] 35 (0, 0)) (by (with_reducible repeat (first | refine blk_drewN ?_ _ | refine blk_drew ?_ | refine blk_alloc ?_ _)); exact BK107.out)) : gb107 ≠ gb121)); have n10_ := Aside0.mk ((by rw [hg]; exact Nat.ne_of_gt (blk_lt (g := gb107) (o := .cells #[.int .i64 t105, .int .i64 t106] 35 (0, 0)) (by (with_reducible repeat (first | refine blk_drewN ?_ _ | refine blk_drew ?_ | refine blk_alloc ?_ _)); exact BK107.out)) : gb121 ≠ gb107)); have n11_ := Aside0.mk ((by rw [hg]; exact Nat.ne_of_lt (blk_lt (g := gb116) (o := .cells #[.slice Ao22 t108.length co22, .int .i64 t111] 32 (0, 0)) (by (with_reducible repeat (first | refine blk_drewN ?_ _ | refine blk_drew ?_ | refine blk_alloc ?_ _)); exact BK116.out)) : gb116 ≠ gb121)); have n12_ := Aside0.mk ((by rw [hg]; exact Nat.ne_of_gt (blk_lt (g := gb116) (o := .cells #[.slice Ao22 t108.length co22, .int .i64 t111] 32 (0, 0)) (by (with_reducible repeat (first | refine blk_drewN ?_ _ | refine blk_drew ?_ | refine blk_alloc ?_ _)); exact BK116.out)) : gb121 ≠ gb116)); have n13_ := Aside0.mk ((by rw [hg]; exact Nat.ne_of_lt (blk_lt (g := gb117) (o := .cells #[.slice Ao26 t112.length co26, .int .i64 t115] 32 (0, 0)) (by (with_reducible repeat (first | refine blk_drewN ?_ _ | refine blk_drew ?_ | refine blk_alloc ?_ _)); exact BK117.out)) : gb117 ≠ gb121)); have n14_ := Aside0.mk ((by rw [hg]; exact Nat.ne_of_gt (blk_lt (g := gb117) (o := .cells #[.slice Ao26 t112.length co26, .int .i64 t115] 32 (0, 0)) (by (with_reducible repeat (first | refine blk_drewN ?_ _ | refine blk_drew ?_ | refine blk_alloc ?_ _)); exact BK117.out)) : gb121 ≠ gb117)); clear HO_117000; clear HO_118000; clear BK107; clear BK116; clear BK117; clear HB; have HO_117000 := n0_; have HO_118000 := n1_; have BK107 := n2_; have BK116 := n3_; have BK117 := n4_; have HB := n5_; have BK121 := n6_; have GW121 := n7_; have GE121 := n8_; have NB107_121 := n9_; have NB121_107 := n10_; have NB116_121 := n11_; have NB121_116 := n12_; have NB117_121 := n13_; have NB121_117 := n14_; clear n0_ n1_ n2_ n3_ n4_ n5_ n6_ n7_ n8_ n9_ n10_ n11_ n12_ n13_ n14_; clear hb hbox hg; have hnb79 := NB121_107.out; have hnc79 := NB107_121.out; have hnb80 := NB121_116.out; have hnc80 := NB116_121.out; have hnb81 := NB121_117.out; have hnc81 := NB117_121.out; have hcz82_0 : w78.cell? ⟨gb121, 0, none⟩ = some (.int .i64 0) := (blk_cell BK121.out 0).trans rfl; have hcz82_1 : w78.cell? ⟨gb121, 1, none⟩ = some (.int .i64 0) := (blk_cell BK121.out 1).trans rfl; have hfz82_0 := blk_frozen BK121.out 0; have hfz82_1 := blk_frozen BK121.out 1))
           have n0_ : Aside0 (Kd.R k71 71 ((w78.setCell ⟨gb121, 0, none⟩ (.int .i64 t118)).setCell ⟨gb121, 1, none⟩ (.int .i64 t119)) w.heap.size (fun k_ => some k_ ≠ (.slice Ao26 t112.length co26 : Value).ownBlock) (.slice Ao22 t108.length co22) t108) := ⟨by (with_reducible repeat (first | apply Kd.R_alloc | apply Kd.R_drewN | apply Kd.R_drew)); exact Kd.R_mono (Kd.R_far (p := ⟨gb121, 1, none⟩) (Kd.R_far (p := ⟨gb121, 0, none⟩) (Kd.R_types HO_117000.out BK121.out (by decide)) (fun _ hk => hk.2) (.int .i64 t118)) (fun _ hk => hk.2) (.int .i64 t119)) (fun _ hk => hk.1)⟩
           have n1_ : Aside0 (Kd.R k71 71 ((w78.setCell ⟨gb121, 0, none⟩ (.int .i64 t118)).setCell ⟨gb121, 1, none⟩ (.int .i64 t119)) w.heap.size (fun k_ => some k_ ≠ (.slice Ao22 t108.length co22 : Value).ownBlock) (.slice Ao26 t112.length co26) t112) := ⟨by (with_reducible repeat (first | apply Kd.R_alloc | apply Kd.R_drewN | apply Kd.R_drew)); exact Kd.R_mono (Kd.R_far (p := ⟨gb121, 1, none⟩) (Kd.R_far (p := ⟨gb121, 0, none⟩) (Kd.R_types HO_118000.out BK121.out (by decide)) (fun _ hk => hk.2) (.int .i64 t118)) (fun _ hk => hk.2) (.int .i64 t119)) (fun _ hk => hk.1)⟩
           have n2_ : Aside0 (((w78.setCell ⟨gb121, 0, none⟩ (.int .i64 t118)).setCell ⟨gb121, 1, none⟩ (.int .i64 t119)).heap[gb107]? = some (.cells #[.int .i64 t105, .int .i64 t106] 35 (0, 0))) := ⟨by (with_reducible repeat (first | refine blk_drewN ?_ _ | refine blk_drew ?_ | refine blk_alloc ?_ _)); refine blk_far ?_ NB107_121.out _; (with_reducible repeat (first | refine blk_drewN ?_ _ | refine blk_drew ?_ | refine blk_alloc ?_ _)); refine blk_far ?_ NB107_121.out _; (with_reducible repeat (first | refine blk_drewN ?_ _ | refine blk_drew ?_ | refine blk_alloc ?_ _)); exact BK107.out⟩
           have n3_ : Aside0 (((w78.setCell ⟨gb121, 0, none⟩ (.int .i64 t118)).setCell ⟨gb121, 1, none⟩ (.int .i64 t119)).heap[gb116]? = some (.cells #[.slice Ao22 t108.length co22, .int .i64 t111] 32 (0, 0))) := ⟨by (with_reducible repeat (first | refine blk_drewN ?_ _ | refine blk_drew ?_ | refine blk_alloc ?_ _)); refine blk_far ?_ NB116_121.out _; (with_reducible repeat (first | refine blk_drewN ?_ _ | refine blk_drew ?_ | refine blk_alloc ?_ _)); refine blk_far ?_ NB116_121.out _; (with_reducible repeat (first | refine blk_drewN ?_ _ | refine blk_drew ?_ | refine blk_alloc ?_ _)); exact BK116.out⟩
           have n4_ : Aside0 (((w78.setCell ⟨gb121, 0, none⟩ (.int .i64 t118)).setCell ⟨gb121, 1, none⟩ (.int .i64 t119)).heap[gb117]? = some (.cells #[.slice Ao26 t112.length co26, .int .i64 t115] 32 (0, 0))) := ⟨by (with_reducible repeat (first | refine blk_drewN ?_ _ | refine blk_drew ?_ | refine blk_alloc ?_ _)); refine blk_far ?_ NB117_121.out _; (with_reducible repeat (first | refine blk_drewN ?_ _ | refine blk_drew ?_ | refine blk_alloc ?_ _)); refine blk_far ?_ NB117_121.out _; (with_reducible repeat (first | refine blk_drewN ?_ _ | refine blk_drew ?_ | refine blk_alloc ?_ _)); exact BK117.out⟩
           have n5_ : Aside0 (((w78.setCell ⟨gb121, 0, none⟩ (.int .i64 t118)).setCell ⟨gb121, 1, none⟩ (.int .i64 t119)).heap[gb121]? = some (.cells #[.int .i64 t118, .int .i64 t119] 35 (0, 0))) := ⟨by (with_reducible repeat (first | refine blk_drewN ?_ _ | refine blk_drew ?_ | refine blk_alloc ?_ _)); refine blk_put (cs := #[.int .i64 t118, .int .i64 0]) ?_ 1 _ rfl; (with_reducible repeat (first | refine blk_drewN ?_ _ | refine blk_drew ?_ | refine blk_alloc ?_ _)); refine blk_put (cs := #[.int .i64 0, .int .i64 0]) ?_ 0 _ rfl; (with_reducible repeat (first | refine blk_drewN ?_ _ | refine blk_drew ?_ | refine blk_alloc ?_ _)); exact BK121.out⟩
           have n6_ : Aside0 (Below w.heap.size w ((w78.setCell ⟨gb121, 0, none⟩ (.int .i64 t118)).setCell ⟨gb121, 1, none⟩ (.int .i64 t119))) := ⟨by repeat (first | (with_reducible first | exact HB.out | apply below_alloc | apply pw_below_drewN | apply below_drew1 | refine below_set ?_ GE107.out | refine below_set ?_ GE116.out | refine below_set ?_ GE117.out | refine below_set ?_ GE121.out) | exact HB.out)⟩
           (try clear HO_117000); (try clear HO_118000); (try clear BK107); (try clear BK116); (try clear BK117); (try clear BK121); (try clear HB)
           generalize ((w78.setCell ⟨gb121, 0, none⟩ (.int .i64 t118)).setCell ⟨gb121, 1, none⟩ (.int .i64 t119)) = w83 at n0_ n1_ n2_ n3_ n4_ n5_ n6_ ⊢
           have HO_117000 := n0_; have HO_118000 := n1_; have BK107 := n2_; have BK116 := n3_; have BK117 := n4_; have BK121 := n5_; have HB := n6_; clear n0_ n1_ n2_ n3_ n4_ n5_ n6_
           have n0_ := Aside0.mk (Kd.R_drew HO_117000.out)
           have n1_ := Aside0.mk (Kd.R_drew HO_118000.out)
           have n2_ := Aside0.mk (blk_drew BK107.out)
           have n3_ := Aside0.mk (blk_drew BK116.out)
           have n4_ := Aside0.mk (blk_drew BK117.out)
           have n5_ := Aside0.mk (blk_drew BK121.out)
           have n6_ := Aside0.mk (below_drew1 HB.out)
           clear HO_117000 HO_118000 BK107 BK116 BK117 BK121 HB; have HO_117000 := n0_; have HO_118000 := n1_; have BK107 := n2_; have BK116 := n3_; have BK117 := n4_; have BK121 := n5_; have HB := n6_; clear n0_ n1_ n2_ n3_ n4_ n5_ n6_
           refine start_ (n := 12) (S := fun w' => w'.cell? ⟨gb107, 0, none⟩ = some (.int .i64 t105) ∧ w'.cell? ⟨gb107, 1, none⟩ = some (.int .i64 t106) ∧ w'.cell? ⟨gb116, 0, none⟩ = some (.slice Ao22 t108.length co22) ∧ w'.cell? ⟨gb116, 1, none⟩ = some (.int .i64 t111)) (ds := []) #[false, false, false, false, false, false, false, false, false, false, false, false] (by kernel_rfl) rfl rfl ⟨(blk_cell BK107.out 0).trans rfl, (blk_cell BK107.out 1).trans rfl, (blk_cell BK116.out 0).trans rfl, (blk_cell BK116.out 1).trans rfl⟩ (fun hHeld => ?_); refine with_tabW parolelaw37_OddsFair.tab13 parolelaw37_OddsFair.bits13 (fun HT_ HW_ => ?_)
           generalize w83.drew = w84 at HO_117000 HO_118000 BK107 BK116 BK117 BK121 HB hHeld ⊢
           refine pX (i := 1) (N := some 78) rfl rfl HT_ ?_
           refine pX (i := 3) (N := some 80) rfl rfl HT_ ?_
           refine tX (i := 0) (N := some 77) rfl rfl HT_ HW_ hHeld (Or.inl ⟨by rfl, by rintro w' ⟨s0, s1, s2, s3⟩; go_simp; with_reducible rfl⟩) ?_
           refine tX (i := 2) (N := some 79) rfl rfl HT_ HW_ hHeld (Or.inl ⟨by rfl, by rintro w' ⟨s0, s1, s2, s3⟩; go_simp; with_reducible rfl⟩) ?_
           refine join_ (σ := Nat) 2 #[true, true, true, true, true, true, true, true, true, true, false, false] (fun s_ => [(81, .agg #[.int .i64 t122, .int .i64 t123]), (82, .tuple #[.agg #[.int .i64 t124, .int .i64 t125], .int .i64 t126]), (13, .pointer (some ⟨s_, 0, none⟩)), (76, .tuple #[.agg #[.int .i64 t124, .int .i64 t125], .int .i64 t126]), (83, .agg #[.int .i64 t124, .int .i64 t125]), (84, .int .i64 t126)]) (fun s_ w' => (w'.cell? ⟨gb107, 0, none⟩ = some (.int .i64 t105) ∧ w'.cell? ⟨gb107, 1, none⟩ = some (.int .i64 t106) ∧ w'.cell? ⟨gb116, 0, none⟩ = some (.slice Ao22 t108.length co22) ∧ w'.cell? ⟨gb116, 1, none⟩ = some (.int .i64 t111)) ∧ (Kd.R k71 71 w' w.heap.size (fun k_ => some k_ ≠ (.slice Ao26 t112.length co26 : Value).ownBlock) (.slice Ao22 t108.length co22) t108) ∧ (Kd.R k71 71 w' w.heap.size (fun k_ => some k_ ≠ (.slice Ao22 t108.length co22 : Value).ownBlock) (.slice Ao26 t112.length co26) t112) ∧ (w'.heap[gb107]? = some (.cells #[.int .i64 t105, .int .i64 t106] 35 (0, 0))) ∧ (w'.heap[gb116]? = some (.cells #[.slice Ao22 t108.length co22, .int .i64 t111] 32 (0, 0))) ∧ (w'.heap[gb117]? = some (.cells #[.slice Ao26 t112.length co26, .int .i64 t115] 32 (0, 0))) ∧ (w'.heap[gb121]? = some (.cells #[.int .i64 t118, .int .i64 t119] 35 (0, 0))) ∧ (w'.heap[s_]? = some (.cells #[.int .i64 0, .int .i64 0] 35 (0, 0))) ∧ (w.heap.size ≤ s_) ∧ (w.heap.size ≤ s_) ∧ (gb107 ≠ s_) ∧ (s_ ≠ gb107) ∧ (gb116 ≠ s_) ∧ (s_ ≠ gb116) ∧ (gb117 ≠ s_) ∧ (s_ ≠ gb117) ∧ (gb121 ≠ s_) ∧ (s_ ≠ gb121) ∧ (Below w.heap.size w w')) ?_ ?_
           rotate_left
           ·intro hCont
            refine two_ (i := 4) (j := 9) (Ni := some 81) (Nj := some 13) #[true, true, true, true, true, false, false, false, false, false, false, false] #[true, true, true, true, false, false, false, false, false, true, false, false] rfl rfl rfl rfl (two_of HT_.out (by kernel_rfl)) (by decide) (by decide) (fun K hK => ?_) (fun K hK => ?_)
            ·skip
             refine goes_ Try.func22 (by kernel_rfl) rfl #[.slice Ao22 t108.length co22, .int .i64 (wrap64 (1 + (wrap64 (Int.tmod a1 14))))] (by rfl) rfl rfl (by (try simp only [List.map_toArray, List.map_cons, List.map_nil]); first | done | rfl | (simp only [List.length_drop, List.length_take]; rfl)) ?_
             with_reducible refine (odds_Of.calls kj10 _ _ t108 (wrap64 (1 + (wrap64 (Int.tmod a1 14)))) t122 t123 _ ?side1 ?side2 A64.out).mono ?_
             (case side1 => repeat (first | exact (Kd.R_reads' HO_117000.out).2.2 | (with_reducible refine Kd.C_alloc ?_ _) | (with_reducible refine Kd.C_drewN ?_ _) | (with_reducible refine Kd.C_drew ?_)))
             (case side2 => exact (Kd.R_reads' HO_117000.out).2.1)
             rintro e w85 ⟨rfl, hb⟩
             refine ⟨_, rfl, ?_⟩
             have n0_ := Aside0.mk (Kd.R_below (by (with_reducible repeat (first | apply Kd.R_alloc | apply Kd.R_drewN | apply Kd.R_drew)); exact HO_117000.out) hb)
             have n1_ := Aside0.mk (Kd.R_below (by (with_reducible repeat (first | apply Kd.R_alloc | apply Kd.R_drewN | apply Kd.R_drew)); exact HO_118000.out) hb)
             have n2_ := Aside0.mk (blk_below (g := gb107) (o := .cells #[.int .i64 t105, .int .i64 t106] 35 (0, 0)) (by (with_reducible repeat (first | refine blk_drewN ?_ _ | refine blk_drew ?_ | refine blk_alloc ?_ _)); exact BK107.out) hb)
             have n3_ := Aside0.mk (blk_below (g := gb116) (o := .cells #[.slice Ao22 t108.length co22, .int .i64 t111] 32 (0, 0)) (by (with_reducible repeat (first | refine blk_drewN ?_ _ | refine blk_drew ?_ | refine blk_alloc ?_ _)); exact BK116.out) hb)
             have n4_ := Aside0.mk (blk_below (g := gb117) (o := .cells #[.slice Ao26 t112.length co26, .int .i64 t115] 32 (0, 0)) (by (with_reducible repeat (first | refine blk_drewN ?_ _ | refine blk_drew ?_ | refine blk_alloc ?_ _)); exact BK117.out) hb)
             have n5_ := Aside0.mk (blk_below (g := gb121) (o := .cells #[.int .i64 t118, .int .i64 t119] 35 (0, 0)) (by (with_reducible repeat (first | refine blk_drewN ?_ _ | refine blk_drew ?_ | refine blk_alloc ?_ _)); exact BK121.out) hb)
             have n6_ := Aside0.mk (below_step (by repeat (first | (with_reducible first | exact HB.out | apply below_alloc | apply pw_below_drewN | apply below_drew1 | refine below_set ?_ GE107.out | refine below_set ?_ GE116.out | refine below_set ?_ GE117.out | refine below_set ?_ GE121.out) | exact HB.out)) hb)
             clear HO_117000 HO_118000 BK107 BK116 BK117 BK121 HB; have HO_117000 := n0_; have HO_118000 := n1_; have BK107 := n2_; have BK116 := n3_; have BK117 := n4_; have BK121 := n5_; have HB := n6_; clear n0_ n1_ n2_ n3_ n4_ n5_ n6_; (try clear hb); (try clear hb2); (try clear hk); (try clear hi)
             refine hK.out _ _ ⟨(blk_cell BK107.out 0).trans rfl, (blk_cell BK107.out 1).trans rfl, (blk_cell BK116.out 0).trans rfl, (blk_cell BK116.out 1).trans rfl⟩ (fun hHeld => ?_)
             clear hK K
             refine nX (some 81) ?_
             refine two_ (i := 5) (j := 9) (Ni := some 82) (Nj := some 13) #[true, true, true, true, true, true, false, false, false, false, false, false] #[true, true, true, true, true, false, false, false, false, true, false, false] rfl rfl rfl rfl (two_of HT_.out (by kernel_rfl)) (by decide) (by decide) (fun K hK => ?_) (fun K hK => ?_)
             ·skip
              refine goes_ Try.func49 (by kernel_rfl) rfl #[.agg #[.int .i64 t105, .int .i64 t106], .agg #[.int .i64 t122, .int .i64 t123]] (by rfl) rfl rfl (by (try simp only [List.map_toArray, List.map_cons, List.map_nil]); first | done | rfl | (simp only [List.length_drop, List.length_take]; rfl)) ?_
              with_reducible refine (rat_Mul.calls kj10 t105 t106 t122 t123 t124 t125 t126 _ A65.out).mono ?_
              rintro e w86 ⟨rfl, hb⟩
              refine ⟨_, rfl, ?_⟩
              have n0_ := Aside0.mk (Kd.R_below (by (with_reducible repeat (first | apply Kd.R_alloc | apply Kd.R_drewN | apply Kd.R_drew)); exact HO_117000.out) hb)
              have n1_ := Aside0.mk (Kd.R_below (by (with_reducible repeat (first | apply Kd.R_alloc | apply Kd.R_drewN | apply Kd.R_drew)); exact HO_118000.out) hb)
              have n2_ := Aside0.mk (blk_below (g := gb107) (o := .cells #[.int .i64 t105, .int .i64 t106] 35 (0, 0)) (by (with_reducible repeat (first | refine blk_drewN ?_ _ | refine blk_drew ?_ | refine blk_alloc ?_ _)); exact BK107.out) hb)
              have n3_ := Aside0.mk (blk_below (g := gb116) (o := .cells #[.slice Ao22 t108.length co22, .int .i64 t111] 32 (0, 0)) (by (with_reducible repeat (first | refine blk_drewN ?_ _ | refine blk_drew ?_ | refine blk_alloc ?_ _)); exact BK116.out) hb)
              have n4_ := Aside0.mk (blk_below (g := gb117) (o := .cells #[.slice Ao26 t112.length co26, .int .i64 t115] 32 (0, 0)) (by (with_reducible repeat (first | refine blk_drewN ?_ _ | refine blk_drew ?_ | refine blk_alloc ?_ _)); exact BK117.out) hb)
              have n5_ := Aside0.mk (blk_below (g := gb121) (o := .cells #[.int .i64 t118, .int .i64 t119] 35 (0, 0)) (by (with_reducible repeat (first | refine blk_drewN ?_ _ | refine blk_drew ?_ | refine blk_alloc ?_ _)); exact BK121.out) hb)
              have n6_ := Aside0.mk (below_step (by repeat (first | (with_reducible first | exact HB.out | apply below_alloc | apply pw_below_drewN | apply below_drew1 | refine below_set ?_ GE107.out | refine below_set ?_ GE116.out | refine below_set ?_ GE117.out | refine below_set ?_ GE121.out) | exact HB.out)) hb)
              clear HO_117000 HO_118000 BK107 BK116 BK117 BK121 HB; have HO_117000 := n0_; have HO_118000 := n1_; have BK107 := n2_; have BK116 := n3_; have BK117 := n4_; have BK121 := n5_; have HB := n6_; clear n0_ n1_ n2_ n3_ n4_ n5_ n6_; (try clear hb); (try clear hb2); (try clear hk); (try clear hi)
              refine hK.out _ _ ⟨(blk_cell BK107.out 0).trans rfl, (blk_cell BK107.out 1).trans rfl, (blk_cell BK116.out 0).trans rfl, (blk_cell BK116.out 1).trans rfl⟩ (fun hHeld => ?_)
              clear hK K
              refine nX (some 82) ?_
              refine pX (i := 6) (N := some 76) rfl rfl HT_ ?_
              refine pX (i := 7) (N := some 83) rfl rfl HT_ ?_
              refine pX (i := 8) (N := some 84) rfl rfl HT_ ?_
              refine oX (i := 9) (N := some 13) rfl rfl HT_ (fun K hK => ?_)
              refine box_step ?hg (N := 13) ?hd (cs := #[.int .i64 0, .int .i64 0]) (t := 35) ?hr ?_; (case hd => rfl); (case hg => rfl); (case hr => first | (go_simp; done) | (go_simp; rfl))
              intro gb127 hg w87 hbox hb
              have n0_ := Aside0.mk (Kd.R_below (by (with_reducible repeat (first | apply Kd.R_alloc | apply Kd.R_drewN | apply Kd.R_drew)); exact HO_117000.out) hb)
              have n1_ := Aside0.mk (Kd.R_below (by (with_reducible repeat (first | apply Kd.R_alloc | apply Kd.R_drewN | apply Kd.R_drew)); exact HO_118000.out) hb)
              have n2_ := Aside0.mk (blk_below (g := gb107) (o := .cells #[.int .i64 t105, .int .i64 t106] 35 (0, 0)) (by (with_reducible repeat (first | refine blk_drewN ?_ _ | refine blk_drew ?_ | refine blk_alloc ?_ _)); exact BK107.out) hb)
              have n3_ := Aside0.mk (blk_below (g := gb116) (o := .cells #[.slice Ao22 t108.length co22, .int .i64 t111] 32 (0, 0)) (by (with_reducible repeat (first | refine blk_drewN ?_ _ | refine blk_drew ?_ | refine blk_alloc ?_ _)); exact BK116.out) hb)
              have n4_ := Aside0.mk (blk_below (g := gb117) (o := .cells #[.slice Ao26 t112.length co26, .int .i64 t115] 32 (0, 0)) (by (with_reducible repeat (first | refine blk_drewN ?_ _ | refine blk_drew ?_ | refine blk_alloc ?_ _)); exact BK117.out) hb)
              have n5_ := Aside0.mk (blk_below (g := gb121) (o := .cells #[.int .i64 t118, .int .i64 t119] 35 (0, 0)) (by (with_reducible repeat (first | refine blk_drewN ?_ _ | refine blk_drew ?_ | refine blk_alloc ?_ _)); exact BK121.out) hb)
              have n6_ := Aside0.mk (below_step (by repeat (first | (with_reducible first | exact HB.out | apply below_alloc | apply pw_below_drewN | apply below_drew1 | refine below_set ?_ GE107.out | refine below_set ?_ GE116.out | refine below_set ?_ GE117.out | refine below_set ?_ GE121.out) | exact HB.out)) hb)
              have n7_ := Aside0.mk (hbox)
              have n8_ := Aside0.mk ((by rw [hg]; exact (below_size (by repeat (first | (with_reducible first | exact HB.out | apply below_alloc | apply pw_below_drewN | apply below_drew1 | refine below_set ?_ GE107.out | refine below_set ?_ GE116.out | refine below_set ?_ GE117.out | refine below_set ?_ GE121.out) | exact HB.out))) : w.heap.size ≤ gb127))
              have n9_ := Aside0.mk ((by rw [hg]; exact (below_size (by repeat (first | (with_reducible first | exact HB.out | apply below_alloc | apply pw_below_drewN | apply below_drew1 | refine below_set ?_ GE107.out | refine below_set ?_ GE116.out | refine below_set ?_ GE117.out | refine below_set ?_ GE121.out) | exact HB.out))) : w.heap.size ≤ gb127))
              have n10_ := Aside0.mk ((by rw [hg]; exact Nat.ne_of_lt (blk_lt (g := gb107) (o := .cells #[.int .i64 t105, .int .i64 t106] 35 (0, 0)) (by (with_reducible repeat (first | refine blk_drewN ?_ _ | refine blk_drew ?_ | refine blk_alloc ?_ _)); exact BK107.out)) : gb107 ≠ gb127))
              have n11_ := Aside0.mk ((by rw [hg]; exact Nat.ne_of_gt (blk_lt (g := gb107) (o := .cells #[.int .i64 t105, .int .i64 t106] 35 (0, 0)) (by (with_reducible repeat (first | refine blk_drewN ?_ _ | refine blk_drew ?_ | refine blk_alloc ?_ _)); exact BK107.out)) : gb127 ≠ gb107))
              have n12_ := Aside0.mk ((by rw [hg]; exact Nat.ne_of_lt (blk_lt (g := gb116) (o := .cells #[.slice Ao22 t108.length co22, .int .i64 t111] 32 (0, 0)) (by (with_reducible repeat (first | refine blk_drewN ?_ _ | refine blk_drew ?_ | refine blk_alloc ?_ _)); exact BK116.out)) : gb116 ≠ gb127))
              have n13_ := Aside0.mk ((by rw [hg]; exact Nat.ne_of_gt (blk_lt (g := gb116) (o := .cells #[.slice Ao22 t108.length co22, .int .i64 t111] 32 (0, 0)) (by (with_reducible repeat (first | refine blk_drewN ?_ _ | refine blk_drew ?_ | refine blk_alloc ?_ _)); exact BK116.out)) : gb127 ≠ gb116))
              have n14_ := Aside0.mk ((by rw [hg]; exact Nat.ne_of_lt (blk_lt (g := gb117) (o := .cells #[.slice Ao26 t112.length co26, .int .i64 t115] 32 (0, 0)) (by (with_reducible repeat (first | refine blk_drewN ?_ _ | refine blk_drew ?_ | refine blk_alloc ?_ _)); exact BK117.out)) : gb117 ≠ gb127))
              have n15_ := Aside0.mk ((by rw [hg]; exact Nat.ne_of_gt (blk_lt (g := gb117) (o := .cells #[.slice Ao26 t112.length co26, .int .i64 t115] 32 (0, 0)) (by (with_reducible repeat (first | refine blk_drewN ?_ _ | refine blk_drew ?_ | refine blk_alloc ?_ _)); exact BK117.out)) : gb127 ≠ gb117))
              have n16_ := Aside0.mk ((by rw [hg]; exact Nat.ne_of_lt (blk_lt (g := gb121) (o := .cells #[.int .i64 t118, .int .i64 t119] 35 (0, 0)) (by (with_reducible repeat (first | refine blk_drewN ?_ _ | refine blk_drew ?_ | refine blk_alloc ?_ _)); exact BK121.out)) : gb121 ≠ gb127))
              have n17_ := Aside0.mk ((by rw [hg]; exact Nat.ne_of_gt (blk_lt (g := gb121) (o := .cells #[.int .i64 t118, .int .i64 t119] 35 (0, 0)) (by (with_reducible repeat (first | refine blk_drewN ?_ _ | refine blk_drew ?_ | refine blk_alloc ?_ _)); exact BK121.out)) : gb127 ≠ gb121))
              clear HO_117000 HO_118000 BK107 BK116 BK117 BK121 HB; have HO_117000 := n0_; have HO_118000 := n1_; have BK107 := n2_; have BK116 := n3_; have BK117 := n4_; have BK121 := n5_; have HB := n6_; have BK127 := n7_; have GW127 := n8_; have GE127 := n9_; have NB107_127 := n10_; have NB127_107 := n11_; have NB116_127 := n12_; have NB127_116 := n13_; have NB117_127 := n14_; have NB127_117 := n15_; have NB121_127 := n16_; have NB127_121 := n17_; clear n0_ n1_ n2_ n3_ n4_ n5_ n6_ n7_ n8_ n9_ n10_ n11_ n12_ n13_ n14_ n15_ n16_ n17_ hb hbox hg
              refine hK.out _ _ ⟨(blk_cell BK107.out 0).trans rfl, (blk_cell BK107.out 1).trans rfl, (blk_cell BK116.out 0).trans rfl, (blk_cell BK116.out 1).trans rfl⟩ (fun hHeld => ?_)
              clear hK K
              refine nX (some 13) ?_
              exact norm_ (by simp only [putAll, Act.put, List.setIfInBounds_toArray, List.set_cons_zero, List.set_cons_succ]) (hCont (gb127) _ ⟨hHeld, (by (with_reducible repeat (first | apply Kd.R_alloc | apply Kd.R_drewN | apply Kd.R_drew)); exact HO_117000.out), (by (with_reducible repeat (first | apply Kd.R_alloc | apply Kd.R_drewN | apply Kd.R_drew)); exact HO_118000.out), (by (with_reducible repeat (first | refine blk_drewN ?_ _ | refine blk_drew ?_ | refine blk_alloc ?_ _)); exact BK107.out), (by (with_reducible repeat (first | refine blk_drewN ?_ _ | refine blk_drew ?_ | refine blk_alloc ?_ _)); exact BK116.out), (by (with_reducible repeat (first | refine blk_drewN ?_ _ | refine blk_drew ?_ | refine blk_alloc ?_ _)); exact BK117.out), (by (with_reducible repeat (first | refine blk_drewN ?_ _ | refine blk_drew ?_ | refine blk_alloc ?_ _)); exact BK121.out), (by (with_reducible repeat (first | refine blk_drewN ?_ _ | refine blk_drew ?_ | refine blk_alloc ?_ _)); exact BK127.out), GW127.out, GE127.out, NB107_127.out, NB127_107.out, NB116_127.out, NB127_116.out, NB117_127.out, NB127_117.out, NB121_127.out, NB127_121.out, (by repeat (first | (with_reducible first | exact HB.out | apply below_alloc | apply pw_below_drewN | apply below_drew1 | refine below_set ?_ GE107.out | refine below_set ?_ GE116.out | refine below_set ?_ GE117.out | refine below_set ?_ GE121.out | refine below_set ?_ GE127.out) | exact HB.out))⟩)
             ·skip
              refine box_step ?hg (N := 13) ?hd (cs := #[.int .i64 0, .int .i64 0]) (t := 35) ?hr ?_; (case hd => rfl); (case hg => rfl); (case hr => first | (go_simp; done) | (go_simp; rfl))
              intro gb127 hg w86 hbox hb
              have n0_ := Aside0.mk (Kd.R_below (by (with_reducible repeat (first | apply Kd.R_alloc | apply Kd.R_drewN | apply Kd.R_drew)); exact HO_117000.out) hb)
              have n1_ := Aside0.mk (Kd.R_below (by (with_reducible repeat (first | apply Kd.R_alloc | apply Kd.R_drewN | apply Kd.R_drew)); exact HO_118000.out) hb)
              have n2_ := Aside0.mk (blk_below (g := gb107) (o := .cells #[.int .i64 t105, .int .i64 t106] 35 (0, 0)) (by (with_reducible repeat (first | refine blk_drewN ?_ _ | refine blk_drew ?_ | refine blk_alloc ?_ _)); exact BK107.out) hb)
              have n3_ := Aside0.mk (blk_below (g := gb116) (o := .cells #[.slice Ao22 t108.length co22, .int .i64 t111] 32 (0, 0)) (by (with_reducible repeat (first | refine blk_drewN ?_ _ | refine blk_drew ?_ | refine blk_alloc ?_ _)); exact BK116.out) hb)
              have n4_ := Aside0.mk (blk_below (g := gb117) (o := .cells #[.slice Ao26 t112.length co26, .int .i64 t115] 32 (0, 0)) (by (with_reducible repeat (first | refine blk_drewN ?_ _ | refine blk_drew ?_ | refine blk_alloc ?_ _)); exact BK117.out) hb)
              have n5_ := Aside0.mk (blk_below (g := gb121) (o := .cells #[.int .i64 t118, .int .i64 t119] 35 (0, 0)) (by (with_reducible repeat (first | refine blk_drewN ?_ _ | refine blk_drew ?_ | refine blk_alloc ?_ _)); exact BK121.out) hb)
              have n6_ := Aside0.mk (below_step (by repeat (first | (with_reducible first | exact HB.out | apply below_alloc | apply pw_below_drewN | apply below_drew1 | refine below_set ?_ GE107.out | refine below_set ?_ GE116.out | refine below_set ?_ GE117.out | refine below_set ?_ GE121.out) | exact HB.out)) hb)
              have n7_ := Aside0.mk (hbox)
              have n8_ := Aside0.mk ((by rw [hg]; exact (below_size (by repeat (first | (with_reducible first | exact HB.out | apply below_alloc | apply pw_below_drewN | apply below_drew1 | refine below_set ?_ GE107.out | refine below_set ?_ GE116.out | refine below_set ?_ GE117.out | refine below_set ?_ GE121.out) | exact HB.out))) : w.heap.size ≤ gb127))
              have n9_ := Aside0.mk ((by rw [hg]; exact (below_size (by repeat (first | (with_reducible first | exact HB.out | apply below_alloc | apply pw_below_drewN | apply below_drew1 | refine below_set ?_ GE107.out | refine below_set ?_ GE116.out | refine below_set ?_ GE117.out | refine below_set ?_ GE121.out) | exact HB.out))) : w.heap.size ≤ gb127))
              have n10_ := Aside0.mk ((by rw [hg]; exact Nat.ne_of_lt (blk_lt (g := gb107) (o := .cells #[.int .i64 t105, .int .i64 t106] 35 (0, 0)) (by (with_reducible repeat (first | refine blk_drewN ?_ _ | refine blk_drew ?_ | refine blk_alloc ?_ _)); exact BK107.out)) : gb107 ≠ gb127))
              have n11_ := Aside0.mk ((by rw [hg]; exact Nat.ne_of_gt (blk_lt (g := gb107) (o := .cells #[.int .i64 t105, .int .i64 t106] 35 (0, 0)) (by (with_reducible repeat (first | refine blk_drewN ?_ _ | refine blk_drew ?_ | refine blk_alloc ?_ _)); exact BK107.out)) : gb127 ≠ gb107))
              have n12_ := Aside0.mk ((by rw [hg]; exact Nat.ne_of_lt (blk_lt (g := gb116) (o := .cells #[.slice Ao22 t108.length co22, .int .i64 t111] 32 (0, 0)) (by (with_reducible repeat (first | refine blk_drewN ?_ _ | refine blk_drew ?_ | refine blk_alloc ?_ _)); exact BK116.out)) : gb116 ≠ gb127))
              have n13_ := Aside0.mk ((by rw [hg]; exact Nat.ne_of_gt (blk_lt (g := gb116) (o := .cells #[.slice Ao22 t108.length co22, .int .i64 t111] 32 (0, 0)) (by (with_reducible repeat (first | refine blk_drewN ?_ _ | refine blk_drew ?_ | refine blk_alloc ?_ _)); exact BK116.out)) : gb127 ≠ gb116))
              have n14_ := Aside0.mk ((by rw [hg]; exact Nat.ne_of_lt (blk_lt (g := gb117) (o := .cells #[.slice Ao26 t112.length co26, .int .i64 t115] 32 (0, 0)) (by (with_reducible repeat (first | refine blk_drewN ?_ _ | refine blk_drew ?_ | refine blk_alloc ?_ _)); exact BK117.out)) : gb117 ≠ gb127))
              have n15_ := Aside0.mk ((by rw [hg]; exact Nat.ne_of_gt (blk_lt (g := gb117) (o := .cells #[.slice Ao26 t112.length co26, .int .i64 t115] 32 (0, 0)) (by (with_reducible repeat (first | refine blk_drewN ?_ _ | refine blk_drew ?_ | refine blk_alloc ?_ _)); exact BK117.out)) : gb127 ≠ gb117))
              have n16_ := Aside0.mk ((by rw [hg]; exact Nat.ne_of_lt (blk_lt (g := gb121) (o := .cells #[.int .i64 t118, .int .i64 t119] 35 (0, 0)) (by (with_reducible repeat (first | refine blk_drewN ?_ _ | refine blk_drew ?_ | refine blk_alloc ?_ _)); exact BK121.out)) : gb121 ≠ gb127))
              have n17_ := Aside0.mk ((by rw [hg]; exact Nat.ne_of_gt (blk_lt (g := gb121) (o := .cells #[.int .i64 t118, .int .i64 t119] 35 (0, 0)) (by (with_reducible repeat (first | refine blk_drewN ?_ _ | refine blk_drew ?_ | refine blk_alloc ?_ _)); exact BK121.out)) : gb127 ≠ gb121))
              clear HO_117000 HO_118000 BK107 BK116 BK117 BK121 HB; have HO_117000 := n0_; have HO_118000 := n1_; have BK107 := n2_; have BK116 := n3_; have BK117 := n4_; have BK121 := n5_; have HB := n6_; have BK127 := n7_; have GW127 := n8_; have GE127 := n9_; have NB107_127 := n10_; have NB127_107 := n11_; have NB116_127 := n12_; have NB127_116 := n13_; have NB117_127 := n14_; have NB127_117 := n15_; have NB121_127 := n16_; have NB127_121 := n17_; clear n0_ n1_ n2_ n3_ n4_ n5_ n6_ n7_ n8_ n9_ n10_ n11_ n12_ n13_ n14_ n15_ n16_ n17_ hb hbox hg
              refine hK.out _ _ ⟨(blk_cell BK107.out 0).trans rfl, (blk_cell BK107.out 1).trans rfl, (blk_cell BK116.out 0).trans rfl, (blk_cell BK116.out 1).trans rfl⟩ (fun hHeld => ?_)
              clear hK K
              refine nX (some 13) ?_
              refine oX (i := 5) (N := some 82) rfl rfl HT_ (fun K hK => ?_)
              refine goes_ Try.func49 (by kernel_rfl) rfl #[.agg #[.int .i64 t105, .int .i64 t106], .agg #[.int .i64 t122, .int .i64 t123]] (by rfl) rfl rfl (by (try simp only [List.map_toArray, List.map_cons, List.map_nil]); first | done | rfl | (simp only [List.length_drop, List.length_take]; rfl)) ?_
              with_reducible refine (rat_Mul.calls kj10 t105 t106 t122 t123 t124 t125 t126 _ A65.out).mono ?_
              rintro e w87 ⟨rfl, hb⟩
              refine ⟨_, rfl, ?_⟩
              have n0_ := Aside0.mk (Kd.R_below (by (with_reducible repeat (first | apply Kd.R_alloc | apply Kd.R_drewN | apply Kd.R_drew)); exact HO_117000.out) hb)
              have n1_ := Aside0.mk (Kd.R_below (by (with_reducible repeat (first | apply Kd.R_alloc | apply Kd.R_drewN | apply Kd.R_drew)); exact HO_118000.out) hb)
              have n2_ := Aside0.mk (blk_below (g := gb107) (o := .cells #[.int .i64 t105, .int .i64 t106] 35 (0, 0)) (by (with_reducible repeat (first | refine blk_drewN ?_ _ | refine blk_drew ?_ | refine blk_alloc ?_ _)); exact BK107.out) hb)
              have n3_ := Aside0.mk (blk_below (g := gb116) (o := .cells #[.slice Ao22 t108.length co22, .int .i64 t111] 32 (0, 0)) (by (with_reducible repeat (first | refine blk_drewN ?_ _ | refine blk_drew ?_ | refine blk_alloc ?_ _)); exact BK116.out) hb)
              have n4_ := Aside0.mk (blk_below (g := gb117) (o := .cells #[.slice Ao26 t112.length co26, .int .i64 t115] 32 (0, 0)) (by (with_reducible repeat (first | refine blk_drewN ?_ _ | refine blk_drew ?_ | refine blk_alloc ?_ _)); exact BK117.out) hb)
              have n5_ := Aside0.mk (blk_below (g := gb121) (o := .cells #[.int .i64 t118, .int .i64 t119] 35 (0, 0)) (by (with_reducible repeat (first | refine blk_drewN ?_ _ | refine blk_drew ?_ | refine blk_alloc ?_ _)); exact BK121.out) hb)
              have n6_ := Aside0.mk (blk_below (g := gb127) (o := .cells #[.int .i64 0, .int .i64 0] 35 (0, 0)) (by (with_reducible repeat (first | refine blk_drewN ?_ _ | refine blk_drew ?_ | refine blk_alloc ?_ _)); exact BK127.out) hb)
              have n7_ := Aside0.mk (below_step (by repeat (first | (with_reducible first | exact HB.out | apply below_alloc | apply pw_below_drewN | apply below_drew1 | refine below_set ?_ GE107.out | refine below_set ?_ GE116.out | refine below_set ?_ GE117.out | refine below_set ?_ GE121.out | refine below_set ?_ GE127.out) | exact HB.out)) hb)
              clear HO_117000 HO_118000 BK107 BK116 BK117 BK121 BK127 HB; have HO_117000 := n0_; have HO_118000 := n1_; have BK107 := n2_; have BK116 := n3_; have BK117 := n4_; have BK121 := n5_; have BK127 := n6_; have HB := n7_; clear n0_ n1_ n2_ n3_ n4_ n5_ n6_ n7_; (try clear hb); (try clear hb2); (try clear hk); (try clear hi)
              refine hK.out _ _ ⟨(blk_cell BK107.out 0).trans rfl, (blk_cell BK107.out 1).trans rfl, (blk_cell BK116.out 0).trans rfl, (blk_cell BK116.out 1).trans rfl⟩ (fun hHeld => ?_)
              clear hK K
              refine nX (some 82) ?_
              refine pX (i := 6) (N := some 76) rfl rfl HT_ ?_
              refine pX (i := 7) (N := some 83) rfl rfl HT_ ?_
              refine pX (i := 8) (N := some 84) rfl rfl HT_ ?_
              exact norm_ (by simp only [putAll, Act.put, List.setIfInBounds_toArray, List.set_cons_zero, List.set_cons_succ]) (hCont (gb127) _ ⟨hHeld, (by (with_reducible repeat (first | apply Kd.R_alloc | apply Kd.R_drewN | apply Kd.R_drew)); exact HO_117000.out), (by (with_reducible repeat (first | apply Kd.R_alloc | apply Kd.R_drewN | apply Kd.R_drew)); exact HO_118000.out), (by (with_reducible repeat (first | refine blk_drewN ?_ _ | refine blk_drew ?_ | refine blk_alloc ?_ _)); exact BK107.out), (by (with_reducible repeat (first | refine blk_drewN ?_ _ | refine blk_drew ?_ | refine blk_alloc ?_ _)); exact BK116.out), (by (with_reducible repeat (first | refine blk_drewN ?_ _ | refine blk_drew ?_ | refine blk_alloc ?_ _)); exact BK117.out), (by (with_reducible repeat (first | refine blk_drewN ?_ _ | refine blk_drew ?_ | refine blk_alloc ?_ _)); exact BK121.out), (by (with_reducible repeat (first | refine blk_drewN ?_ _ | refine blk_drew ?_ | refine blk_alloc ?_ _)); exact BK127.out), GW127.out, GE127.out, NB107_127.out, NB127_107.out, NB116_127.out, NB127_116.out, NB117_127.out, NB127_117.out, NB121_127.out, NB127_121.out, (by repeat (first | (with_reducible first | exact HB.out | apply below_alloc | apply pw_below_drewN | apply below_drew1 | refine below_set ?_ GE107.out | refine below_set ?_ GE116.out | refine below_set ?_ GE117.out | refine below_set ?_ GE121.out | refine below_set ?_ GE127.out) | exact HB.out))⟩)
            ·skip
             refine box_step ?hg (N := 13) ?hd (cs := #[.int .i64 0, .int .i64 0]) (t := 35) ?hr ?_; (case hd => rfl); (case hg => rfl); (case hr => first | (go_simp; done) | (go_simp; rfl))
             intro gb127 hg w85 hbox hb
             have n0_ := Aside0.mk (Kd.R_below (by (with_reducible repeat (first | apply Kd.R_alloc | apply Kd.R_drewN | apply Kd.R_drew)); exact HO_117000.out) hb)
             have n1_ := Aside0.mk (Kd.R_below (by (with_reducible repeat (first | apply Kd.R_alloc | apply Kd.R_drewN | apply Kd.R_drew)); exact HO_118000.out) hb)
             have n2_ := Aside0.mk (blk_below (g := gb107) (o := .cells #[.int .i64 t105, .int .i64 t106] 35 (0, 0)) (by (with_reducible repeat (first | refine blk_drewN ?_ _ | refine blk_drew ?_ | refine blk_alloc ?_ _)); exact BK107.out) hb)
             have n3_ := Aside0.mk (blk_below (g := gb116) (o := .cells #[.slice Ao22 t108.length co22, .int .i64 t111] 32 (0, 0)) (by (with_reducible repeat (first | refine blk_drewN ?_ _ | refine blk_drew ?_ | refine blk_alloc ?_ _)); exact BK116.out) hb)
             have n4_ := Aside0.mk (blk_below (g := gb117) (o := .cells #[.slice Ao26 t112.length co26, .int .i64 t115] 32 (0, 0)) (by (with_reducible repeat (first | refine blk_drewN ?_ _ | refine blk_drew ?_ | refine blk_alloc ?_ _)); exact BK117.out) hb)
             have n5_ := Aside0.mk (blk_below (g := gb121) (o := .cells #[.int .i64 t118, .int .i64 t119] 35 (0, 0)) (by (with_reducible repeat (first | refine blk_drewN ?_ _ | refine blk_drew ?_ | refine blk_alloc ?_ _)); exact BK121.out) hb)
             have n6_ := Aside0.mk (below_step (by repeat (first | (with_reducible first | exact HB.out | apply below_alloc | apply pw_below_drewN | apply below_drew1 | refine below_set ?_ GE107.out | refine below_set ?_ GE116.out | refine below_set ?_ GE117.out | refine below_set ?_ GE121.out) | exact HB.out)) hb)
             have n7_ := Aside0.mk (hbox)
             have n8_ := Aside0.mk ((by rw [hg]; exact (below_size (by repeat (first | (with_reducible first | exact HB.out | apply below_alloc | apply pw_below_drewN | apply below_drew1 | refine below_set ?_ GE107.out | refine below_set ?_ GE116.out | refine below_set ?_ GE117.out | refine below_set ?_ GE121.out) | exact HB.out))) : w.heap.size ≤ gb127))
             have n9_ := Aside0.mk ((by rw [hg]; exact (below_size (by repeat (first | (with_reducible first | exact HB.out | apply below_alloc | apply pw_below_drewN | apply below_drew1 | refine below_set ?_ GE107.out | refine below_set ?_ GE116.out | refine below_set ?_ GE117.out | refine below_set ?_ GE121.out) | exact HB.out))) : w.heap.size ≤ gb127))
             have n10_ := Aside0.mk ((by rw [hg]; exact Nat.ne_of_lt (blk_lt (g := gb107) (o := .cells #[.int .i64 t105, .int .i64 t106] 35 (0, 0)) (by (with_reducible repeat (first | refine blk_drewN ?_ _ | refine blk_drew ?_ | refine blk_alloc ?_ _)); exact BK107.out)) : gb107 ≠ gb127))
             have n11_ := Aside0.mk ((by rw [hg]; exact Nat.ne_of_gt (blk_lt (g := gb107) (o := .cells #[.int .i64 t105, .int .i64 t106] 35 (0, 0)) (by (with_reducible repeat (first | refine blk_drewN ?_ _ | refine blk_drew ?_ | refine blk_alloc ?_ _)); exact BK107.out)) : gb127 ≠ gb107))
             have n12_ := Aside0.mk ((by rw [hg]; exact Nat.ne_of_lt (blk_lt (g := gb116) (o := .cells #[.slice Ao22 t108.length co22, .int .i64 t111] 32 (0, 0)) (by (with_reducible repeat (first | refine blk_drewN ?_ _ | refine blk_drew ?_ | refine blk_alloc ?_ _)); exact BK116.out)) : gb116 ≠ gb127))
             have n13_ := Aside0.mk ((by rw [hg]; exact Nat.ne_of_gt (blk_lt (g := gb116) (o := .cells #[.slice Ao22 t108.length co22, .int .i64 t111] 32 (0, 0)) (by (with_reducible repeat (first | refine blk_drewN ?_ _ | refine blk_drew ?_ | refine blk_alloc ?_ _)); exact BK116.out)) : gb127 ≠ gb116))
             have n14_ := Aside0.mk ((by rw [hg]; exact Nat.ne_of_lt (blk_lt (g := gb117) (o := .cells #[.slice Ao26 t112.length co26, .int .i64 t115] 32 (0, 0)) (by (with_reducible repeat (first | refine blk_drewN ?_ _ | refine blk_drew ?_ | refine blk_alloc ?_ _)); exact BK117.out)) : gb117 ≠ gb127))
             have n15_ := Aside0.mk ((by rw [hg]; exact Nat.ne_of_gt (blk_lt (g := gb117) (o := .cells #[.slice Ao26 t112.length co26, .int .i64 t115] 32 (0, 0)) (by (with_reducible repeat (first | refine blk_drewN ?_ _ | refine blk_drew ?_ | refine blk_alloc ?_ _)); exact BK117.out)) : gb127 ≠ gb117))
             have n16_ := Aside0.mk ((by rw [hg]; exact Nat.ne_of_lt (blk_lt (g := gb121) (o := .cells #[.int .i64 t118, .int .i64 t119] 35 (0, 0)) (by (with_reducible repeat (first | refine blk_drewN ?_ _ | refine blk_drew ?_ | refine blk_alloc ?_ _)); exact BK121.out)) : gb121 ≠ gb127))
             have n17_ := Aside0.mk ((by rw [hg]; exact Nat.ne_of_gt (blk_lt (g := gb121) (o := .cells #[.int .i64 t118, .int .i64 t119] 35 (0, 0)) (by (with_reducible repeat (first | refine blk_drewN ?_ _ | refine blk_drew ?_ | refine blk_alloc ?_ _)); exact BK121.out)) : gb127 ≠ gb121))
             clear HO_117000 HO_118000 BK107 BK116 BK117 BK121 HB; have HO_117000 := n0_; have HO_118000 := n1_; have BK107 := n2_; have BK116 := n3_; have BK117 := n4_; have BK121 := n5_; have HB := n6_; have BK127 := n7_; have GW127 := n8_; have GE127 := n9_; have NB107_127 := n10_; have NB127_107 := n11_; have NB116_127 := n12_; have NB127_116 := n13_; have NB117_127 := n14_; have NB127_117 := n15_; have NB121_127 := n16_; have NB127_121 := n17_; clear n0_ n1_ n2_ n3_ n4_ n5_ n6_ n7_ n8_ n9_ n10_ n11_ n12_ n13_ n14_ n15_ n16_ n17_ hb hbox hg
             refine hK.out _ _ ⟨(blk_cell BK107.out 0).trans rfl, (blk_cell BK107.out 1).trans rfl, (blk_cell BK116.out 0).trans rfl, (blk_cell BK116.out 1).trans rfl⟩ (fun hHeld => ?_)
             clear hK K
             refine nX (some 13) ?_
             refine oX (i := 4) (N := some 81) rfl rfl HT_ (fun K hK => ?_)
             refine goes_ Try.func22 (by kernel_rfl) rfl #[.slice Ao22 t108.length co22, .int .i64 (wrap64 (1 + (wrap64 (Int.tmod a1 14))))] (by rfl) rfl rfl (by (try simp only [List.map_toArray, List.map_cons, List.map_nil]); first | done | rfl | (simp only [List.length_drop, List.length_take]; rfl)) ?_
             with_reducible refine (odds_Of.calls kj10 _ _ t108 (wrap64 (1 + (wrap64 (Int.tmod a1 14)))) t122 t123 _ ?side1 ?side2 A64.out).mono ?_
             (case side1 => repeat (first | exact (Kd.R_reads' HO_117000.out).2.2 | (with_reducible refine Kd.C_alloc ?_ _) | (with_reducible refine Kd.C_drewN ?_ _) | (with_reducible refine Kd.C_drew ?_)))
             (case side2 => exact (Kd.R_reads' HO_117000.out).2.1)
             rintro e w86 ⟨rfl, hb⟩
             refine ⟨_, rfl, ?_⟩
             have n0_ := Aside0.mk (Kd.R_below (by (with_reducible repeat (first | apply Kd.R_alloc | apply Kd.R_drewN | apply Kd.R_drew)); exact HO_117000.out) hb)
             have n1_ := Aside0.mk (Kd.R_below (by (with_reducible repeat (first | apply Kd.R_alloc | apply Kd.R_drewN | apply Kd.R_drew)); exact HO_118000.out) hb)
             have n2_ := Aside0.mk (blk_below (g := gb107) (o := .cells #[.int .i64 t105, .int .i64 t106] 35 (0, 0)) (by (with_reducible repeat (first | refine blk_drewN ?_ _ | refine blk_drew ?_ | refine blk_alloc ?_ _)); exact BK107.out) hb)
             have n3_ := Aside0.mk (blk_below (g := gb116) (o := .cells #[.slice Ao22 t108.length co22, .int .i64 t111] 32 (0, 0)) (by (with_reducible repeat (first | refine blk_drewN ?_ _ | refine blk_drew ?_ | refine blk_alloc ?_ _)); exact BK116.out) hb)
             have n4_ := Aside0.mk (blk_below (g := gb117) (o := .cells #[.slice Ao26 t112.length co26, .int .i64 t115] 32 (0, 0)) (by (with_reducible repeat (first | refine blk_drewN ?_ _ | refine blk_drew ?_ | refine blk_alloc ?_ _)); exact BK117.out) hb)
             have n5_ := Aside0.mk (blk_below (g := gb121) (o := .cells #[.int .i64 t118, .int .i64 t119] 35 (0, 0)) (by (with_reducible repeat (first | refine blk_drewN ?_ _ | refine blk_drew ?_ | refine blk_alloc ?_ _)); exact BK121.out) hb)
             have n6_ := Aside0.mk (blk_below (g := gb127) (o := .cells #[.int .i64 0, .int .i64 0] 35 (0, 0)) (by (with_reducible repeat (first | refine blk_drewN ?_ _ | refine blk_drew ?_ | refine blk_alloc ?_ _)); exact BK127.out) hb)
             have n7_ := Aside0.mk (below_step (by repeat (first | (with_reducible first | exact HB.out | apply below_alloc | apply pw_below_drewN | apply below_drew1 | refine below_set ?_ GE107.out | refine below_set ?_ GE116.out | refine below_set ?_ GE117.out | refine below_set ?_ GE121.out | refine below_set ?_ GE127.out) | exact HB.out)) hb)
             clear HO_117000 HO_118000 BK107 BK116 BK117 BK121 BK127 HB; have HO_117000 := n0_; have HO_118000 := n1_; have BK107 := n2_; have BK116 := n3_; have BK117 := n4_; have BK121 := n5_; have BK127 := n6_; have HB := n7_; clear n0_ n1_ n2_ n3_ n4_ n5_ n6_ n7_; (try clear hb); (try clear hb2); (try clear hk); (try clear hi)
             refine hK.out _ _ ⟨(blk_cell BK107.out 0).trans rfl, (blk_cell BK107.out 1).trans rfl, (blk_cell BK116.out 0).trans rfl, (blk_cell BK116.out 1).trans rfl⟩ (fun hHeld => ?_)
             clear hK K
             refine nX (some 81) ?_
             refine oX (i := 5) (N := some 82) rfl rfl HT_ (fun K hK => ?_)
             refine goes_ Try.func49 (by kernel_rfl) rfl #[.agg #[.int .i64 t105, .int .i64 t106], .agg #[.int .i64 t122, .int .i64 t123]] (by rfl) rfl rfl (by (try simp only [List.map_toArray, List.map_cons, List.map_nil]); first | done | rfl | (simp only [List.length_drop, List.length_take]; rfl)) ?_
             with_reducible refine (rat_Mul.calls kj10 t105 t106 t122 t123 t124 t125 t126 _ A65.out).mono ?_
             rintro e w87 ⟨rfl, hb⟩
             refine ⟨_, rfl, ?_⟩
             have n0_ := Aside0.mk (Kd.R_below (by (with_reducible repeat (first | apply Kd.R_alloc | apply Kd.R_drewN | apply Kd.R_drew)); exact HO_117000.out) hb)
             have n1_ := Aside0.mk (Kd.R_below (by (with_reducible repeat (first | apply Kd.R_alloc | apply Kd.R_drewN | apply Kd.R_drew)); exact HO_118000.out) hb)
             have n2_ := Aside0.mk (blk_below (g := gb107) (o := .cells #[.int .i64 t105, .int .i64 t106] 35 (0, 0)) (by (with_reducible repeat (first | refine blk_drewN ?_ _ | refine blk_drew ?_ | refine blk_alloc ?_ _)); exact BK107.out) hb)
             have n3_ := Aside0.mk (blk_below (g := gb116) (o := .cells #[.slice Ao22 t108.length co22, .int .i64 t111] 32 (0, 0)) (by (with_reducible repeat (first | refine blk_drewN ?_ _ | refine blk_drew ?_ | refine blk_alloc ?_ _)); exact BK116.out) hb)
             have n4_ := Aside0.mk (blk_below (g := gb117) (o := .cells #[.slice Ao26 t112.length co26, .int .i64 t115] 32 (0, 0)) (by (with_reducible repeat (first | refine blk_drewN ?_ _ | refine blk_drew ?_ | refine blk_alloc ?_ _)); exact BK117.out) hb)
             have n5_ := Aside0.mk (blk_below (g := gb121) (o := .cells #[.int .i64 t118, .int .i64 t119] 35 (0, 0)) (by (with_reducible repeat (first | refine blk_drewN ?_ _ | refine blk_drew ?_ | refine blk_alloc ?_ _)); exact BK121.out) hb)
             have n6_ := Aside0.mk (blk_below (g := gb127) (o := .cells #[.int .i64 0, .int .i64 0] 35 (0, 0)) (by (with_reducible repeat (first | refine blk_drewN ?_ _ | refine blk_drew ?_ | refine blk_alloc ?_ _)); exact BK127.out) hb)
             have n7_ := Aside0.mk (below_step (by repeat (first | (with_reducible first | exact HB.out | apply below_alloc | apply pw_below_drewN | apply below_drew1 | refine below_set ?_ GE107.out | refine below_set ?_ GE116.out | refine below_set ?_ GE117.out | refine below_set ?_ GE121.out | refine below_set ?_ GE127.out) | exact HB.out)) hb)
             clear HO_117000 HO_118000 BK107 BK116 BK117 BK121 BK127 HB; have HO_117000 := n0_; have HO_118000 := n1_; have BK107 := n2_; have BK116 := n3_; have BK117 := n4_; have BK121 := n5_; have BK127 := n6_; have HB := n7_; clear n0_ n1_ n2_ n3_ n4_ n5_ n6_ n7_; (try clear hb); (try clear hb2); (try clear hk); (try clear hi)
             refine hK.out _ _ ⟨(blk_cell BK107.out 0).trans rfl, (blk_cell BK107.out 1).trans rfl, (blk_cell BK116.out 0).trans rfl, (blk_cell BK116.out 1).trans rfl⟩ (fun hHeld => ?_)
             clear hK K
             refine nX (some 82) ?_
             refine pX (i := 6) (N := some 76) rfl rfl HT_ ?_
             refine pX (i := 7) (N := some 83) rfl rfl HT_ ?_
             refine pX (i := 8) (N := some 84) rfl rfl HT_ ?_
             exact norm_ (by simp only [putAll, Act.put, List.setIfInBounds_toArray, List.set_cons_zero, List.set_cons_succ]) (hCont (gb127) _ ⟨hHeld, (by (with_reducible repeat (first | apply Kd.R_alloc | apply Kd.R_drewN | apply Kd.R_drew)); exact HO_117000.out), (by (with_reducible repeat (first | apply Kd.R_alloc | apply Kd.R_drewN | apply Kd.R_drew)); exact HO_118000.out), (by (with_reducible repeat (first | refine blk_drewN ?_ _ | refine blk_drew ?_ | refine blk_alloc ?_ _)); exact BK107.out), (by (with_reducible repeat (first | refine blk_drewN ?_ _ | refine blk_drew ?_ | refine blk_alloc ?_ _)); exact BK116.out), (by (with_reducible repeat (first | refine blk_drewN ?_ _ | refine blk_drew ?_ | refine blk_alloc ?_ _)); exact BK117.out), (by (with_reducible repeat (first | refine blk_drewN ?_ _ | refine blk_drew ?_ | refine blk_alloc ?_ _)); exact BK121.out), (by (with_reducible repeat (first | refine blk_drewN ?_ _ | refine blk_drew ?_ | refine blk_alloc ?_ _)); exact BK127.out), GW127.out, GE127.out, NB107_127.out, NB127_107.out, NB116_127.out, NB127_116.out, NB117_127.out, NB127_117.out, NB121_127.out, NB127_121.out, (by repeat (first | (with_reducible first | exact HB.out | apply below_alloc | apply pw_below_drewN | apply below_drew1 | refine below_set ?_ GE107.out | refine below_set ?_ GE116.out | refine below_set ?_ GE117.out | refine below_set ?_ GE121.out | refine below_set ?_ GE127.out) | exact HB.out))⟩)
           rintro gb127 w88 ⟨hS_, h0_, h1_, h2_, h3_, h4_, h5_, h6_, h7_, h8_, h9_, h10_, h11_, h12_, h13_, h14_, h15_, h16_, h17_⟩
           have n0_ : Aside0 (Kd.R k71 71 w88 w.heap.size (fun k_ => some k_ ≠ (.slice Ao26 t112.length co26 : Value).ownBlock) (.slice Ao22 t108.length co22) t108) := ⟨h0_⟩
           have n1_ : Aside0 (Kd.R k71 71 w88 w.heap.size (fun k_ => some k_ ≠ (.slice Ao22 t108.length co22 : Value).ownBlock) (.slice Ao26 t112.length co26) t112) := ⟨h1_⟩
           have n2_ : Aside0 (w88.heap[gb107]? = some (.cells #[.int .i64 t105, .int .i64 t106] 35 (0, 0))) := ⟨h2_⟩
           have n3_ : Aside0 (w88.heap[gb116]? = some (.cells #[.slice Ao22 t108.length co22, .int .i64 t111] 32 (0, 0))) := ⟨h3_⟩
           have n4_ : Aside0 (w88.heap[gb117]? = some (.cells #[.slice Ao26 t112.length co26, .int .i64 t115] 32 (0, 0))) := ⟨h4_⟩
           have n5_ : Aside0 (w88.heap[gb121]? = some (.cells #[.int .i64 t118, .int .i64 t119] 35 (0, 0))) := ⟨h5_⟩
           have n6_ : Aside0 (w88.heap[gb127]? = some (.cells #[.int .i64 0, .int .i64 0] 35 (0, 0))) := ⟨h6_⟩
           have n7_ : Aside0 (w.heap.size ≤ gb127) := ⟨h7_⟩
           have n8_ : Aside0 (w.heap.size ≤ gb127) := ⟨h8_⟩
           have n9_ : Aside0 (gb107 ≠ gb127) := ⟨h9_⟩
           have n10_ : Aside0 (gb127 ≠ gb107) := ⟨h10_⟩
           have n11_ : Aside0 (gb116 ≠ gb127) := ⟨h11_⟩
           have n12_ : Aside0 (gb127 ≠ gb116) := ⟨h12_⟩
           have n13_ : Aside0 (gb117 ≠ gb127) := ⟨h13_⟩
           have n14_ : Aside0 (gb127 ≠ gb117) := ⟨h14_⟩
           have n15_ : Aside0 (gb121 ≠ gb127) := ⟨h15_⟩
           have n16_ : Aside0 (gb127 ≠ gb121) := ⟨h16_⟩
           have n17_ : Aside0 (Below w.heap.size w w88) := ⟨h17_⟩
           clear HO_117000 HO_118000 BK107 BK116 BK117 BK121 HB h0_ h1_ h2_ h3_ h4_ h5_ h6_ h7_ h8_ h9_ h10_ h11_ h12_ h13_ h14_ h15_ h16_ h17_; have HO_117000 := n0_; have HO_118000 := n1_; have BK107 := n2_; have BK116 := n3_; have BK117 := n4_; have BK121 := n5_; have BK127 := n6_; have GW127 := n7_; have GE127 := n8_; have NB107_127 := n9_; have NB127_107 := n10_; have NB116_127 := n11_; have NB127_116 := n12_; have NB117_127 := n13_; have NB127_117 := n14_; have NB121_127 := n15_; have NB127_121 := n16_; have HB := n17_; clear n0_ n1_ n2_ n3_ n4_ n5_ n6_ n7_ n8_ n9_ n10_ n11_ n12_ n13_ n14_ n15_ n16_ n17_
           have hHeld : w88.cell? ⟨gb107, 0, none⟩ = some (.int .i64 t105) ∧ w88.cell? ⟨gb107, 1, none⟩ = some (.int .i64 t106) ∧ w88.cell? ⟨gb116, 0, none⟩ = some (.slice Ao22 t108.length co22) ∧ w88.cell? ⟨gb116, 1, none⟩ = some (.int .i64 t111) := hS_
           refine norm_ (a' := ?_) ?_ ?_
           rotate_left
           ·simp only [putAll, Act.put, List.setIfInBounds_toArray, List.set_cons_zero, List.set_cons_succ]
            rfl
           refine oX (i := 10) (N := none) rfl rfl HT_ (fun K hK => ?_)
           have hs89 : w88.cell? ⟨gb127, 0, none⟩ = some (.int .i64 0) := (blk_cell BK127.out 0).trans rfl
           have hfs89 := blk_frozen BK127.out 0
           have hns89_0 := NB107_127.out
           have hns89_1 := NB116_127.out
           have hns89_2 := NB117_127.out
           have hns89_3 := NB121_127.out
           have hms89_0 := NB127_107.out
           have hms89_1 := NB127_116.out
           have hms89_2 := NB127_117.out
           have hms89_3 := NB127_121.out
           have hs90 : w88.cell? ⟨gb127, 1, none⟩ = some (.int .i64 0) := (blk_cell BK127.out 1).trans rfl
           have hfs90 := blk_frozen BK127.out 1
           have hns90_0 := NB107_127.out
           have hns90_1 := NB116_127.out
           have hns90_2 := NB117_127.out
           have hns90_3 := NB121_127.out
           have hms90_0 := NB127_107.out
           have hms90_1 := NB127_116.out
           have hms90_2 := NB127_117.out
           have hms90_3 := NB127_121.out
           refine skip_ (w1 := ?_) (by rfl) rfl ?_ ?_
           rotate_left
           ·go_simp
            rfl
           refine hK.out _ _ ⟨((cell_far (p := ⟨gb127, _, none⟩) NB107_127.out _).trans (((cell_far (p := ⟨gb127, _, none⟩) NB107_127.out _).trans (hHeld.1)))), ((cell_far (p := ⟨gb127, _, none⟩) NB107_127.out _).trans (((cell_far (p := ⟨gb127, _, none⟩) NB107_127.out _).trans (hHeld.2.1)))), ((cell_far (p := ⟨gb127, _, none⟩) NB116_127.out _).trans (((cell_far (p := ⟨gb127, _, none⟩) NB116_127.out _).trans (hHeld.2.2.1)))), ((cell_far (p := ⟨gb127, _, none⟩) NB116_127.out _).trans (((cell_far (p := ⟨gb127, _, none⟩) NB116_127.out _).trans (hHeld.2.2.2))))⟩ (fun hHeld => ?_)
           clear hK K
           refine pX (i := 11) (N := some 14) rfl rfl HT_ ?_
           refine done_ (done_of HT_.out (by kernel_rfl)) ?_
           try go_wp2
           have n0_ : Aside0 (Kd.R k71 71 ((w88.setCell ⟨gb127, 0, none⟩ (.int .i64 t124)).setCell ⟨gb127, 1, none⟩ (.int .i64 t125)) w.heap.size (fun k_ => some k_ ≠ (.slice Ao26 t112.length co26 : Value).ownBlock) (.slice Ao22 t108.length co22) t108) := ⟨by (with_reducible repeat (first | apply Kd.R_alloc | apply Kd.R_drewN | apply Kd.R_drew)); exact Kd.R_mono (Kd.R_far (p := ⟨gb127, 1, none⟩) (Kd.R_far (p := ⟨gb127, 0, none⟩) (Kd.R_types HO_117000.out BK127.out (by decide)) (fun _ hk => hk.2) (.int .i64 t124)) (fun _ hk => hk.2) (.int .i64 t125)) (fun _ hk => hk.1)⟩
           have n1_ : Aside0 (Kd.R k71 71 ((w88.setCell ⟨gb127, 0, none⟩ (.int .i64 t124)).setCell ⟨gb127, 1, none⟩ (.int .i64 t125)) w.heap.size (fun k_ => some k_ ≠ (.slice Ao22 t108.length co22 : Value).ownBlock) (.slice Ao26 t112.length co26) t112) := ⟨by (with_reducible repeat (first | apply Kd.R_alloc | apply Kd.R_drewN | apply Kd.R_drew)); exact Kd.R_mono (Kd.R_far (p := ⟨gb127, 1, none⟩) (Kd.R_far (p := ⟨gb127, 0, none⟩) (Kd.R_types HO_118000.out BK127.out (by decide)) (fun _ hk => hk.2) (.int .i64 t124)) (fun _ hk => hk.2) (.int .i64 t125)) (fun _ hk => hk.1)⟩
           have n2_ : Aside0 (((w88.setCell ⟨gb127, 0, none⟩ (.int .i64 t124)).setCell ⟨gb127, 1, none⟩ (.int .i64 t125)).heap[gb107]? = some (.cells #[.int .i64 t105, .int .i64 t106] 35 (0, 0))) := ⟨by (with_reducible repeat (first | refine blk_drewN ?_ _ | refine blk_drew ?_ | refine blk_alloc ?_ _)); refine blk_far ?_ NB107_127.out _; (with_reducible repeat (first | refine blk_drewN ?_ _ | refine blk_drew ?_ | refine blk_alloc ?_ _)); refine blk_far ?_ NB107_127.out _; (with_reducible repeat (first | refine blk_drewN ?_ _ | refine blk_drew ?_ | refine blk_alloc ?_ _)); exact BK107.out⟩
           have n3_ : Aside0 (((w88.setCell ⟨gb127, 0, none⟩ (.int .i64 t124)).setCell ⟨gb127, 1, none⟩ (.int .i64 t125)).heap[gb116]? = some (.cells #[.slice Ao22 t108.length co22, .int .i64 t111] 32 (0, 0))) := ⟨by (with_reducible repeat (first | refine blk_drewN ?_ _ | refine blk_drew ?_ | refine blk_alloc ?_ _)); refine blk_far ?_ NB116_127.out _; (with_reducible repeat (first | refine blk_drewN ?_ _ | refine blk_drew ?_ | refine blk_alloc ?_ _)); refine blk_far ?_ NB116_127.out _; (with_reducible repeat (first | refine blk_drewN ?_ _ | refine blk_drew ?_ | refine blk_alloc ?_ _)); exact BK116.out⟩
           have n4_ : Aside0 (((w88.setCell ⟨gb127, 0, none⟩ (.int .i64 t124)).setCell ⟨gb127, 1, none⟩ (.int .i64 t125)).heap[gb117]? = some (.cells #[.slice Ao26 t112.length co26, .int .i64 t115] 32 (0, 0))) := ⟨by (with_reducible repeat (first | refine blk_drewN ?_ _ | refine blk_drew ?_ | refine blk_alloc ?_ _)); refine blk_far ?_ NB117_127.out _; (with_reducible repeat (first | refine blk_drewN ?_ _ | refine blk_drew ?_ | refine blk_alloc ?_ _)); refine blk_far ?_ NB117_127.out _; (with_reducible repeat (first | refine blk_drewN ?_ _ | refine blk_drew ?_ | refine blk_alloc ?_ _)); exact BK117.out⟩
           have n5_ : Aside0 (((w88.setCell ⟨gb127, 0, none⟩ (.int .i64 t124)).setCell ⟨gb127, 1, none⟩ (.int .i64 t125)).heap[gb121]? = some (.cells #[.int .i64 t118, .int .i64 t119] 35 (0, 0))) := ⟨by (with_reducible repeat (first | refine blk_drewN ?_ _ | refine blk_drew ?_ | refine blk_alloc ?_ _)); refine blk_far ?_ NB121_127.out _; (with_reducible repeat (first | refine blk_drewN ?_ _ | refine blk_drew ?_ | refine blk_alloc ?_ _)); refine blk_far ?_ NB121_127.out _; (with_reducible repeat (first | refine blk_drewN ?_ _ | refine blk_drew ?_ | refine blk_alloc ?_ _)); exact BK121.out⟩
           have n6_ : Aside0 (((w88.setCell ⟨gb127, 0, none⟩ (.int .i64 t124)).setCell ⟨gb127, 1, none⟩ (.int .i64 t125)).heap[gb127]? = some (.cells #[.int .i64 t124, .int .i64 t125] 35 (0, 0))) := ⟨by (with_reducible repeat (first | refine blk_drewN ?_ _ | refine blk_drew ?_ | refine blk_alloc ?_ _)); refine blk_put (cs := #[.int .i64 t124, .int .i64 0]) ?_ 1 _ rfl; (with_reducible repeat (first | refine blk_drewN ?_ _ | refine blk_drew ?_ | refine blk_alloc ?_ _)); refine blk_put (cs := #[.int .i64 0, .int .i64 0]) ?_ 0 _ rfl; (with_reducible repeat (first | refine blk_drewN ?_ _ | refine blk_drew ?_ | refine blk_alloc ?_ _)); exact BK127.out⟩
           have n7_ : Aside0 (Below w.heap.size w ((w88.setCell ⟨gb127, 0, none⟩ (.int .i64 t124)).setCell ⟨gb127, 1, none⟩ (.int .i64 t125))) := ⟨by repeat (first | (with_reducible first | exact HB.out | apply below_alloc | apply pw_below_drewN | apply below_drew1 | refine below_set ?_ GE107.out | refine below_set ?_ GE116.out | refine below_set ?_ GE117.out | refine below_set ?_ GE121.out | refine below_set ?_ GE127.out) | exact HB.out)⟩
           (try clear HO_117000); (try clear HO_118000); (try clear BK107); (try clear BK116); (try clear BK117); (try clear BK121); (try clear BK127); (try clear HB)
           generalize ((w88.setCell ⟨gb127, 0, none⟩ (.int .i64 t124)).setCell ⟨gb127, 1, none⟩ (.int .i64 t125)) = w91 at n0_ n1_ n2_ n3_ n4_ n5_ n6_ n7_ ⊢
           have HO_117000 := n0_; have HO_118000 := n1_; have BK107 := n2_; have BK116 := n3_; have BK117 := n4_; have BK121 := n5_; have BK127 := n6_; have HB := n7_; clear n0_ n1_ n2_ n3_ n4_ n5_ n6_ n7_
           have n0_ := Aside0.mk (Kd.R_drew HO_117000.out)
           have n1_ := Aside0.mk (Kd.R_drew HO_118000.out)
           have n2_ := Aside0.mk (blk_drew BK107.out)
           have n3_ := Aside0.mk (blk_drew BK116.out)
           have n4_ := Aside0.mk (blk_drew BK117.out)
           have n5_ := Aside0.mk (blk_drew BK121.out)
           have n6_ := Aside0.mk (blk_drew BK127.out)
           have n7_ := Aside0.mk (below_drew1 HB.out)
           clear HO_117000 HO_118000 BK107 BK116 BK117 BK121 BK127 HB; have HO_117000 := n0_; have HO_118000 := n1_; have BK107 := n2_; have BK116 := n3_; have BK117 := n4_; have BK121 := n5_; have BK127 := n6_; have HB := n7_; clear n0_ n1_ n2_ n3_ n4_ n5_ n6_ n7_
           refine start_ (n := 12) (S := fun w' => w'.cell? ⟨gb121, 0, none⟩ = some (.int .i64 t118) ∧ w'.cell? ⟨gb121, 1, none⟩ = some (.int .i64 t119) ∧ w'.cell? ⟨gb117, 0, none⟩ = some (.slice Ao26 t112.length co26) ∧ w'.cell? ⟨gb117, 1, none⟩ = some (.int .i64 t115)) (ds := []) #[false, false, false, false, false, false, false, false, false, false, false, false] (by kernel_rfl) rfl rfl ⟨(blk_cell BK121.out 0).trans rfl, (blk_cell BK121.out 1).trans rfl, (blk_cell BK117.out 0).trans rfl, (blk_cell BK117.out 1).trans rfl⟩ (fun hHeld => ?_); refine with_tabW parolelaw37_OddsFair.tab14 parolelaw37_OddsFair.bits14 (fun HT_ HW_ => ?_)
           generalize w91.drew = w92 at HO_117000 HO_118000 BK107 BK116 BK117 BK121 BK127 HB hHeld ⊢
           refine pX (i := 1) (N := some 87) rfl rfl HT_ ?_
           refine pX (i := 3) (N := some 89) rfl rfl HT_ ?_
           refine tX (i := 0) (N := some 86) rfl rfl HT_ HW_ hHeld (Or.inl ⟨by rfl, by rintro w' ⟨s0, s1, s2, s3⟩; go_simp; with_reducible rfl⟩) ?_
           refine tX (i := 2) (N := some 88) rfl rfl HT_ HW_ hHeld (Or.inl ⟨by rfl, by rintro w' ⟨s0, s1, s2, s3⟩; go_simp; with_reducible rfl⟩) ?_
           refine join_ (σ := Nat) 2 #[true, true, true, true, true, true, true, true, true, true, false, false] (fun s_ => [(90, .agg #[.int .i64 t128, .int .i64 t129]), (91, .tuple #[.agg #[.int .i64 t130, .int .i64 t131], .int .i64 t132]), (15, .pointer (some ⟨s_, 0, none⟩)), (85, .tuple #[.agg #[.int .i64 t130, .int .i64 t131], .int .i64 t132]), (92, .agg #[.int .i64 t130, .int .i64 t131]), (93, .int .i64 t132)]) (fun s_ w' => (w'.cell? ⟨gb121, 0, none⟩ = some (.int .i64 t118) ∧ w'.cell? ⟨gb121, 1, none⟩ = some (.int .i64 t119) ∧ w'.cell? ⟨gb117, 0, none⟩ = some (.slice Ao26 t112.length co26) ∧ w'.cell? ⟨gb117, 1, none⟩ = some (.int .i64 t115)) ∧ (Kd.R k71 71 w' w.heap.size (fun k_ => some k_ ≠ (.slice Ao26 t112.length co26 : Value).ownBlock) (.slice Ao22 t108.length co22) t108) ∧ (Kd.R k71 71 w' w.heap.size (fun k_ => some k_ ≠ (.slice Ao22 t108.length co22 : Value).ownBlock) (.slice Ao26 t112.length co26) t112) ∧ (w'.heap[gb107]? = some (.cells #[.int .i64 t105, .int .i64 t106] 35 (0, 0))) ∧ (w'.heap[gb116]? = some (.cells #[.slice Ao22 t108.length co22, .int .i64 t111] 32 (0, 0))) ∧ (w'.heap[gb117]? = some (.cells #[.slice Ao26 t112.length co26, .int .i64 t115] 32 (0, 0))) ∧ (w'.heap[gb121]? = some (.cells #[.int .i64 t118, .int .i64 t119] 35 (0, 0))) ∧ (w'.heap[gb127]? = some (.cells #[.int .i64 t124, .int .i64 t125] 35 (0, 0))) ∧ (w'.heap[s_]? = some (.cells #[.int .i64 0, .int .i64 0] 35 (0, 0))) ∧ (w.heap.size ≤ s_) ∧ (w.heap.size ≤ s_) ∧ (gb107 ≠ s_) ∧ (s_ ≠ gb107) ∧ (gb116 ≠ s_) ∧ (s_ ≠ gb116) ∧ (gb117 ≠ s_) ∧ (s_ ≠ gb117) ∧ (gb121 ≠ s_) ∧ (s_ ≠ gb121) ∧ (gb127 ≠ s_) ∧ (s_ ≠ gb127) ∧ (Below w.heap.size w w')) ?_ ?_
           rotate_left
           ·intro hCont
            refine two_ (i := 4) (j := 9) (Ni := some 90) (Nj := some 15) #[true, true, true, true, true, false, false, false, false, false, false, false] #[true, true, true, true, false, false, false, false, false, true, false, false] rfl rfl rfl rfl (two_of HT_.out (by kernel_rfl)) (by decide) (by decide) (fun K hK => ?_) (fun K hK => ?_)
            ·skip
             refine goes_ Try.func22 (by kernel_rfl) rfl #[.slice Ao26 t112.length co26, .int .i64 (wrap64 (1 + (wrap64 (Int.tmod a1 14))))] (by rfl) rfl rfl (by (try simp only [List.map_toArray, List.map_cons, List.map_nil]); first | done | rfl | (simp only [List.length_drop, List.length_take]; rfl)) ?_
             with_reducible refine (odds_Of.calls kj10 _ _ t112 (wrap64 (1 + (wrap64 (Int.tmod a1 14)))) t128 t129 _ ?side1 ?side2 A66.out).mono ?_
             (case side1 => repeat (first | exact (Kd.R_reads' HO_118000.out).2.2 | (with_reducible refine Kd.C_alloc ?_ _) | (with_reducible refine Kd.C_drewN ?_ _) | (with_reducible refine Kd.C_drew ?_)))
             (case side2 => exact (Kd.R_reads' HO_118000.out).2.1)
             rintro e w93 ⟨rfl, hb⟩
             refine ⟨_, rfl, ?_⟩
             have n0_ := Aside0.mk (Kd.R_below (by (with_reducible repeat (first | apply Kd.R_alloc | apply Kd.R_drewN | apply Kd.R_drew)); exact HO_117000.out) hb)
             have n1_ := Aside0.mk (Kd.R_below (by (with_reducible repeat (first | apply Kd.R_alloc | apply Kd.R_drewN | apply Kd.R_drew)); exact HO_118000.out) hb)
             have n2_ := Aside0.mk (blk_below (g := gb107) (o := .cells #[.int .i64 t105, .int .i64 t106] 35 (0, 0)) (by (with_reducible repeat (first | refine blk_drewN ?_ _ | refine blk_drew ?_ | refine blk_alloc ?_ _)); exact BK107.out) hb)
             have n3_ := Aside0.mk (blk_below (g := gb116) (o := .cells #[.slice Ao22 t108.length co22, .int .i64 t111] 32 (0, 0)) (by (with_reducible repeat (first | refine blk_drewN ?_ _ | refine blk_drew ?_ | refine blk_alloc ?_ _)); exact BK116.out) hb)
             have n4_ := Aside0.mk (blk_below (g := gb117) (o := .cells #[.slice Ao26 t112.length co26, .int .i64 t115] 32 (0, 0)) (by (with_reducible repeat (first | refine blk_drewN ?_ _ | refine blk_drew ?_ | refine blk_alloc ?_ _)); exact BK117.out) hb)
             have n5_ := Aside0.mk (blk_below (g := gb121) (o := .cells #[.int .i64 t118, .int .i64 t119] 35 (0, 0)) (by (with_reducible repeat (first | refine blk_drewN ?_ _ | refine blk_drew ?_ | refine blk_alloc ?_ _)); exact BK121.out) hb)
             have n6_ := Aside0.mk (blk_below (g := gb127) (o := .cells #[.int .i64 t124, .int .i64 t125] 35 (0, 0)) (by (with_reducible repeat (first | refine blk_drewN ?_ _ | refine blk_drew ?_ | refine blk_alloc ?_ _)); exact BK127.out) hb)
             have n7_ := Aside0.mk (below_step (by repeat (first | (with_reducible first | exact HB.out | apply below_alloc | apply pw_below_drewN | apply below_drew1 | refine below_set ?_ GE107.out | refine below_set ?_ GE116.out | refine below_set ?_ GE117.out | refine below_set ?_ GE121.out | refine below_set ?_ GE127.out) | exact HB.out)) hb)
             clear HO_117000 HO_118000 BK107 BK116 BK117 BK121 BK127 HB; have HO_117000 := n0_; have HO_118000 := n1_; have BK107 := n2_; have BK116 := n3_; have BK117 := n4_; have BK121 := n5_; have BK127 := n6_; have HB := n7_; clear n0_ n1_ n2_ n3_ n4_ n5_ n6_ n7_; (try clear hb); (try clear hb2); (try clear hk); (try clear hi)
             refine hK.out _ _ ⟨(blk_cell BK121.out 0).trans rfl, (blk_cell BK121.out 1).trans rfl, (blk_cell BK117.out 0).trans rfl, (blk_cell BK117.out 1).trans rfl⟩ (fun hHeld => ?_)
             clear hK K
             refine nX (some 90) ?_
             refine two_ (i := 5) (j := 9) (Ni := some 91) (Nj := some 15) #[true, true, true, true, true, true, false, false, false, false, false, false] #[true, true, true, true, true, false, false, false, false, true, false, false] rfl rfl rfl rfl (two_of HT_.out (by kernel_rfl)) (by decide) (by decide) (fun K hK => ?_) (fun K hK => ?_)
             ·skip
              refine goes_ Try.func49 (by kernel_rfl) rfl #[.agg #[.int .i64 t118, .int .i64 t119], .agg #[.int .i64 t128, .int .i64 t129]] (by rfl) rfl rfl (by (try simp only [List.map_toArray, List.map_cons, List.map_nil]); first | done | rfl | (simp only [List.length_drop, List.length_take]; rfl)) ?_
              with_reducible refine (rat_Mul.calls kj10 t118 t119 t128 t129 t130 t131 t132 _ A67.out).mono ?_
              rintro e w94 ⟨rfl, hb⟩
              refine ⟨_, rfl, ?_⟩
              have n0_ := Aside0.mk (Kd.R_below (by (with_reducible repeat (first | apply Kd.R_alloc | apply Kd.R_drewN | apply Kd.R_drew)); exact HO_117000.out) hb)
              have n1_ := Aside0.mk (Kd.R_below (by (with_reducible repeat (first | apply Kd.R_alloc | apply Kd.R_drewN | apply Kd.R_drew)); exact HO_118000.out) hb)
              have n2_ := Aside0.mk (blk_below (g := gb107) (o := .cells #[.int .i64 t105, .int .i64 t106] 35 (0, 0)) (by (with_reducible repeat (first | refine blk_drewN ?_ _ | refine blk_drew ?_ | refine blk_alloc ?_ _)); exact BK107.out) hb)
              have n3_ := Aside0.mk (blk_below (g := gb116) (o := .cells #[.slice Ao22 t108.length co22, .int .i64 t111] 32 (0, 0)) (by (with_reducible repeat (first | refine blk_drewN ?_ _ | refine blk_drew ?_ | refine blk_alloc ?_ _)); exact BK116.out) hb)
              have n4_ := Aside0.mk (blk_below (g := gb117) (o := .cells #[.slice Ao26 t112.length co26, .int .i64 t115] 32 (0, 0)) (by (with_reducible repeat (first | refine blk_drewN ?_ _ | refine blk_drew ?_ | refine blk_alloc ?_ _)); exact BK117.out) hb)
              have n5_ := Aside0.mk (blk_below (g := gb121) (o := .cells #[.int .i64 t118, .int .i64 t119] 35 (0, 0)) (by (with_reducible repeat (first | refine blk_drewN ?_ _ | refine blk_drew ?_ | refine blk_alloc ?_ _)); exact BK121.out) hb)
              have n6_ := Aside0.mk (blk_below (g := gb127) (o := .cells #[.int .i64 t124, .int .i64 t125] 35 (0, 0)) (by (with_reducible repeat (first | refine blk_drewN ?_ _ | refine blk_drew ?_ | refine blk_alloc ?_ _)); exact BK127.out) hb)
              have n7_ := Aside0.mk (below_step (by repeat (first | (with_reducible first | exact HB.out | apply below_alloc | apply pw_below_drewN | apply below_drew1 | refine below_set ?_ GE107.out | refine below_set ?_ GE116.out | refine below_set ?_ GE117.out | refine below_set ?_ GE121.out | refine below_set ?_ GE127.out) | exact HB.out)) hb)
              clear HO_117000 HO_118000 BK107 BK116 BK117 BK121 BK127 HB; have HO_117000 := n0_; have HO_118000 := n1_; have BK107 := n2_; have BK116 := n3_; have BK117 := n4_; have BK121 := n5_; have BK127 := n6_; have HB := n7_; clear n0_ n1_ n2_ n3_ n4_ n5_ n6_ n7_; (try clear hb); (try clear hb2); (try clear hk); (try clear hi)
              refine hK.out _ _ ⟨(blk_cell BK121.out 0).trans rfl, (blk_cell BK121.out 1).trans rfl, (blk_cell BK117.out 0).trans rfl, (blk_cell BK117.out 1).trans rfl⟩ (fun hHeld => ?_)
              clear hK K
              refine nX (some 91) ?_
              refine pX (i := 6) (N := some 85) rfl rfl HT_ ?_
              refine pX (i := 7) (N := some 92) rfl rfl HT_ ?_
              refine pX (i := 8) (N := some 93) rfl rfl HT_ ?_
              refine oX (i := 9) (N := some 15) rfl rfl HT_ (fun K hK => ?_)
              refine box_step ?hg (N := 15) ?hd (cs := #[.int .i64 0, .int .i64 0]) (t := 35) ?hr ?_; (case hd => rfl); (case hg => rfl); (case hr => first | (go_simp; done) | (go_simp; rfl))
              intro gb133 hg w95 hbox hb
              have n0_ := Aside0.mk (Kd.R_below (by (with_reducible repeat (first | apply Kd.R_alloc | apply Kd.R_drewN | apply Kd.R_drew)); exact HO_117000.out) hb)
              have n1_ := Aside0.mk (Kd.R_below (by (with_reducible repeat (first | apply Kd.R_alloc | apply Kd.R_drewN | apply Kd.R_drew)); exact HO_118000.out) hb)
              have n2_ := Aside0.mk (blk_below (g := gb107) (o := .cells #[.int .i64 t105, .int .i64 t106] 35 (0, 0)) (by (with_reducible repeat (first | refine blk_drewN ?_ _ | refine blk_drew ?_ | refine blk_alloc ?_ _)); exact BK107.out) hb)
              have n3_ := Aside0.mk (blk_below (g := gb116) (o := .cells #[.slice Ao22 t108.length co22, .int .i64 t111] 32 (0, 0)) (by (with_reducible repeat (first | refine blk_drewN ?_ _ | refine blk_drew ?_ | refine blk_alloc ?_ _)); exact BK116.out) hb)
              have n4_ := Aside0.mk (blk_below (g := gb117) (o := .cells #[.slice Ao26 t112.length co26, .int .i64 t115] 32 (0, 0)) (by (with_reducible repeat (first | refine blk_drewN ?_ _ | refine blk_drew ?_ | refine blk_alloc ?_ _)); exact BK117.out) hb)
              have n5_ := Aside0.mk (blk_below (g := gb121) (o := .cells #[.int .i64 t118, .int .i64 t119] 35 (0, 0)) (by (with_reducible repeat (first | refine blk_drewN ?_ _ | refine blk_drew ?_ | refine blk_alloc ?_ _)); exact BK121.out) hb)
              have n6_ := Aside0.mk (blk_below (g := gb127) (o := .cells #[.int .i64 t124, .int .i64 t125] 35 (0, 0)) (by (with_reducible repeat (first | refine blk_drewN ?_ _ | refine blk_drew ?_ | refine blk_alloc ?_ _)); exact BK127.out) hb)
              have n7_ := Aside0.mk (below_step (by repeat (first | (with_reducible first | exact HB.out | apply below_alloc | apply pw_below_drewN | apply below_drew1 | refine below_set ?_ GE107.out | refine below_set ?_ GE116.out | refine below_set ?_ GE117.out | refine below_set ?_ GE121.out | refine below_set ?_ GE127.out) | exact HB.out)) hb)
              have n8_ := Aside0.mk (hbox)
              have n9_ := Aside0.mk ((by rw [hg]; exact (below_size (by repeat (first | (with_reducible first | exact HB.out | apply below_alloc | apply pw_below_drewN | apply below_drew1 | refine below_set ?_ GE107.out | refine below_set ?_ GE116.out | refine below_set ?_ GE117.out | refine below_set ?_ GE121.out | refine below_set ?_ GE127.out) | exact HB.out))) : w.heap.size ≤ gb133))
              have n10_ := Aside0.mk ((by rw [hg]; exact (below_size (by repeat (first | (with_reducible first | exact HB.out | apply below_alloc | apply pw_below_drewN | apply below_drew1 | refine below_set ?_ GE107.out | refine below_set ?_ GE116.out | refine below_set ?_ GE117.out | refine below_set ?_ GE121.out | refine below_set ?_ GE127.out) | exact HB.out))) : w.heap.size ≤ gb133))
              have n11_ := Aside0.mk ((by rw [hg]; exact Nat.ne_of_lt (blk_lt (g := gb107) (o := .cells #[.int .i64 t105, .int .i64 t106] 35 (0, 0)) (by (with_reducible repeat (first | refine blk_drewN ?_ _ | refine blk_drew ?_ | refine blk_alloc ?_ _)); exact BK107.out)) : gb107 ≠ gb133))
              have n12_ := Aside0.mk ((by rw [hg]; exact Nat.ne_of_gt (blk_lt (g := gb107) (o := .cells #[.int .i64 t105, .int .i64 t106] 35 (0, 0)) (by (with_reducible repeat (first | refine blk_drewN ?_ _ | refine blk_drew ?_ | refine blk_alloc ?_ _)); exact BK107.out)) : gb133 ≠ gb107))
              have n13_ := Aside0.mk ((by rw [hg]; exact Nat.ne_of_lt (blk_lt (g := gb116) (o := .cells #[.slice Ao22 t108.length co22, .int .i64 t111] 32 (0, 0)) (by (with_reducible repeat (first | refine blk_drewN ?_ _ | refine blk_drew ?_ | refine blk_alloc ?_ _)); exact BK116.out)) : gb116 ≠ gb133))
              have n14_ := Aside0.mk ((by rw [hg]; exact Nat.ne_of_gt (blk_lt (g := gb116) (o := .cells #[.slice Ao22 t108.length co22, .int .i64 t111] 32 (0, 0)) (by (with_reducible repeat (first | refine blk_drewN ?_ _ | refine blk_drew ?_ | refine blk_alloc ?_ _)); exact BK116.out)) : gb133 ≠ gb116))
              have n15_ := Aside0.mk ((by rw [hg]; exact Nat.ne_of_lt (blk_lt (g := gb117) (o := .cells #[.slice Ao26 t112.length co26, .int .i64 t115] 32 (0, 0)) (by (with_reducible repeat (first | refine blk_drewN ?_ _ | refine blk_drew ?_ | refine blk_alloc ?_ _)); exact BK117.out)) : gb117 ≠ gb133))
              have n16_ := Aside0.mk ((by rw [hg]; exact Nat.ne_of_gt (blk_lt (g := gb117) (o := .cells #[.slice Ao26 t112.length co26, .int .i64 t115] 32 (0, 0)) (by (with_reducible repeat (first | refine blk_drewN ?_ _ | refine blk_drew ?_ | refine blk_alloc ?_ _)); exact BK117.out)) : gb133 ≠ gb117))
              have n17_ := Aside0.mk ((by rw [hg]; exact Nat.ne_of_lt (blk_lt (g := gb121) (o := .cells #[.int .i64 t118, .int .i64 t119] 35 (0, 0)) (by (with_reducible repeat (first | refine blk_drewN ?_ _ | refine blk_drew ?_ | refine blk_alloc ?_ _)); exact BK121.out)) : gb121 ≠ gb133))
              have n18_ := Aside0.mk ((by rw [hg]; exact Nat.ne_of_gt (blk_lt (g := gb121) (o := .cells #[.int .i64 t118, .int .i64 t119] 35 (0, 0)) (by (with_reducible repeat (first | refine blk_drewN ?_ _ | refine blk_drew ?_ | refine blk_alloc ?_ _)); exact BK121.out)) : gb133 ≠ gb121))
              have n19_ := Aside0.mk ((by rw [hg]; exact Nat.ne_of_lt (blk_lt (g := gb127) (o := .cells #[.int .i64 t124, .int .i64 t125] 35 (0, 0)) (by (with_reducible repeat (first | refine blk_drewN ?_ _ | refine blk_drew ?_ | refine blk_alloc ?_ _)); exact BK127.out)) : gb127 ≠ gb133))
              have n20_ := Aside0.mk ((by rw [hg]; exact Nat.ne_of_gt (blk_lt (g := gb127) (o := .cells #[.int .i64 t124, .int .i64 t125] 35 (0, 0)) (by (with_reducible repeat (first | refine blk_drewN ?_ _ | refine blk_drew ?_ | refine blk_alloc ?_ _)); exact BK127.out)) : gb133 ≠ gb127))
              clear HO_117000 HO_118000 BK107 BK116 BK117 BK121 BK127 HB; have HO_117000 := n0_; have HO_118000 := n1_; have BK107 := n2_; have BK116 := n3_; have BK117 := n4_; have BK121 := n5_; have BK127 := n6_; have HB := n7_; have BK133 := n8_; have GW133 := n9_; have GE133 := n10_; have NB107_133 := n11_; have NB133_107 := n12_; have NB116_133 := n13_; have NB133_116 := n14_; have NB117_133 := n15_; have NB133_117 := n16_; have NB121_133 := n17_; have NB133_121 := n18_; have NB127_133 := n19_; have NB133_127 := n20_; clear n0_ n1_ n2_ n3_ n4_ n5_ n6_ n7_ n8_ n9_ n10_ n11_ n12_ n13_ n14_ n15_ n16_ n17_ n18_ n19_ n20_ hb hbox hg
              refine hK.out _ _ ⟨(blk_cell BK121.out 0).trans rfl, (blk_cell BK121.out 1).trans rfl, (blk_cell BK117.out 0).trans rfl, (blk_cell BK117.out 1).trans rfl⟩ (fun hHeld => ?_)
              clear hK K
              refine nX (some 15) ?_
              exact norm_ (by simp only [putAll, Act.put, List.setIfInBounds_toArray, List.set_cons_zero, List.set_cons_succ]) (hCont (gb133) _ ⟨hHeld, (by (with_reducible repeat (first | apply Kd.R_alloc | apply Kd.R_drewN | apply Kd.R_drew)); exact HO_117000.out), (by (with_reducible repeat (first | apply Kd.R_alloc | apply Kd.R_drewN | apply Kd.R_drew)); exact HO_118000.out), (by (with_reducible repeat (first | refine blk_drewN ?_ _ | refine blk_drew ?_ | refine blk_alloc ?_ _)); exact BK107.out), (by (with_reducible repeat (first | refine blk_drewN ?_ _ | refine blk_drew ?_ | refine blk_alloc ?_ _)); exact BK116.out), (by (with_reducible repeat (first | refine blk_drewN ?_ _ | refine blk_drew ?_ | refine blk_alloc ?_ _)); exact BK117.out), (by (with_reducible repeat (first | refine blk_drewN ?_ _ | refine blk_drew ?_ | refine blk_alloc ?_ _)); exact BK121.out), (by (with_reducible repeat (first | refine blk_drewN ?_ _ | refine blk_drew ?_ | refine blk_alloc ?_ _)); exact BK127.out), (by (with_reducible repeat (first | refine blk_drewN ?_ _ | refine blk_drew ?_ | refine blk_alloc ?_ _)); exact BK133.out), GW133.out, GE133.out, NB107_133.out, NB133_107.out, NB116_133.out, NB133_116.out, NB117_133.out, NB133_117.out, NB121_133.out, NB133_121.out, NB127_133.out, NB133_127.out, (by repeat (first | (with_reducible first | exact HB.out | apply below_alloc | apply pw_below_drewN | apply below_drew1 | refine below_set ?_ GE107.out | refine below_set ?_ GE116.out | refine below_set ?_ GE117.out | refine below_set ?_ GE121.out | refine below_set ?_ GE127.out | refine below_set ?_ GE133.out) | exact HB.out))⟩)
             ·skip
              refine box_step ?hg (N := 15) ?hd (cs := #[.int .i64 0, .int .i64 0]) (t := 35) ?hr ?_; (case hd => rfl); (case hg => rfl); (case hr => first | (go_simp; done) | (go_simp; rfl))
              intro gb133 hg w94 hbox hb
              have n0_ := Aside0.mk (Kd.R_below (by (with_reducible repeat (first | apply Kd.R_alloc | apply Kd.R_drewN | apply Kd.R_drew)); exact HO_117000.out) hb)
              have n1_ := Aside0.mk (Kd.R_below (by (with_reducible repeat (first | apply Kd.R_alloc | apply Kd.R_drewN | apply Kd.R_drew)); exact HO_118000.out) hb)
              have n2_ := Aside0.mk (blk_below (g := gb107) (o := .cells #[.int .i64 t105, .int .i64 t106] 35 (0, 0)) (by (with_reducible repeat (first | refine blk_drewN ?_ _ | refine blk_drew ?_ | refine blk_alloc ?_ _)); exact BK107.out) hb)
              have n3_ := Aside0.mk (blk_below (g := gb116) (o := .cells #[.slice Ao22 t108.length co22, .int .i64 t111] 32 (0, 0)) (by (with_reducible repeat (first | refine blk_drewN ?_ _ | refine blk_drew ?_ | refine blk_alloc ?_ _)); exact BK116.out) hb)
              have n4_ := Aside0.mk (blk_below (g := gb117) (o := .cells #[.slice Ao26 t112.length co26, .int .i64 t115] 32 (0, 0)) (by (with_reducible repeat (first | refine blk_drewN ?_ _ | refine blk_drew ?_ | refine blk_alloc ?_ _)); exact BK117.out) hb)
              have n5_ := Aside0.mk (blk_below (g := gb121) (o := .cells #[.int .i64 t118, .int .i64 t119] 35 (0, 0)) (by (with_reducible repeat (first | refine blk_drewN ?_ _ | refine blk_drew ?_ | refine blk_alloc ?_ _)); exact BK121.out) hb)
              have n6_ := Aside0.mk (blk_below (g := gb127) (o := .cells #[.int .i64 t124, .int .i64 t125] 35 (0, 0)) (by (with_reducible repeat (first | refine blk_drewN ?_ _ | refine blk_drew ?_ | refine blk_alloc ?_ _)); exact BK127.out) hb)
              have n7_ := Aside0.mk (below_step (by repeat (first | (with_reducible first | exact HB.out | apply below_alloc | apply pw_below_drewN | apply below_drew1 | refine below_set ?_ GE107.out | refine below_set ?_ GE116.out | refine below_set ?_ GE117.out | refine below_set ?_ GE121.out | refine below_set ?_ GE127.out) | exact HB.out)) hb)
              have n8_ := Aside0.mk (hbox)
              have n9_ := Aside0.mk ((by rw [hg]; exact (below_size (by repeat (first | (with_reducible first | exact HB.out | apply below_alloc | apply pw_below_drewN | apply below_drew1 | refine below_set ?_ GE107.out | refine below_set ?_ GE116.out | refine below_set ?_ GE117.out | refine below_set ?_ GE121.out | refine below_set ?_ GE127.out) | exact HB.out))) : w.heap.size ≤ gb133))
              have n10_ := Aside0.mk ((by rw [hg]; exact (below_size (by repeat (first | (with_reducible first | exact HB.out | apply below_alloc | apply pw_below_drewN | apply below_drew1 | refine below_set ?_ GE107.out | refine below_set ?_ GE116.out | refine below_set ?_ GE117.out | refine below_set ?_ GE121.out | refine below_set ?_ GE127.out) | exact HB.out))) : w.heap.size ≤ gb133))
              have n11_ := Aside0.mk ((by rw [hg]; exact Nat.ne_of_lt (blk_lt (g := gb107) (o := .cells #[.int .i64 t105, .int .i64 t106] 35 (0, 0)) (by (with_reducible repeat (first | refine blk_drewN ?_ _ | refine blk_drew ?_ | refine blk_alloc ?_ _)); exact BK107.out)) : gb107 ≠ gb133))
              have n12_ := Aside0.mk ((by rw [hg]; exact Nat.ne_of_gt (blk_lt (g := gb107) (o := .cells #[.int .i64 t105, .int .i64 t106] 35 (0, 0)) (by (with_reducible repeat (first | refine blk_drewN ?_ _ | refine blk_drew ?_ | refine blk_alloc ?_ _)); exact BK107.out)) : gb133 ≠ gb107))
              have n13_ := Aside0.mk ((by rw [hg]; exact Nat.ne_of_lt (blk_lt (g := gb116) (o := .cells #[.slice Ao22 t108.length co22, .int .i64 t111] 32 (0, 0)) (by (with_reducible repeat (first | refine blk_drewN ?_ _ | refine blk_drew ?_ | refine blk_alloc ?_ _)); exact BK116.out)) : gb116 ≠ gb133))
              have n14_ := Aside0.mk ((by rw [hg]; exact Nat.ne_of_gt (blk_lt (g := gb116) (o := .cells #[.slice Ao22 t108.length co22, .int .i64 t111] 32 (0, 0)) (by (with_reducible repeat (first | refine blk_drewN ?_ _ | refine blk_drew ?_ | refine blk_alloc ?_ _)); exact BK116.out)) : gb133 ≠ gb116))
              have n15_ := Aside0.mk ((by rw [hg]; exact Nat.ne_of_lt (blk_lt (g := gb117) (o := .cells #[.slice Ao26 t112.length co26, .int .i64 t115] 32 (0, 0)) (by (with_reducible repeat (first | refine blk_drewN ?_ _ | refine blk_drew ?_ | refine blk_alloc ?_ _)); exact BK117.out)) : gb117 ≠ gb133))
              have n16_ := Aside0.mk ((by rw [hg]; exact Nat.ne_of_gt (blk_lt (g := gb117) (o := .cells #[.slice Ao26 t112.length co26, .int .i64 t115] 32 (0, 0)) (by (with_reducible repeat (first | refine blk_drewN ?_ _ | refine blk_drew ?_ | refine blk_alloc ?_ _)); exact BK117.out)) : gb133 ≠ gb117))
              have n17_ := Aside0.mk ((by rw [hg]; exact Nat.ne_of_lt (blk_lt (g := gb121) (o := .cells #[.int .i64 t118, .int .i64 t119] 35 (0, 0)) (by (with_reducible repeat (first | refine blk_drewN ?_ _ | refine blk_drew ?_ | refine blk_alloc ?_ _)); exact BK121.out)) : gb121 ≠ gb133))
              have n18_ := Aside0.mk ((by rw [hg]; exact Nat.ne_of_gt (blk_lt (g := gb121) (o := .cells #[.int .i64 t118, .int .i64 t119] 35 (0, 0)) (by (with_reducible repeat (first | refine blk_drewN ?_ _ | refine blk_drew ?_ | refine blk_alloc ?_ _)); exact BK121.out)) : gb133 ≠ gb121))
              have n19_ := Aside0.mk ((by rw [hg]; exact Nat.ne_of_lt (blk_lt (g := gb127) (o := .cells #[.int .i64 t124, .int .i64 t125] 35 (0, 0)) (by (with_reducible repeat (first | refine blk_drewN ?_ _ | refine blk_drew ?_ | refine blk_alloc ?_ _)); exact BK127.out)) : gb127 ≠ gb133))
              have n20_ := Aside0.mk ((by rw [hg]; exact Nat.ne_of_gt (blk_lt (g := gb127) (o := .cells #[.int .i64 t124, .int .i64 t125] 35 (0, 0)) (by (with_reducible repeat (first | refine blk_drewN ?_ _ | refine blk_drew ?_ | refine blk_alloc ?_ _)); exact BK127.out)) : gb133 ≠ gb127))
              clear HO_117000 HO_118000 BK107 BK116 BK117 BK121 BK127 HB; have HO_117000 := n0_; have HO_118000 := n1_; have BK107 := n2_; have BK116 := n3_; have BK117 := n4_; have BK121 := n5_; have BK127 := n6_; have HB := n7_; have BK133 := n8_; have GW133 := n9_; have GE133 := n10_; have NB107_133 := n11_; have NB133_107 := n12_; have NB116_133 := n13_; have NB133_116 := n14_; have NB117_133 := n15_; have NB133_117 := n16_; have NB121_133 := n17_; have NB133_121 := n18_; have NB127_133 := n19_; have NB133_127 := n20_; clear n0_ n1_ n2_ n3_ n4_ n5_ n6_ n7_ n8_ n9_ n10_ n11_ n12_ n13_ n14_ n15_ n16_ n17_ n18_ n19_ n20_ hb hbox hg
              refine hK.out _ _ ⟨(blk_cell BK121.out 0).trans rfl, (blk_cell BK121.out 1).trans rfl, (blk_cell BK117.out 0).trans rfl, (blk_cell BK117.out 1).trans rfl⟩ (fun hHeld => ?_)
              clear hK K
              refine nX (some 15) ?_
              refine oX (i := 5) (N := some 91) rfl rfl HT_ (fun K hK => ?_)
              refine goes_ Try.func49 (by kernel_rfl) rfl #[.agg #[.int .i64 t118, .int .i64 t119], .agg #[.int .i64 t128, .int .i64 t129]] (by rfl) rfl rfl (by (try simp only [List.map_toArray, List.map_cons, List.map_nil]); first | done | rfl | (simp only [List.length_drop, List.length_take]; rfl)) ?_
              with_reducible refine (rat_Mul.calls kj10 t118 t119 t128 t129 t130 t131 t132 _ A67.out).mono ?_
              rintro e w95 ⟨rfl, hb⟩
              refine ⟨_, rfl, ?_⟩
              have n0_ := Aside0.mk (Kd.R_below (by (with_reducible repeat (first | apply Kd.R_alloc | apply Kd.R_drewN | apply Kd.R_drew)); exact HO_117000.out) hb)
              have n1_ := Aside0.mk (Kd.R_below (by (with_reducible repeat (first | apply Kd.R_alloc | apply Kd.R_drewN | apply Kd.R_drew)); exact HO_118000.out) hb)
              have n2_ := Aside0.mk (blk_below (g := gb107) (o := .cells #[.int .i64 t105, .int .i64 t106] 35 (0, 0)) (by (with_reducible repeat (first | refine blk_drewN ?_ _ | refine blk_drew ?_ | refine blk_alloc ?_ _)); exact BK107.out) hb)
              have n3_ := Aside0.mk (blk_below (g := gb116) (o := .cells #[.slice Ao22 t108.length co22, .int .i64 t111] 32 (0, 0)) (by (with_reducible repeat (first | refine blk_drewN ?_ _ | refine blk_drew ?_ | refine blk_alloc ?_ _)); exact BK116.out) hb)
              have n4_ := Aside0.mk (blk_below (g := gb117) (o := .cells #[.slice Ao26 t112.length co26, .int .i64 t115] 32 (0, 0)) (by (with_reducible repeat (first | refine blk_drewN ?_ _ | refine blk_drew ?_ | refine blk_alloc ?_ _)); exact BK117.out) hb)
              have n5_ := Aside0.mk (blk_below (g := gb121) (o := .cells #[.int .i64 t118, .int .i64 t119] 35 (0, 0)) (by (with_reducible repeat (first | refine blk_drewN ?_ _ | refine blk_drew ?_ | refine blk_alloc ?_ _)); exact BK121.out) hb)
              have n6_ := Aside0.mk (blk_below (g := gb127) (o := .cells #[.int .i64 t124, .int .i64 t125] 35 (0, 0)) (by (with_reducible repeat (first | refine blk_drewN ?_ _ | refine blk_drew ?_ | refine blk_alloc ?_ _)); exact BK127.out) hb)
              have n7_ := Aside0.mk (blk_below (g := gb133) (o := .cells #[.int .i64 0, .int .i64 0] 35 (0, 0)) (by (with_reducible repeat (first | refine blk_drewN ?_ _ | refine blk_drew ?_ | refine blk_alloc ?_ _)); exact BK133.out) hb)
              have n8_ := Aside0.mk (below_step (by repeat (first | (with_reducible first | exact HB.out | apply below_alloc | apply pw_below_drewN | apply below_drew1 | refine below_set ?_ GE107.out | refine below_set ?_ GE116.out | refine below_set ?_ GE117.out | refine below_set ?_ GE121.out | refine below_set ?_ GE127.out | refine below_set ?_ GE133.out) | exact HB.out)) hb)
              clear HO_117000 HO_118000 BK107 BK116 BK117 BK121 BK127 BK133 HB; have HO_117000 := n0_; have HO_118000 := n1_; have BK107 := n2_; have BK116 := n3_; have BK117 := n4_; have BK121 := n5_; have BK127 := n6_; have BK133 := n7_; have HB := n8_; clear n0_ n1_ n2_ n3_ n4_ n5_ n6_ n7_ n8_; (try clear hb); (try clear hb2); (try clear hk); (try clear hi)
              refine hK.out _ _ ⟨(blk_cell BK121.out 0).trans rfl, (blk_cell BK121.out 1).trans rfl, (blk_cell BK117.out 0).trans rfl, (blk_cell BK117.out 1).trans rfl⟩ (fun hHeld => ?_)
              clear hK K
              refine nX (some 91) ?_
              refine pX (i := 6) (N := some 85) rfl rfl HT_ ?_
              refine pX (i := 7) (N := some 92) rfl rfl HT_ ?_
              refine pX (i := 8) (N := some 93) rfl rfl HT_ ?_
              exact norm_ (by simp only [putAll, Act.put, List.setIfInBounds_toArray, List.set_cons_zero, List.set_cons_succ]) (hCont (gb133) _ ⟨hHeld, (by (with_reducible repeat (first | apply Kd.R_alloc | apply Kd.R_drewN | apply Kd.R_drew)); exact HO_117000.out), (by (with_reducible repeat (first | apply Kd.R_alloc | apply Kd.R_drewN | apply Kd.R_drew)); exact HO_118000.out), (by (with_reducible repeat (first | refine blk_drewN ?_ _ | refine blk_drew ?_ | refine blk_alloc ?_ _)); exact BK107.out), (by (with_reducible repeat (first | refine blk_drewN ?_ _ | refine blk_drew ?_ | refine blk_alloc ?_ _)); exact BK116.out), (by (with_reducible repeat (first | refine blk_drewN ?_ _ | refine blk_drew ?_ | refine blk_alloc ?_ _)); exact BK117.out), (by (with_reducible repeat (first | refine blk_drewN ?_ _ | refine blk_drew ?_ | refine blk_alloc ?_ _)); exact BK121.out), (by (with_reducible repeat (first | refine blk_drewN ?_ _ | refine blk_drew ?_ | refine blk_alloc ?_ _)); exact BK127.out), (by (with_reducible repeat (first | refine blk_drewN ?_ _ | refine blk_drew ?_ | refine blk_alloc ?_ _)); exact BK133.out), GW133.out, GE133.out, NB107_133.out, NB133_107.out, NB116_133.out, NB133_116.out, NB117_133.out, NB133_117.out, NB121_133.out, NB133_121.out, NB127_133.out, NB133_127.out, (by repeat (first | (with_reducible first | exact HB.out | apply below_alloc | apply pw_below_drewN | apply below_drew1 | refine below_set ?_ GE107.out | refine below_set ?_ GE116.out | refine below_set ?_ GE117.out | refine below_set ?_ GE121.out | refine below_set ?_ GE127.out | refine below_set ?_ GE133.out) | exact HB.out))⟩)
            ·skip
             refine box_step ?hg (N := 15) ?hd (cs := #[.int .i64 0, .int .i64 0]) (t := 35) ?hr ?_; (case hd => rfl); (case hg => rfl); (case hr => first | (go_simp; done) | (go_simp; rfl))
             intro gb133 hg w93 hbox hb
             have n0_ := Aside0.mk (Kd.R_below (by (with_reducible repeat (first | apply Kd.R_alloc | apply Kd.R_drewN | apply Kd.R_drew)); exact HO_117000.out) hb)
             have n1_ := Aside0.mk (Kd.R_below (by (with_reducible repeat (first | apply Kd.R_alloc | apply Kd.R_drewN | apply Kd.R_drew)); exact HO_118000.out) hb)
             have n2_ := Aside0.mk (blk_below (g := gb107) (o := .cells #[.int .i64 t105, .int .i64 t106] 35 (0, 0)) (by (with_reducible repeat (first | refine blk_drewN ?_ _ | refine blk_drew ?_ | refine blk_alloc ?_ _)); exact BK107.out) hb)
             have n3_ := Aside0.mk (blk_below (g := gb116) (o := .cells #[.slice Ao22 t108.length co22, .int .i64 t111] 32 (0, 0)) (by (with_reducible repeat (first | refine blk_drewN ?_ _ | refine blk_drew ?_ | refine blk_alloc ?_ _)); exact BK116.out) hb)
             have n4_ := Aside0.mk (blk_below (g := gb117) (o := .cells #[.slice Ao26 t112.length co26, .int .i64 t115] 32 (0, 0)) (by (with_reducible repeat (first | refine blk_drewN ?_ _ | refine blk_drew ?_ | refine blk_alloc ?_ _)); exact BK117.out) hb)
             have n5_ := Aside0.mk (blk_below (g := gb121) (o := .cells #[.int .i64 t118, .int .i64 t119] 35 (0, 0)) (by (with_reducible repeat (first | refine blk_drewN ?_ _ | refine blk_drew ?_ | refine blk_alloc ?_ _)); exact BK121.out) hb)
             have n6_ := Aside0.mk (blk_below (g := gb127) (o := .cells #[.int .i64 t124, .int .i64 t125] 35 (0, 0)) (by (with_reducible repeat (first | refine blk_drewN ?_ _ | refine blk_drew ?_ | refine blk_alloc ?_ _)); exact BK127.out) hb)
             have n7_ := Aside0.mk (below_step (by repeat (first | (with_reducible first | exact HB.out | apply below_alloc | apply pw_below_drewN | apply below_drew1 | refine below_set ?_ GE107.out | refine below_set ?_ GE116.out | refine below_set ?_ GE117.out | refine below_set ?_ GE121.out | refine below_set ?_ GE127.out) | exact HB.out)) hb)
             have n8_ := Aside0.mk (hbox)
             have n9_ := Aside0.mk ((by rw [hg]; exact (below_size (by repeat (first | (with_reducible first | exact HB.out | apply below_alloc | apply pw_below_drewN | apply below_drew1 | refine below_set ?_ GE107.out | refine below_set ?_ GE116.out | refine below_set ?_ GE117.out | refine below_set ?_ GE121.out | refine below_set ?_ GE127.out) | exact HB.out))) : w.heap.size ≤ gb133))
             have n10_ := Aside0.mk ((by rw [hg]; exact (below_size (by repeat (first | (with_reducible first | exact HB.out | apply below_alloc | apply pw_below_drewN | apply below_drew1 | refine below_set ?_ GE107.out | refine below_set ?_ GE116.out | refine below_set ?_ GE117.out | refine below_set ?_ GE121.out | refine below_set ?_ GE127.out) | exact HB.out))) : w.heap.size ≤ gb133))
             have n11_ := Aside0.mk ((by rw [hg]; exact Nat.ne_of_lt (blk_lt (g := gb107) (o := .cells #[.int .i64 t105, .int .i64 t106] 35 (0, 0)) (by (with_reducible repeat (first | refine blk_drewN ?_ _ | refine blk_drew ?_ | refine blk_alloc ?_ _)); exact BK107.out)) : gb107 ≠ gb133))
             have n12_ := Aside0.mk ((by rw [hg]; exact Nat.ne_of_gt (blk_lt (g := gb107) (o := .cells #[.int .i64 t105, .int .i64 t106] 35 (0, 0)) (by (with_reducible repeat (first | refine blk_drewN ?_ _ | refine blk_drew ?_ | refine blk_alloc ?_ _)); exact BK107.out)) : gb133 ≠ gb107))
             have n13_ := Aside0.mk ((by rw [hg]; exact Nat.ne_of_lt (blk_lt (g := gb116) (o := .cells #[.slice Ao22 t108.length co22, .int .i64 t111] 32 (0, 0)) (by (with_reducible repeat (first | refine blk_drewN ?_ _ | refine blk_drew ?_ | refine blk_alloc ?_ _)); exact BK116.out)) : gb116 ≠ gb133))
             have n14_ := Aside0.mk ((by rw [hg]; exact Nat.ne_of_gt (blk_lt (g := gb116) (o := .cells #[.slice Ao22 t108.length co22, .int .i64 t111] 32 (0, 0)) (by (with_reducible repeat (first | refine blk_drewN ?_ _ | refine blk_drew ?_ | refine blk_alloc ?_ _)); exact BK116.out)) : gb133 ≠ gb116))
             have n15_ := Aside0.mk ((by rw [hg]; exact Nat.ne_of_lt (blk_lt (g := gb117) (o := .cells #[.slice Ao26 t112.length co26, .int .i64 t115] 32 (0, 0)) (by (with_reducible repeat (first | refine blk_drewN ?_ _ | refine blk_drew ?_ | refine blk_alloc ?_ _)); exact BK117.out)) : gb117 ≠ gb133))
             have n16_ := Aside0.mk ((by rw [hg]; exact Nat.ne_of_gt (blk_lt (g := gb117) (o := .cells #[.slice Ao26 t112.length co26, .int .i64 t115] 32 (0, 0)) (by (with_reducible repeat (first | refine blk_drewN ?_ _ | refine blk_drew ?_ | refine blk_alloc ?_ _)); exact BK117.out)) : gb133 ≠ gb117))
             have n17_ := Aside0.mk ((by rw [hg]; exact Nat.ne_of_lt (blk_lt (g := gb121) (o := .cells #[.int .i64 t118, .int .i64 t119] 35 (0, 0)) (by (with_reducible repeat (first | refine blk_drewN ?_ _ | refine blk_drew ?_ | refine blk_alloc ?_ _)); exact BK121.out)) : gb121 ≠ gb133))
             have n18_ := Aside0.mk ((by rw [hg]; exact Nat.ne_of_gt (blk_lt (g := gb121) (o := .cells #[.int .i64 t118, .int .i64 t119] 35 (0, 0)) (by (with_reducible repeat (first | refine blk_drewN ?_ _ | refine blk_drew ?_ | refine blk_alloc ?_ _)); exact BK121.out)) : gb133 ≠ gb121))
             have n19_ := Aside0.mk ((by rw [hg]; exact Nat.ne_of_lt (blk_lt (g := gb127) (o := .cells #[.int .i64 t124, .int .i64 t125] 35 (0, 0)) (by (with_reducible repeat (first | refine blk_drewN ?_ _ | refine blk_drew ?_ | refine blk_alloc ?_ _)); exact BK127.out)) : gb127 ≠ gb133))
             have n20_ := Aside0.mk ((by rw [hg]; exact Nat.ne_of_gt (blk_lt (g := gb127) (o := .cells #[.int .i64 t124, .int .i64 t125] 35 (0, 0)) (by (with_reducible repeat (first | refine blk_drewN ?_ _ | refine blk_drew ?_ | refine blk_alloc ?_ _)); exact BK127.out)) : gb133 ≠ gb127))
             clear HO_117000 HO_118000 BK107 BK116 BK117 BK121 BK127 HB; have HO_117000 := n0_; have HO_118000 := n1_; have BK107 := n2_; have BK116 := n3_; have BK117 := n4_; have BK121 := n5_; have BK127 := n6_; have HB := n7_; have BK133 := n8_; have GW133 := n9_; have GE133 := n10_; have NB107_133 := n11_; have NB133_107 := n12_; have NB116_133 := n13_; have NB133_116 := n14_; have NB117_133 := n15_; have NB133_117 := n16_; have NB121_133 := n17_; have NB133_121 := n18_; have NB127_133 := n19_; have NB133_127 := n20_; clear n0_ n1_ n2_ n3_ n4_ n5_ n6_ n7_ n8_ n9_ n10_ n11_ n12_ n13_ n14_ n15_ n16_ n17_ n18_ n19_ n20_ hb hbox hg
             refine hK.out _ _ ⟨(blk_cell BK121.out 0).trans rfl, (blk_cell BK121.out 1).trans rfl, (blk_cell BK117.out 0).trans rfl, (blk_cell BK117.out 1).trans rfl⟩ (fun hHeld => ?_)
             clear hK K
             refine nX (some 15) ?_
             refine oX (i := 4) (N := some 90) rfl rfl HT_ (fun K hK => ?_)
             refine goes_ Try.func22 (by kernel_rfl) rfl #[.slice Ao26 t112.length co26, .int .i64 (wrap64 (1 + (wrap64 (Int.tmod a1 14))))] (by rfl) rfl rfl (by (try simp only [List.map_toArray, List.map_cons, List.map_nil]); first | done | rfl | (simp only [List.length_drop, List.length_take]; rfl)) ?_
             with_reducible refine (odds_Of.calls kj10 _ _ t112 (wrap64 (1 + (wrap64 (Int.tmod a1 14)))) t128 t129 _ ?side1 ?side2 A66.out).mono ?_
             (case side1 => repeat (first | exact (Kd.R_reads' HO_118000.out).2.2 | (with_reducible refine Kd.C_alloc ?_ _) | (with_reducible refine Kd.C_drewN ?_ _) | (with_reducible refine Kd.C_drew ?_)))
             (case side2 => exact (Kd.R_reads' HO_118000.out).2.1)
             rintro e w94 ⟨rfl, hb⟩
             refine ⟨_, rfl, ?_⟩
             have n0_ := Aside0.mk (Kd.R_below (by (with_reducible repeat (first | apply Kd.R_alloc | apply Kd.R_drewN | apply Kd.R_drew)); exact HO_117000.out) hb)
             have n1_ := Aside0.mk (Kd.R_below (by (with_reducible repeat (first | apply Kd.R_alloc | apply Kd.R_drewN | apply Kd.R_drew)); exact HO_118000.out) hb)
             have n2_ := Aside0.mk (blk_below (g := gb107) (o := .cells #[.int .i64 t105, .int .i64 t106] 35 (0, 0)) (by (with_reducible repeat (first | refine blk_drewN ?_ _ | refine blk_drew ?_ | refine blk_alloc ?_ _)); exact BK107.out) hb)
             have n3_ := Aside0.mk (blk_below (g := gb116) (o := .cells #[.slice Ao22 t108.length co22, .int .i64 t111] 32 (0, 0)) (by (with_reducible repeat (first | refine blk_drewN ?_ _ | refine blk_drew ?_ | refine blk_alloc ?_ _)); exact BK116.out) hb)
             have n4_ := Aside0.mk (blk_below (g := gb117) (o := .cells #[.slice Ao26 t112.length co26, .int .i64 t115] 32 (0, 0)) (by (with_reducible repeat (first | refine blk_drewN ?_ _ | refine blk_drew ?_ | refine blk_alloc ?_ _)); exact BK117.out) hb)
             have n5_ := Aside0.mk (blk_below (g := gb121) (o := .cells #[.int .i64 t118, .int .i64 t119] 35 (0, 0)) (by (with_reducible repeat (first | refine blk_drewN ?_ _ | refine blk_drew ?_ | refine blk_alloc ?_ _)); exact BK121.out) hb)
             have n6_ := Aside0.mk (blk_below (g := gb127) (o := .cells #[.int .i64 t124, .int .i64 t125] 35 (0, 0)) (by (with_reducible repeat (first | refine blk_drewN ?_ _ | refine blk_drew ?_ | refine blk_alloc ?_ _)); exact BK127.out) hb)
             have n7_ := Aside0.mk (blk_below (g := gb133) (o := .cells #[.int .i64 0, .int .i64 0] 35 (0, 0)) (by (with_reducible repeat (first | refine blk_drewN ?_ _ | refine blk_drew ?_ | refine blk_alloc ?_ _)); exact BK133.out) hb)
             have n8_ := Aside0.mk (below_step (by repeat (first | (with_reducible first | exact HB.out | apply below_alloc | apply pw_below_drewN | apply below_drew1 | refine below_set ?_ GE107.out | refine below_set ?_ GE116.out | refine below_set ?_ GE117.out | refine below_set ?_ GE121.out | refine below_set ?_ GE127.out | refine below_set ?_ GE133.out) | exact HB.out)) hb)
             clear HO_117000 HO_118000 BK107 BK116 BK117 BK121 BK127 BK133 HB; have HO_117000 := n0_; have HO_118000 := n1_; have BK107 := n2_; have BK116 := n3_; have BK117 := n4_; have BK121 := n5_; have BK127 := n6_; have BK133 := n7_; have HB := n8_; clear n0_ n1_ n2_ n3_ n4_ n5_ n6_ n7_ n8_; (try clear hb); (try clear hb2); (try clear hk); (try clear hi)
             refine hK.out _ _ ⟨(blk_cell BK121.out 0).trans rfl, (blk_cell BK121.out 1).trans rfl, (blk_cell BK117.out 0).trans rfl, (blk_cell BK117.out 1).trans rfl⟩ (fun hHeld => ?_)
             clear hK K
             refine nX (some 90) ?_
             refine oX (i := 5) (N := some 91) rfl rfl HT_ (fun K hK => ?_)
             refine goes_ Try.func49 (by kernel_rfl) rfl #[.agg #[.int .i64 t118, .int .i64 t119], .agg #[.int .i64 t128, .int .i64 t129]] (by rfl) rfl rfl (by (try simp only [List.map_toArray, List.map_cons, List.map_nil]); first | done | rfl | (simp only [List.length_drop, List.length_take]; rfl)) ?_
             with_reducible refine (rat_Mul.calls kj10 t118 t119 t128 t129 t130 t131 t132 _ A67.out).mono ?_
             rintro e w95 ⟨rfl, hb⟩
             refine ⟨_, rfl, ?_⟩
             have n0_ := Aside0.mk (Kd.R_below (by (with_reducible repeat (first | apply Kd.R_alloc | apply Kd.R_drewN | apply Kd.R_drew)); exact HO_117000.out) hb)
             have n1_ := Aside0.mk (Kd.R_below (by (with_reducible repeat (first | apply Kd.R_alloc | apply Kd.R_drewN | apply Kd.R_drew)); exact HO_118000.out) hb)
             have n2_ := Aside0.mk (blk_below (g := gb107) (o := .cells #[.int .i64 t105, .int .i64 t106] 35 (0, 0)) (by (with_reducible repeat (first | refine blk_drewN ?_ _ | refine blk_drew ?_ | refine blk_alloc ?_ _)); exact BK107.out) hb)
             have n3_ := Aside0.mk (blk_below (g := gb116) (o := .cells #[.slice Ao22 t108.length co22, .int .i64 t111] 32 (0, 0)) (by (with_reducible repeat (first | refine blk_drewN ?_ _ | refine blk_drew ?_ | refine blk_alloc ?_ _)); exact BK116.out) hb)
             have n4_ := Aside0.mk (blk_below (g := gb117) (o := .cells #[.slice Ao26 t112.length co26, .int .i64 t115] 32 (0, 0)) (by (with_reducible repeat (first | refine blk_drewN ?_ _ | refine blk_drew ?_ | refine blk_alloc ?_ _)); exact BK117.out) hb)
             have n5_ := Aside0.mk (blk_below (g := gb121) (o := .cells #[.int .i64 t118, .int .i64 t119] 35 (0, 0)) (by (with_reducible repeat (first | refine blk_drewN ?_ _ | refine blk_drew ?_ | refine blk_alloc ?_ _)); exact BK121.out) hb)
             have n6_ := Aside0.mk (blk_below (g := gb127) (o := .cells #[.int .i64 t124, .int .i64 t125] 35 (0, 0)) (by (with_reducible repeat (first | refine blk_drewN ?_ _ | refine blk_drew ?_ | refine blk_alloc ?_ _)); exact BK127.out) hb)
             have n7_ := Aside0.mk (blk_below (g := gb133) (o := .cells #[.int .i64 0, .int .i64 0] 35 (0, 0)) (by (with_reducible repeat (first | refine blk_drewN ?_ _ | refine blk_drew ?_ | refine blk_alloc ?_ _)); exact BK133.out) hb)
             have n8_ := Aside0.mk (below_step (by repeat (first | (with_reducible first | exact HB.out | apply below_alloc | apply pw_below_drewN | apply below_drew1 | refine below_set ?_ GE107.out | refine below_set ?_ GE116.out | refine below_set ?_ GE117.out | refine below_set ?_ GE121.out | refine below_set ?_ GE127.out | refine below_set ?_ GE133.out) | exact HB.out)) hb)
             clear HO_117000 HO_118000 BK107 BK116 BK117 BK121 BK127 BK133 HB; have HO_117000 := n0_; have HO_118000 := n1_; have BK107 := n2_; have BK116 := n3_; have BK117 := n4_; have BK121 := n5_; have BK127 := n6_; have BK133 := n7_; have HB := n8_; clear n0_ n1_ n2_ n3_ n4_ n5_ n6_ n7_ n8_; (try clear hb); (try clear hb2); (try clear hk); (try clear hi)
             refine hK.out _ _ ⟨(blk_cell BK121.out 0).trans rfl, (blk_cell BK121.out 1).trans rfl, (blk_cell BK117.out 0).trans rfl, (blk_cell BK117.out 1).trans rfl⟩ (fun hHeld => ?_)
             clear hK K
             refine nX (some 91) ?_
             refine pX (i := 6) (N := some 85) rfl rfl HT_ ?_
             refine pX (i := 7) (N := some 92) rfl rfl HT_ ?_
             refine pX (i := 8) (N := some 93) rfl rfl HT_ ?_
             exact norm_ (by simp only [putAll, Act.put, List.setIfInBounds_toArray, List.set_cons_zero, List.set_cons_succ]) (hCont (gb133) _ ⟨hHeld, (by (with_reducible repeat (first | apply Kd.R_alloc | apply Kd.R_drewN | apply Kd.R_drew)); exact HO_117000.out), (by (with_reducible repeat (first | apply Kd.R_alloc | apply Kd.R_drewN | apply Kd.R_drew)); exact HO_118000.out), (by (with_reducible repeat (first | refine blk_drewN ?_ _ | refine blk_drew ?_ | refine blk_alloc ?_ _)); exact BK107.out), (by (with_reducible repeat (first | refine blk_drewN ?_ _ | refine blk_drew ?_ | refine blk_alloc ?_ _)); exact BK116.out), (by (with_reducible repeat (first | refine blk_drewN ?_ _ | refine blk_drew ?_ | refine blk_alloc ?_ _)); exact BK117.out), (by (with_reducible repeat (first | refine blk_drewN ?_ _ | refine blk_drew ?_ | refine blk_alloc ?_ _)); exact BK121.out), (by (with_reducible repeat (first | refine blk_drewN ?_ _ | refine blk_drew ?_ | refine blk_alloc ?_ _)); exact BK127.out), (by (with_reducible repeat (first | refine blk_drewN ?_ _ | refine blk_drew ?_ | refine blk_alloc ?_ _)); exact BK133.out), GW133.out, GE133.out, NB107_133.out, NB133_107.out, NB116_133.out, NB133_116.out, NB117_133.out, NB133_117.out, NB121_133.out, NB133_121.out, NB127_133.out, NB133_127.out, (by repeat (first | (with_reducible first | exact HB.out | apply below_alloc | apply pw_below_drewN | apply below_drew1 | refine below_set ?_ GE107.out | refine below_set ?_ GE116.out | refine below_set ?_ GE117.out | refine below_set ?_ GE121.out | refine below_set ?_ GE127.out | refine below_set ?_ GE133.out) | exact HB.out))⟩)
           rintro gb133 w96 ⟨hS_, h0_, h1_, h2_, h3_, h4_, h5_, h6_, h7_, h8_, h9_, h10_, h11_, h12_, h13_, h14_, h15_, h16_, h17_, h18_, h19_, h20_⟩
           have n0_ : Aside0 (Kd.R k71 71 w96 w.heap.size (fun k_ => some k_ ≠ (.slice Ao26 t112.length co26 : Value).ownBlock) (.slice Ao22 t108.length co22) t108) := ⟨h0_⟩
           have n1_ : Aside0 (Kd.R k71 71 w96 w.heap.size (fun k_ => some k_ ≠ (.slice Ao22 t108.length co22 : Value).ownBlock) (.slice Ao26 t112.length co26) t112) := ⟨h1_⟩
           have n2_ : Aside0 (w96.heap[gb107]? = some (.cells #[.int .i64 t105, .int .i64 t106] 35 (0, 0))) := ⟨h2_⟩
           have n3_ : Aside0 (w96.heap[gb116]? = some (.cells #[.slice Ao22 t108.length co22, .int .i64 t111] 32 (0, 0))) := ⟨h3_⟩
           have n4_ : Aside0 (w96.heap[gb117]? = some (.cells #[.slice Ao26 t112.length co26, .int .i64 t115] 32 (0, 0))) := ⟨h4_⟩
           have n5_ : Aside0 (w96.heap[gb121]? = some (.cells #[.int .i64 t118, .int .i64 t119] 35 (0, 0))) := ⟨h5_⟩
           have n6_ : Aside0 (w96.heap[gb127]? = some (.cells #[.int .i64 t124, .int .i64 t125] 35 (0, 0))) := ⟨h6_⟩
           have n7_ : Aside0 (w96.heap[gb133]? = some (.cells #[.int .i64 0, .int .i64 0] 35 (0, 0))) := ⟨h7_⟩
           have n8_ : Aside0 (w.heap.size ≤ gb133) := ⟨h8_⟩
           have n9_ : Aside0 (w.heap.size ≤ gb133) := ⟨h9_⟩
           have n10_ : Aside0 (gb107 ≠ gb133) := ⟨h10_⟩
           have n11_ : Aside0 (gb133 ≠ gb107) := ⟨h11_⟩
           have n12_ : Aside0 (gb116 ≠ gb133) := ⟨h12_⟩
           have n13_ : Aside0 (gb133 ≠ gb116) := ⟨h13_⟩
           have n14_ : Aside0 (gb117 ≠ gb133) := ⟨h14_⟩
           have n15_ : Aside0 (gb133 ≠ gb117) := ⟨h15_⟩
           have n16_ : Aside0 (gb121 ≠ gb133) := ⟨h16_⟩
           have n17_ : Aside0 (gb133 ≠ gb121) := ⟨h17_⟩
           have n18_ : Aside0 (gb127 ≠ gb133) := ⟨h18_⟩
           have n19_ : Aside0 (gb133 ≠ gb127) := ⟨h19_⟩
           have n20_ : Aside0 (Below w.heap.size w w96) := ⟨h20_⟩
           clear HO_117000 HO_118000 BK107 BK116 BK117 BK121 BK127 HB h0_ h1_ h2_ h3_ h4_ h5_ h6_ h7_ h8_ h9_ h10_ h11_ h12_ h13_ h14_ h15_ h16_ h17_ h18_ h19_ h20_; have HO_117000 := n0_; have HO_118000 := n1_; have BK107 := n2_; have BK116 := n3_; have BK117 := n4_; have BK121 := n5_; have BK127 := n6_; have BK133 := n7_; have GW133 := n8_; have GE133 := n9_; have NB107_133 := n10_; have NB133_107 := n11_; have NB116_133 := n12_; have NB133_116 := n13_; have NB117_133 := n14_; have NB133_117 := n15_; have NB121_133 := n16_; have NB133_121 := n17_; have NB127_133 := n18_; have NB133_127 := n19_; have HB := n20_; clear n0_ n1_ n2_ n3_ n4_ n5_ n6_ n7_ n8_ n9_ n10_ n11_ n12_ n13_ n14_ n15_ n16_ n17_ n18_ n19_ n20_
           have hHeld : w96.cell? ⟨gb121, 0, none⟩ = some (.int .i64 t118) ∧ w96.cell? ⟨gb121, 1, none⟩ = some (.int .i64 t119) ∧ w96.cell? ⟨gb117, 0, none⟩ = some (.slice Ao26 t112.length co26) ∧ w96.cell? ⟨gb117, 1, none⟩ = some (.int .i64 t115) := hS_
           refine norm_ (a' := ?_) ?_ ?_
           rotate_left
           ·simp only [putAll, Act.put, List.setIfInBounds_toArray, List.set_cons_zero, List.set_cons_succ]
            rfl
           refine oX (i := 10) (N := none) rfl rfl HT_ (fun K hK => ?_)
           have hs97 : w96.cell? ⟨gb133, 0, none⟩ = some (.int .i64 0) := (blk_cell BK133.out 0).trans rfl
           have hfs97 := blk_frozen BK133.out 0
           have hns97_0 := NB107_133.out
           have hns97_1 := NB116_133.out
           have hns97_2 := NB117_133.out
           have hns97_3 := NB121_133.out
           have hns97_4 := NB127_133.out
           have hms97_0 := NB133_107.out
           have hms97_1 := NB133_116.out
           have hms97_2 := NB133_117.out
           have hms97_3 := NB133_121.out
           have hms97_4 := NB133_127.out
           have hs98 : w96.cell? ⟨gb133, 1, none⟩ = some (.int .i64 0) := (blk_cell BK133.out 1).trans rfl
           have hfs98 := blk_frozen BK133.out 1
           have hns98_0 := NB107_133.out
           have hns98_1 := NB116_133.out
           have hns98_2 := NB117_133.out
           have hns98_3 := NB121_133.out
           have hns98_4 := NB127_133.out
           have hms98_0 := NB133_107.out
           have hms98_1 := NB133_116.out
           have hms98_2 := NB133_117.out
           have hms98_3 := NB133_121.out
           have hms98_4 := NB133_127.out
           refine skip_ (w1 := ?_) (by rfl) rfl ?_ ?_
           rotate_left
           ·go_simp
            rfl
           refine hK.out _ _ ⟨((cell_far (p := ⟨gb133, _, none⟩) NB121_133.out _).trans (((cell_far (p := ⟨gb133, _, none⟩) NB121_133.out _).trans (hHeld.1)))), ((cell_far (p := ⟨gb133, _, none⟩) NB121_133.out _).trans (((cell_far (p := ⟨gb133, _, none⟩) NB121_133.out _).trans (hHeld.2.1)))), ((cell_far (p := ⟨gb133, _, none⟩) NB117_133.out _).trans (((cell_far (p := ⟨gb133, _, none⟩) NB117_133.out _).trans (hHeld.2.2.1)))), ((cell_far (p := ⟨gb133, _, none⟩) NB117_133.out _).trans (((cell_far (p := ⟨gb133, _, none⟩) NB117_133.out _).trans (hHeld.2.2.2))))⟩ (fun hHeld => ?_)
           clear hK K
           refine pX (i := 11) (N := some 16) rfl rfl HT_ ?_
           refine done_ (done_of HT_.out (by kernel_rfl)) ?_
           have hnb99 := NB127_107.out
           have hnc99 := NB107_127.out
           have hnb100 := NB127_116.out
           have hnc100 := NB116_127.out
           have hnb101 := NB127_117.out
           have hnc101 := NB117_127.out
           have hnb102 := NB127_121.out
           have hnc102 := NB121_127.out
           have hnb103 := NB127_133.out
           have hnc103 := NB133_127.out
           have hcz104_0 : w96.cell? ⟨gb127, 0, none⟩ = some (.int .i64 t124) := (blk_cell BK127.out 0).trans rfl
           have hcz104_1 : w96.cell? ⟨gb127, 1, none⟩ = some (.int .i64 t125) := (blk_cell BK127.out 1).trans rfl
           have hfz104_0 := blk_frozen BK127.out 0
           have hfz104_1 := blk_frozen BK127.out 1
           have hnb105 := NB133_107.out
           have hnc105 := NB107_133.out
           have hnb106 := NB133_116.out
           have hnc106 := NB116_133.out
           have hnb107 := NB133_117.out
           have hnc107 := NB117_133.out
           have hnb108 := NB133_121.out
           have hnc108 := NB121_133.out
           have hcz109_0 : w96.cell? ⟨gb133, 0, none⟩ = some (.int .i64 0) := (blk_cell BK133.out 0).trans rfl
           have hcz109_1 : w96.cell? ⟨gb133, 1, none⟩ = some (.int .i64 0) := (blk_cell BK133.out 1).trans rfl
           have hfz109_0 := blk_frozen BK133.out 0
           have hfz109_1 := blk_frozen BK133.out 1
           try go_wp2_with (first | ((with_reducible refine gate_callee (f := 50) rfl ?_); refine goesL_ (some 97) rfl rfl Try.func50 (by kernel_rfl) rfl #[.agg #[.int .i64 t124, .int .i64 t125], .agg #[.int .i64 t130, .int .i64 t131]] rfl (by (try simp only [List.map_toArray, List.map_cons, List.map_nil]); first | done | rfl | (simp only [List.length_drop, List.length_take]; rfl)) ?_; (with_reducible refine (rat_Add.calls kj10 t124 t125 t130 t131 t134 t135 t136 _ A68.out).mono ?_); rintro e w110 ⟨rfl, hb⟩; refine ⟨_, rfl, ?_⟩; have n0_ := Aside0.mk (Kd.R_below (by (with_reducible repeat (first | apply Kd.R_alloc | apply Kd.R_drewN | apply Kd.R_drew)); exact (Kd.R_mono (Kd.R_far (p := ⟨gb133, 1, none⟩) (Kd.R_far (p := ⟨gb133, 0, none⟩) (Kd.R_types HO_117000.out BK133.out (by decide)) (fun _ hk => hk.2) (.int .i64 t130)) (fun _ hk => hk.2) (.int .i64 t131)) (fun _ h_ => h_.1))) hb); have n1_ := Aside0.mk (Kd.R_below (by (with_reducible repeat (first | apply Kd.R_alloc | apply Kd.R_drewN | apply Kd.R_drew)); exact (Kd.R_mono (Kd.R_far (p := ⟨gb133, 1, none⟩) (Kd.R_far (p := ⟨gb133, 0, none⟩) (Kd.R_types HO_118000.out BK133.out (by decide)) (fun _ hk => hk.2) (.int .i64 t130)) (fun _ hk => hk.2) (.int .i64 t131)) (fun _ h_ => h_.1))) hb); have n2_ := Aside0.mk (blk_below (g := gb107) (o := .cells #[.int .i64 t105, .int .i64 t106] 35 (0, 0)) (by (with_reducible repeat (first | refine blk_drewN ?_ _ | refine blk_drew ?_ | refine blk_alloc ?_ _)); refine blk_far ?_ NB107_133.out _; (with_reducible repeat (first | refine blk_drewN ?_ _ | refine blk_drew ?_ | refine blk_alloc ?_ _)); refine blk_far ?_ NB107_133.out _; (with_reducible repeat (first | refine blk_drewN ?_ _ | refine blk_drew ?_ | refine blk_alloc ?_ _)); exact BK107.out) hb); have n3_ := Aside0.mk (blk_below (g := gb116) (o := .cells #[.slice Ao22 t108.length co22, .int .i64 t111] 32 (0, 0)) (by (with_reducible repeat (first | refine blk_drewN ?_ _ | refine blk_drew ?_ | refine blk_alloc ?_ _)); refine blk_far ?_ NB116_133.out _; (with_reducible repeat (first | refine blk_drewN ?_ _ | refine blk_drew ?_ | refine blk_alloc ?_ _)); refine blk_far ?_ NB116_133.out _; (with_reducible repeat (first | refine blk_drewN ?_ _ | refine blk_drew ?_ | refine blk_alloc ?_ _)); exact BK116.out) hb); have n4_ := Aside0.mk (blk_below (g := gb117) (o := .cells #[.slice Ao26 t112.length co26, .int .i64 t115] 32 (0, 0)) (by (with_reducible repeat (first | refine blk_drewN ?_ _ | refine blk_drew ?_ | refine blk_alloc ?_ _)); refine blk_far ?_ NB117_133.out _; (with_reducible repeat (first | refine blk_drewN ?_ _ | refine blk_drew ?_ | refine blk_alloc ?_ _)); refine blk_far ?_ NB117_133.out _; (with_reducible repeat (first | refine blk_drewN ?_ _ | refine blk_drew ?_ | refine blk_alloc ?_ _)); exact BK117.out) hb); have n5_ := Aside0.mk (blk_below (g := gb121) (o := .cells #[.int .i64 t118, .int .i64 t119] 35 (0, 0)) (by (with_reducible repeat (first | refine blk_drewN ?_ _ | refine blk_drew ?_ | refine blk_alloc ?_ _)); refine blk_far ?_ NB121_133.out _; (with_reducible repeat (first | refine blk_drewN ?_ _ | refine blk_drew ?_ | refine blk_alloc ?_ _)); refine blk_far ?_ NB121_133.out _; (with_reducible repeat (first | refine blk_drewN ?_ _ | refine blk_drew ?_ | refine blk_alloc ?_ _)); exact BK121.out) hb); have n6_ := Aside0.mk (blk_below (g := gb127) (o := .cells #[.int .i64 t124, .int .i64 t125] 35 (0, 0)) (by (with_reducible repeat (first | refine blk_drewN ?_ _ | refine blk_drew ?_ | refine blk_alloc ?_ _)); refine blk_far ?_ NB127_133.out _; (with_reducible repeat (first | refine blk_drewN ?_ _ | refine blk_drew ?_ | refine blk_alloc ?_ _)); refine blk_far ?_ NB127_133.out _; (with_reducible repeat (first | refine blk_drewN ?_ _ | refine blk_drew ?_ | refine blk_alloc ?_ _)); exact BK127.out) hb); have n7_ := Aside0.mk (blk_below (g := gb133) (o := .cells #[.int .i64 t130, .int .i64 t131] 35 (0, 0)) (by (with_reducible repeat (first | refine blk_drewN ?_ _ | refine blk_drew ?_ | refine blk_alloc ?_ _)); refine blk_put (cs := #[.int .i64 t130, .int .i64 0]) ?_ 1 _ rfl; (with_reducible repeat (first | refine blk_drewN ?_ _ | refine blk_drew ?_ | refine blk_alloc ?_ _)); refine blk_put (cs := #[.int .i64 0, .int .i64 0]) ?_ 0 _ rfl; (with_reducible repeat (first | refine blk_drewN ?_ _ | refine blk_drew ?_ | refine blk_alloc ?_ _)); exact BK133.out) hb); have n8_ := Aside0.mk (below_step (by repeat (first | (with_reducible first | exact HB.out | apply below_alloc | apply pw_below_drewN | apply below_drew1 | refine below_set ?_ GE107.out | refine below_set ?_ GE116.out | refine below_set ?_ GE117.out | refine below_set ?_ GE121.out | refine below_set ?_ GE127.out | refine below_set ?_ GE133.out) | exact HB.out)) hb); clear HO_117000; clear HO_118000; clear BK107; clear BK116; clear BK117; clear BK121; clear BK127; clear BK133; clear HB; have HO_117000 := n0_; have HO_118000 := n1_; have BK107 := n2_; have BK116 := n3_; have BK117 := n4_; have BK121 := n5_; have BK127 := n6_; have BK133 := n7_; have HB := n8_; clear n0_ n1_ n2_ n3_ n4_ n5_ n6_ n7_ n8_; (try clear hb); (try clear hb2); (try clear hk); (try clear hi)) | ((with_reducible refine gate_dst (N := 17) rfl ?_); refine box_event ?hg (N := 17) ?hd (cs := #[.int .i64 0, .int .i64 0]) (t := 35) ?hr ?_; (case hd => rfl); (case hg => rfl); (case hr => first | (go_simp; done) | (go_simp; rfl)); intro gb137 hg w111 hbox hb; have n0_ := Aside0.mk (Kd.R_below (by (with_reducible repeat (first | apply Kd.R_alloc | apply Kd.R_drewN | apply Kd.R_drew)); exact HO_117000.out) hb); have n1_ := Aside0.mk (Kd.R_below (by (with_reducible repeat (first | apply Kd.R_alloc | apply Kd.R_drewN | apply Kd.R_drew)); exact HO_118000.out) hb); have n2_ := Aside0.mk (blk_below (g := gb107) (o := .cells #[.int .i64 t105, .int .i64 t106] 35 (0, 0)) (by (with_reducible repeat (first | refine blk_drewN ?_ _ | refine blk_drew ?_ | refine blk_alloc ?_ _)); exact BK107.out) hb); have n3_ := Aside0.mk (blk_below (g := gb116) (o := .cells #[.slice Ao22 t108.length co22, .int .i64 t111] 32 (0, 0)) (by (with_reducible repeat (first | refine blk_drewN ?_ _ | refine blk_drew ?_ | refine blk_alloc ?_ _)); exact BK116.out) hb); have n4_ := Aside0.mk (blk_below (g := gb117) (o := .cells #[.slice Ao26 t112.length co26, .int .i64 t115] 32 (0, 0)) (by (with_reducible repeat (first | refine blk_drewN ?_ _ | refine blk_drew ?_ | refine blk_alloc ?_ _)); exact BK117.out) hb); have n5_ := Aside0.mk (blk_below (g := gb121) (o := .cells #[.int .i64 t118, .int .i64 t119] 35 (0, 0)) (by (with_reducible repeat (first | refine blk_drewN ?_ _ | refine blk_drew ?_ | refine blk_alloc ?_ _)); exact BK121.out) hb); have n6_ := Aside0.mk (blk_below (g := gb127) (o := .cells #[.int .i64 t124, .int .i64 t125] 35 (0, 0)) (by (with_reducible repeat (first | refine blk_drewN ?_ _ | refine blk_drew ?_ | refine blk_alloc ?_ _)); exact BK127.out) hb); have n7_ := Aside0.mk (blk_below (g := gb133) (o := .cells #[.int .i64 t130, .int .i64 t131] 35 (0, 0)) (by (with_reducible repeat (first | refine blk_drewN ?_ _ | refine blk_drew ?_ | refine blk_alloc ?_ _)); exact BK133.out) hb); have n8_ := Aside0.mk (below_step (by repeat (first | (with_reducible first | exact HB.out | apply below_alloc | apply pw_below_drewN | apply below_drew1 | refine below_set ?_ GE107.out | refine below_set ?_ GE116.out | refine below_set ?_ GE117.out | refine below_set ?_ GE121.out | refine below_set ?_ GE127.out | refine below_set ?_ GE133.out) | exact HB.out)) hb); have n9_ := Aside0.mk (hbox); have n10_ := Aside0.mk ((by rw [hg]; exact (below_size (by repeat (first | (with_reducible first | exact HB.out | apply below_alloc | apply pw_below_drewN | apply below_drew1 | refine below_set ?_ GE107.out | refine below_set ?_ GE116.out | refine below_set ?_ GE117.out | refine below_set ?_ GE121.out | refine below_set ?_ GE127.out | refine below_set ?_ GE133.out) | exact HB.out))) : w.heap.size ≤ gb137)); have n11_ := Aside0.mk ((by rw [hg]; exact (below_size (by repeat (first | (with_reducible first | exact HB.out | apply below_alloc | apply pw_below_drewN | apply below_drew1 | refine below_set ?_ GE107.out | refine below_set ?_ GE116.out | refine below_set ?_ GE117.out | refine below_set ?_ GE121.out | refine below_set ?_ GE127.out | refine below_set ?_ GE133.out) | exact HB.out))) : w.heap.size ≤ gb137)); have n12_ := Aside0.mk ((by rw [hg]; exact Nat.ne_of_lt (blk_lt (g := gb107) (o := .cells #[.int .i64 t105, .int .i64 t106] 35 (0, 0)) (by (with_reducible repeat (first | refine blk_drewN ?_ _ | refine blk_drew ?_ | refine blk_alloc ?_ _)); exact BK107.out)) : gb107 ≠ gb137)); have n13_ := Aside0.mk ((by rw [hg]; exact Nat.ne_of_gt (blk_lt (g := gb107) (o := .cells #[.int .i64 t105, .int .i64 t106] 35 (0, 0)) (by (with_reducible repeat (first | refine blk_drewN ?_ _ | refine blk_drew ?_ | refine blk_alloc ?_ _)); exact BK107.out)) : gb137 ≠ gb107)); have n14_ := Aside0.mk ((by rw [hg]; exact Nat.ne_of_lt (blk_lt (g := gb116) (o := .cells #[.slice Ao22 t108.length co22, .int .i64 t111] 32 (0, 0)) (by (with_reducible repeat (first | refine blk_drewN ?_ _ | refine blk_drew ?_ | refine blk_alloc ?_ _)); exact BK116.out)) : gb116 ≠ gb137)); have n15_ := Aside0.mk ((by rw [hg]; exact Nat.ne_of_gt (blk_lt (g := gb116) (o := .cells #[.slice Ao22 t108.length co22, .int .i64 t111] 32 (0, 0)) (by (with_reducible repeat (first | refine blk_drewN ?_ _ | refine blk_drew ?_ | refine blk_alloc ?_ _)); exact BK116.out)) : gb137 ≠ gb116)); have n16_ := Aside0.mk ((by rw [hg]; exact Nat.ne_of_lt (blk_lt (g := gb117) (o := .cells #[.slice Ao26 t112.length co26, .int .i64 t115] 32 (0, 0)) (by (with_reducible repeat (first | refine blk_drewN ?_ _ | refine blk_drew ?_ | refine blk_alloc ?_ _)); exact BK117.out)) : gb117 ≠ gb137)); have n17_ := Aside0.mk ((by rw [hg]; exact Nat.ne_of_gt (blk_lt (g := gb117) (o := .cells #[.slice Ao26 t112.length co26, .int .i64 t115] 32 (0, 0)) (by (with_reducible repeat (first | refine blk_drewN ?_ _ | refine blk_drew ?_ | refine blk_alloc ?_ _)); exact BK117.out)) : gb137 ≠ gb117)); have n18_ := Aside0.mk ((by rw [hg]; exact Nat.ne_of_lt (blk_lt (g := gb121) (o := .cells #[.int .i64 t118, .int .i64 t119] 35 (0, 0)) (by (with_reducible repeat (first | refine blk_drewN ?_ _ | refine blk_drew ?_ | refine blk_alloc ?_ _)); exact BK121.out)) : gb121 ≠ gb137)); have n19_ := Aside0.mk ((by rw [hg]; exact Nat.ne_of_gt (blk_lt (g := gb121) (o := .cells #[.int .i64 t118, .int .i64 t119] 35 (0, 0)) (by (with_reducible repeat (first | refine blk_drewN ?_ _ | refine blk_drew ?_ | refine blk_alloc ?_ _)); exact BK121.out)) : gb137 ≠ gb121)); have n20_ := Aside0.mk ((by rw [hg]; exact Nat.ne_of_lt (blk_lt (g := gb127) (o := .cells #[.int .i64 t124, .int .i64 t125] 35 (0, 0)) (by (with_reducible repeat (first | refine blk_drewN ?_ _ | refine blk_drew ?_ | refine blk_alloc ?_ _)); exact BK127.out)) : gb127 ≠ gb137)); have n21_ := Aside0.mk ((by rw [hg]; exact Nat.ne_of_gt (blk_lt (g := gb127) (o := .cells #[.int .i64 t124, .int .i64 t125] 35 (0, 0)) (by (with_reducible repeat (first | refine blk_drewN ?_ _ | refine blk_drew ?_ | refine blk_alloc ?_ _)); exact BK127.out)) : gb137 ≠ gb127)); have n22_ := Aside0.mk ((by rw [hg]; exact Nat.ne_of_lt (blk_lt (g := gb133) (o := .cells #[.int .i64 t130, .int .i64 t131] 35 (0, 0)) (by (with_reducible repeat (first | refine blk_drewN ?_ _ | refine blk_drew ?_ | refine blk_alloc ?_ _)); exact BK133.out)) : gb133 ≠ gb137)); have n23_ := Aside0.mk ((by rw [hg]; exact Nat.ne_of_gt (blk_lt (g := gb133) (o := .cells #[.int .i64 t130, .int .i64 t131] 35 (0, 0)) (by (with_reducible repeat (first | refine blk_drewN ?_ _ | refine blk_drew ?_ | refine blk_alloc ?_ _)); exact BK133.out)) : gb137 ≠ gb133)); clear HO_117000; clear HO_118000; clear BK107; clear BK116; clear BK117; clear BK121; clear BK127; clear BK133; clear HB; have HO_117000 := n0_; have HO_118000 := n1_; have BK107 := n2_; have BK116 := n3_; have BK117 := n4_; have BK121 := n5_; have BK127 := n6_; have BK133 := n7_; have HB := n8_; have BK137 := n9_; have GW137 := n10_; have GE137 := n11_; have NB107_137 := n12_; have NB137_107 := n13_; have NB116_137 := n14_; have NB137_116 := n15_; have NB117_137 := n16_; have NB137_117 := n17_; have NB121_137 := n18_; have NB137_121 := n19_; have NB127_137 := n20_; have NB137_127 := n21_; have NB133_137 := n22_; have NB137_133 := n23_; clear n0_ n1_ n2_ n3_ n4_ n5_ n6_ n7_ n8_ n9_ n10_ n11_ n12_ n13_ n14_ n15_ n16_ n17_ n18_ n19_ n20_ n21_ n22_ n23_; clear hb hbox hg; have hnb112 := NB137_107.out; have hnc112 := NB107_137.out; have hnb113 := NB137_116.out; have hnc113 := NB116_137.out; have hnb114 := NB137_117.out; have hnc114 := NB117_137.out; have hnb115 := NB137_121.out; have hnc115 := NB121_137.out; have hnb116 := NB137_127.out; have hnc116 := NB127_137.out; have hnb117 := NB137_133.out; have hnc117 := NB133_137.out; have hcz118_0 : w111.cell? ⟨gb137, 0, none⟩ = some (.int .i64 0) := (blk_cell BK137.out 0).trans rfl; have hcz118_1 : w111.cell? ⟨gb137, 1, none⟩ = some (.int .i64 0) := (blk_cell BK137.out 1).trans rfl; have hfz118_0 := blk_frozen BK137.out 0; have hfz118_1 := blk_frozen BK137.out 1; have hcz119_0 : w111.cell? ⟨gb107, 0, none⟩ = some (.int .i64 t105) := (blk_cell BK107.out 0).trans rfl; have hcz119_1 : w111.cell? ⟨gb107, 1, none⟩ = some (.int .i64 t106) := (blk_cell BK107.out 1).trans rfl; have hfz119_0 := blk_frozen BK107.out 0; have hfz119_1 := blk_frozen BK107.out 1))
           go_ret
           exact ⟨by first | rfl | (simp [errW_none, errW_some] <;> rfl) | (simp [*, errW_none, errW_some] <;> rfl), by repeat (first | (with_reducible first | exact HB.out | apply below_alloc | apply pw_below_drewN | apply below_drew1 | refine below_set ?_ GE107.out | refine below_set ?_ GE116.out | refine below_set ?_ GE117.out | refine below_set ?_ GE121.out | refine below_set ?_ GE127.out | refine below_set ?_ GE133.out | refine below_set ?_ GE137.out) | exact HB.out)⟩
          ·rw [if_neg c73] at H
           have c73b0 : (t134 == t105 && (t135 == t106)) = false := by simpa using c73
           (try (have c73b1 : decide (t134 = t105 && (t135 == t106)) = false := by simpa using c73))
           (try (have c73b2 : (t134 == t105 && (t135 == t106)) = false := by simpa using c73))
           (try (have c73b3 : ¬ (t134 = t105 && (t135 == t106)) := by simpa using c73))
           clear c73
           exact absurd ((Option.some.inj H).trans HT.out) (by decide)
         ·rw [if_neg c72] at H
          have c72b0 : (t136 == 0) = false := beq_eq_false_iff_ne.mpr c72
          have c72b1 : (t136 != 0) = true := bne_iff_ne.mpr c72
          exact absurd ((Option.some.inj H).trans HT.out) (by decide)
        ·rw [if_neg c71] at H
         have c71b0 : (t132 == 0) = false := beq_eq_false_iff_ne.mpr c71
         have c71b1 : (t132 != 0) = true := bne_iff_ne.mpr c71
         exact absurd ((Option.some.inj H).trans HT.out) (by decide)
       ·rw [if_neg c70] at H
        have c70b0 : (t126 == 0) = false := beq_eq_false_iff_ne.mpr c70
        have c70b1 : (t126 != 0) = true := bne_iff_ne.mpr c70
        exact absurd ((Option.some.inj H).trans HT.out) (by decide)
      ·rw [if_neg c69] at H
       have c69b0 : (t120 == 0) = false := beq_eq_false_iff_ne.mpr c69
       have c69b1 : (t120 != 0) = true := bne_iff_ne.mpr c69
       exact absurd ((Option.some.inj H).trans HT.out) (by decide)
 ·replace c4 := Bool.eq_false_iff.mpr c4
  subst c4
  have H1 : (some false) = some r := by rw [if_neg (show ¬ (false = true) by decide)] at H; exact H
  clear H
  have H := H1
  clear H1
  exact absurd ((Option.some.inj H).trans HT.out) (by decide)
/-- THE ONE PURE STATEMENT of parolelaw37_OddsFair. -/
def parolelaw37_OddsFair.Pure : Prop := ∀ (l0 : List (S96)) (a1 : Int), (l0.length ≤ maxLen ∧ ∀ x138 ∈ l0, ((Lit.int .u8 x138.f0).wf = true ∧ (Lit.int .u8 x138.f1).wf = true ∧ (Lit.int .u16 x138.f2).wf = true ∧ (Lit.int .u16 x138.f3).wf = true)) → (Lit.int .u8 a1).wf = true → ∃ k, parolelaw37_OddsFair.f k l0 a1 = some true
end Go.Proofs.Ytohnkcmbogcfhaa.P

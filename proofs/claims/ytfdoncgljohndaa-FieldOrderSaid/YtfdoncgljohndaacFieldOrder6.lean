/- FieldOrder: reports in another order, repeated, or together with those of other promises, say the same; no evidence has fewer looks than broken promises, or more than executions: for all reports. The plain law. -/
import Derived.Test.YtfdoncgljohndaacFieldOrder5
import Derived.Deep.Slices
import Derived.WideShapes
import Derived.OpenShut
import Derived.ShutString
import Derived.ChangeOld
import Derived.SizedLaws
import Derived.Deep.OwnRows
import Derived.Laws.Rows
import Derived.Test.YtfdoncgljohndaaRows
set_option linter.unusedVariables false
set_option linter.unusedSimpArgs false
namespace Go.Proofs.Ytfdoncgljohndaa.P
open Go.Proofs.YtfdoncgljohndaaH Go.RowKit Go.Proofs.YtfdoncgljohndaaW.PrintWords Go.Proofs.YtfdoncgljohndaaW.PrintLast Go.Proofs.YtfdoncgljohndaaW.PrintMore
attribute [local go_sem] max2_int min2_int max_two min_two max_three min_three max_four min_four   -- for this text's walks alone
attribute [local go_sem] Go.Proofs.YtfdoncgljohndaaH.cell_set_map
attribute [local go_sem high] eqA40
def parolelaw32_FieldOrder.l0 : Nat → Int → Bool → List Int → List (S28) → Int → List (S28) → List (S28) → Int → Int → Int → Int → Int → Int → Int → Option (Bool)
 | 0, _, _, _, _, _, _, _, _, _, _, _, _, _, _ => none
 | k + 1, x1, x5, x6, x7, x8, x10, x11, x12, x117000, x117001, x117002, x117003, x117004, x117005 => if x12 < (x7.length : Int) then (if (x7.length : Int) = 0 then (none) else (if 0 ≤ (Int.tmod (wrap64 (x12 + (wrap64 (x1)))) (x7.length : Int)) then (if (Int.tmod (wrap64 (x12 + (wrap64 (x1)))) (x7.length : Int)) < (x7.length : Int) then (if 0 ≤ x12 then ((some (([(⟨(rd_T28 x7 (Int.tmod (wrap64 (x12 + (wrap64 (x1)))) (x7.length : Int))).f0, (rd_T28 x7 (Int.tmod (wrap64 (x12 + (wrap64 (x1)))) (x7.length : Int))).f1, (rd_T28 x7 (Int.tmod (wrap64 (x12 + (wrap64 (x1)))) (x7.length : Int))).f2, (rd_T28 x7 (Int.tmod (wrap64 (x12 + (wrap64 (x1)))) (x7.length : Int))).f3, (rd_T28 x7 (Int.tmod (wrap64 (x12 + (wrap64 (x1)))) (x7.length : Int))).f4, (rd_T28 x7 (Int.tmod (wrap64 (x12 + (wrap64 (x1)))) (x7.length : Int))).f5, (rd_T28 x7 (Int.tmod (wrap64 (x12 + (wrap64 (x1)))) (x7.length : Int))).f6⟩ : S28), (⟨(rd_T28 x7 x12).f0, (rd_T28 x7 x12).f1, (rd_T28 x7 x12).f2, (rd_T28 x7 x12).f3, (rd_T28 x7 x12).f4, (rd_T28 x7 x12).f5, (rd_T28 x7 x12).f6⟩ : S28)] : List (S28)) : List (S28))).bind fun y125 => (if y125.length + x10.length < 2513169434916 then ((some (y125 ++ x10 : List (S28))).bind fun y128 => (if ((rd_T28 x7 x12).f2) = x8 then (if x11.length < 2513169434916 then (parolelaw32_FieldOrder.l0 k x1 x5 x6 x7 x8 y128 (x11 ++ [(⟨(rd_T28 x7 x12).f0, (rd_T28 x7 x12).f1, (rd_T28 x7 x12).f2, (rd_T28 x7 x12).f3, (rd_T28 x7 x12).f4, (rd_T28 x7 x12).f5, (rd_T28 x7 x12).f6⟩ : S28)]) (wrap64 (x12 + 1)) x117000 x117001 x117002 x117003 x117004 x117005) else (none)) else (parolelaw32_FieldOrder.l0 k x1 x5 x6 x7 x8 y128 x11 (wrap64 (x12 + 1)) x117000 x117001 x117002 x117003 x117004 x117005))) else (none))) else (none)) else (none)) else (none))) else (if x5 = true then ((field_Gather.f k x6 x10 x8).bind fun bt136 => (if (bt136.1 == x117000 && (bt136.2.1 == x117001 && (bt136.2.2.1 == x117002 && (bt136.2.2.2.1 == x117003 && (bt136.2.2.2.2.1 == x117004 && (bt136.2.2.2.2.2 == x117005)))))) = true then ((field_Gather.f k x6 x11 x8).bind fun bt142 => (if (bt142.1 == x117000 && (bt142.2.1 == x117001 && (bt142.2.2.1 == x117002 && (bt142.2.2.2.1 == x117003 && (bt142.2.2.2.2.1 == x117004 && (bt142.2.2.2.2.2 == x117005)))))) = true then (if x117000 = x8 then (if x117004 ≥ 0 then (if x117004 ≤ x117003 then (if x117003 ≤ x117002 then (if x117005 ≥ 0 then (some (decide (x117001 ≤ (x6.length : Int)))) else (some false)) else (some false)) else (some false)) else (some false)) else (some false)) else (some false))) else (some false))) else (some false))
def parolelaw32_FieldOrder.f (k : Nat) (a0_0 : Int) (l0_1 : List (S58)) (a0_2 : Int) (a1 : Int) : Option (Bool) := (parolelaw32_examples.f).bind fun t102 => (if t102 = true then ((parolelaw32_made.f k a0_0 l0_1 a0_2).bind fun bt103 => ((field_Gather.f k bt103.1 bt103.2.1 bt103.2.2).bind fun bt110 => (parolelaw32_FieldOrder.l0 k a1 t102 bt103.1 bt103.2.1 bt103.2.2 (([] : List (S28))) (([] : List (S28))) 0 bt110.1 bt110.2.1 bt110.2.2.1 bt110.2.2.2.1 bt110.2.2.2.2.1 bt110.2.2.2.2.2))) else (some false))
def parolelaw32_FieldOrder.T12 : Bool × List (List Nat × List Nat) := (true, [([], []), ([], []), ([0, 1], [0, 1]), ([2], [2]), ([], []), ([], []), ([4, 5], [4, 5]), ([6], [6]), ([3, 7], [3, 7]), ([], []), ([8, 9], [8, 9]), ([10, 10, 0, 1, 2, 3, 4, 5, 6, 7, 8, 9, 10], [9, 10])])
def parolelaw32_FieldOrder.B12 : List Nat := [0, 0, 3, 7, 0, 0, 48, 112, 255, 0, 1023, 2047]
theorem parolelaw32_FieldOrder.tab12 : rtab .any (opsOf Try.f4 12) = parolelaw32_FieldOrder.T12 := by kernel_rfl
theorem parolelaw32_FieldOrder.bits12 : waitsOk parolelaw32_FieldOrder.T12.2 parolelaw32_FieldOrder.B12 = true := by kernel_rfl
def parolelaw32_FieldOrder.T15 : Bool × List (List Nat × List Nat) := (true, [([], []), ([0], [0]), ([1], [1]), ([1], [1]), ([1], [1]), ([2, 3, 4, 1, 1], [1, 2, 3, 4]), ([1], [1]), ([5, 6, 1], [1, 5, 6]), ([1, 7], [1, 7]), ([8, 5], [8]), ([9], [9]), ([9], [9]), ([9], [9]), ([10, 11, 12, 9, 9], [9, 10, 11, 12]), ([9], [9]), ([13, 14, 9], [9, 13, 14]), ([9, 15], [9, 15]), ([16, 13], [16]), ([17], [17]), ([18, 17], [17, 18]), ([17], [17]), ([19, 20, 17], [17, 19, 20]), ([17, 21], [17, 21]), ([22, 17], [22]), ([23], [23]), ([24, 23], [23, 24]), ([25, 23], [23, 25]), ([23, 26], [23, 26]), ([27, 23], [27]), ([28], [28]), ([29, 28], [28, 29]), ([28], [28]), ([31, 28], [28, 31]), ([30, 32, 28], [28, 30, 32]), ([28, 33], [28, 33]), ([34, 28], [34]), ([35], [35]), ([36, 35], [35, 36]), ([35], [35]), ([38, 35], [35, 38]), ([37, 39, 35], [35, 37, 39]), ([35, 40], [35, 40]), ([41, 35], [41]), ([42], [42]), ([43, 42], [42, 43]), ([44, 42], [42, 44]), ([42, 45], [42, 45]), ([46, 42], [46]), ([47], [47]), ([48, 47], [47, 48]), ([47], [47]), ([50, 47], [47, 50]), ([49, 51, 47], [47, 49, 51]), ([47, 52], [47, 52]), ([53, 47, 0, 1, 2, 3, 4, 5, 6, 7, 8, 9, 10, 11, 12, 13, 14, 15, 16, 17, 18, 19, 20, 21, 22, 23, 24, 25, 26, 27, 28, 29, 30, 31, 32, 33, 34, 35, 36, 37, 38, 39, 40, 41, 42, 43, 44, 45, 46, 47, 48, 49, 50, 51, 52, 53], [53])])
def parolelaw32_FieldOrder.B15 : List Nat := [0, 1, 3, 3, 3, 31, 3, 127, 255, 511, 1023, 1023, 1023, 8191, 1023, 32767, 65535, 131071, 262143, 524287, 262143, 2097151, 4194303, 8388607, 16777215, 33554431, 67108863, 134217727, 268435455, 536870911, 1073741823, 536870911, 2684354559, 8589934591, 17179869183, 34359738367, 68719476735, 137438953471, 68719476735, 343597383679, 1099511627775, 2199023255551, 4398046511103, 8796093022207, 17592186044415, 35184372088831, 70368744177663, 140737488355327, 281474976710655, 562949953421311, 281474976710655, 1407374883553279, 4503599627370495, 9007199254740991, 18014398509481983]
theorem parolelaw32_FieldOrder.tab15 : rtab .any (opsOf Try.f4 15) = parolelaw32_FieldOrder.T15 := by kernel_rfl
theorem parolelaw32_FieldOrder.bits15 : waitsOk parolelaw32_FieldOrder.T15.2 parolelaw32_FieldOrder.B15 = true := by kernel_rfl
set_option maxHeartbeats 40000000 in
set_option maxRecDepth 100000 in
theorem parolelaw32_FieldOrder.calls (k : Nat) (a0_0 : Int) (A0_1 : Option Addr) (c0_1 : Nat) (l0_1 : List (S58)) (a0_2 : Int) (a1 : Int) (r : Bool) (w : World) (hr0_1 : Kd.C k58 w A0_1 l0_1.length l0_1) (hc0_1 : l0_1.length ≤ c0_1) (hT : r = true) (h : parolelaw32_FieldOrder.f k a0_0 l0_1 a0_2 a1 = some r) :
  Calls Try.prog 4 #[.agg #[.int .u8 a0_0, .slice A0_1 l0_1.length c0_1, .int .u8 a0_2], .int .u8 a1] w fun e w' => e = .returned (.bool r) ∧ Below w.heap.size w w' := by
 have hu24 := Try.underlying24; have hu40 := Try.underlying40; have hu28 := Try.underlying28; have HR0_1 := aM hr0_1; have HC0_1 := aM hc0_1; clear hr0_1 hc0_1; have HB := aM (Below.refl w.heap.size w); have HT := aM hT; clear hT
 have H : ((parolelaw32_examples.f).bind fun t102 => (if t102 = true then ((parolelaw32_made.f k a0_0 l0_1 a0_2).bind fun bt103 => ((field_Gather.f k bt103.1 bt103.2.1 bt103.2.2).bind fun bt110 => (parolelaw32_FieldOrder.l0 k a1 t102 bt103.1 bt103.2.1 bt103.2.2 (([] : List (S28))) (([] : List (S28))) 0 bt110.1 bt110.2.1 bt110.2.2.1 bt110.2.2.2.1 bt110.2.2.2.2.1 bt110.2.2.2.2.2))) else (some false))) = some r := h
 clear h; replace H := Option.bind_eq_some_iff.mp H
 obtain ⟨t102, A30, H⟩ := H
 replace H : (if t102 = true then ((parolelaw32_made.f k a0_0 l0_1 a0_2).bind fun bt103 => ((field_Gather.f k bt103.1 bt103.2.1 bt103.2.2).bind fun bt110 => (parolelaw32_FieldOrder.l0 k a1 t102 bt103.1 bt103.2.1 bt103.2.2 (([] : List (S28))) (([] : List (S28))) 0 bt110.1 bt110.2.1 bt110.2.2.1 bt110.2.2.2.1 bt110.2.2.2.2.1 bt110.2.2.2.2.2))) else (some false)) = some r := H
 have A3 := aM A30; clear A30
 by_cases c4 : t102 = true
 rotate_left
 ·replace c4 := Bool.eq_false_iff.mpr c4
  subst c4
  have H1 : (some false) = some r := by rw [if_neg (show ¬ (false = true) by decide)] at H; exact H
  clear H; have H := H1; clear H1
  exact absurd ((Option.some.inj H).trans HT.out) (by decide)
 subst c4
 have H1 : ((parolelaw32_made.f k a0_0 l0_1 a0_2).bind fun bt103 => ((field_Gather.f k bt103.1 bt103.2.1 bt103.2.2).bind fun bt110 => (parolelaw32_FieldOrder.l0 k a1 true bt103.1 bt103.2.1 bt103.2.2 (([] : List (S28))) (([] : List (S28))) 0 bt110.1 bt110.2.1 bt110.2.2.1 bt110.2.2.2.1 bt110.2.2.2.2.1 bt110.2.2.2.2.2))) = some r := by first | (rw [if_pos rfl] at H; exact H) | (rw [if_pos trivial] at H; exact H)
 clear H; have H := H1; clear H1; replace H := Option.bind_eq_some_iff.mp H
 obtain ⟨⟨t103, t106, t109⟩, A50, H⟩ := H
 replace H : ((field_Gather.f k t103 t106 t109).bind fun bt110 => (parolelaw32_FieldOrder.l0 k a1 true t103 t106 t109 (([] : List (S28))) (([] : List (S28))) 0 bt110.1 bt110.2.1 bt110.2.2.1 bt110.2.2.2.1 bt110.2.2.2.2.1 bt110.2.2.2.2.2)) = some r := H
 have A5 := aM A50; clear A50; replace H := Option.bind_eq_some_iff.mp H
 obtain ⟨⟨t110, t111, t112, t113, t114, t115⟩, A60, H⟩ := H
 replace H : (parolelaw32_FieldOrder.l0 k a1 true t103 t106 t109 (([] : List (S28))) (([] : List (S28))) 0 t110 t111 t112 t113 t114 t115) = some r := H
 have A6 := aM A60; clear A60
 obtain ⟨y117, hy117⟩ : ∃ y_ : List (S28), y_ = (([] : List (S28))) := ⟨_, rfl⟩
 replace H : (parolelaw32_FieldOrder.l0 k a1 true t103 t106 t109 y117 (([] : List (S28))) 0 t110 t111 t112 t113 t114 t115) = some r := by first | (rw [hy117]; with_reducible exact H) | (have H2_ := (Option.bind_some _ _).symm.trans H; rw [hy117]; with_reducible exact H2_) | (have H2_ := (Option.bind_some _ _).symm.trans H; with_reducible exact H2_) | with_reducible exact H | (rw [hy117]; exact H) | exact H
 have Ny117 := aM hy117; clear hy117
 obtain ⟨y120, hy120⟩ : ∃ y_ : List (S28), y_ = (([] : List (S28))) := ⟨_, rfl⟩
 replace H : (parolelaw32_FieldOrder.l0 k a1 true t103 t106 t109 y117 y120 0 t110 t111 t112 t113 t114 t115) = some r := by first | (rw [hy120]; with_reducible exact H) | (have H2_ := (Option.bind_some _ _).symm.trans H; rw [hy120]; with_reducible exact H2_) | (have H2_ := (Option.bind_some _ _).symm.trans H; with_reducible exact H2_) | with_reducible exact H | (rw [hy120]; exact H) | exact H
 have Ny120 := aM hy120; clear hy120; have H' := aM H; clear H
 go_enter Try.func4, Try.ntmps4
 go_wp2_with (first | ((with_reducible refine gate_dst (N := 2) rfl ?_); (try (refine gate_guard (by rfl) ?_; dsimp only)); refine bE (N := 2) (cs := #[.int .u8 a0_0, .slice A0_1 l0_1.length c0_1, .int .u8 a0_2]) (t := 24) ?_; intro gb101 hg w7 hbox hb; have BK101 := aM (hbox); have GW101 := gE hg HB; have GE101 := gE hg HB; replace HB := sB HB hb; clear hb hbox hg) | ((with_reducible refine gate_callee (f := 10) rfl ?_); refine gL (some 14) Try.func10 #[] ?_; (with_reducible refine (parolelaw32_examples.calls  true _ A3.out).mono ?_); rintro e w8 ⟨rfl, hb⟩; refine ⟨_, rfl, ?_⟩; replace BK101 := bB BK101 hb; replace HB := sB HB hb; (try clear hb); obtain ⟨hcz9_0, hcz9_1, hcz9_2, hfz9_0, hfz9_1, hfz9_2⟩ := cZ3 BK101) | ((with_reducible refine gate_callee (f := 11) rfl ?_); refine gL (some 19) Try.func11 #[.agg #[.int .u8 a0_0, .slice A0_1 l0_1.length c0_1, .int .u8 a0_2]] ?_; (with_reducible refine (parolelaw32_made.calls k a0_0 _ _ l0_1 a0_2 t103 t106 t109 _ ?side1 ?side2 A5.out).mono ?_); (case side1 => exact cC HR0_1 HB); (case side2 => exact HC0_1.out); rintro e w10 ⟨v104, v107, rfl, ho0, ho1, hb⟩; refine ⟨_, rfl, ?_⟩; have HO105 := rL (n := 0) ho0 HB; have HO108 := rL (n := 0) ho1 HB; replace BK101 := bB BK101 hb; replace HB := sB HB hb; (try clear hb); (try clear ho0); (try clear ho1); obtain ⟨Ao11, co11, eo11⟩ := Kd.R_slice HO105.out; subst eo11; obtain ⟨Ao12, co12, eo12⟩ := Kd.R_slice HO108.out; subst eo12) | ((with_reducible refine gate_callee (f := 19) rfl ?_); refine gL (some 26) Try.func19 #[.slice Ao11 t103.length co11, .slice Ao12 t106.length co12, .int .i64 t109] ?_; (with_reducible refine (field_Gather.calls k _ _ t103 _ _ t106 t109 t110 t111 t112 t113 t114 t115 _ ?side1 ?side2 ?side3 ?side4 A6.out).mono ?_); (case side1 => exact rC HO105); (case side2 => exact rN HO105); (case side3 => exact rC HO108); (case side4 => exact rN HO108); rintro e w13 ⟨rfl, hb⟩; refine ⟨_, rfl, ?_⟩; replace HO105 := rB HO105 hb; replace HO108 := rB HO108 hb; replace BK101 := bB BK101 hb; replace HB := sB HB hb; (try clear hb)) | ((with_reducible refine gate_dst (N := 9) rfl ?_); (try (refine gate_guard (by rfl) ?_; dsimp only)); refine bE (N := 9) (cs := #[.int .i64 0, .int .i64 0, .int .i64 0, .int .i64 0, .int .i64 0, .int .i64 0]) (t := 40) ?_; intro gb116 hg w14 hbox hb; have BK116 := aM (hbox); have GW116 := gE hg HB; have GE116 := gE hg HB; have NB101_116 := nL hg BK101; replace HO105 := rB HO105 hb; replace HO108 := rB HO108 hb; replace BK101 := bB BK101 hb; replace HB := sB HB hb; clear hb hbox hg; have hnb15 := NB101_116.out.symm; have hnc15 := NB101_116.out; obtain ⟨hcz16_0, hcz16_1, hcz16_2, hcz16_3, hcz16_4, hcz16_5, hfz16_0, hfz16_1, hfz16_2, hfz16_3, hfz16_4, hfz16_5⟩ := cZ6 BK116) | ((with_reducible refine gate_dst (N := 27) rfl ?_); (try (refine gate_guard (by rfl) ?_; dsimp only)); refine Kd.R_lit k28 _ 28 ?hg (N := 27) ?hd (xs := ([] : List (S28))) (inner := []) (ok := fun _ => True) (okp := fun _ => True) ?hr ?hp (fun _ hk => hk) trivial (Below.refl _ _) (Nat.le_refl _) (by simp) ?_; (case hd => rfl); (case hg => rfl); (case hr => first | (go_simp; done) | (go_simp; rfl)); (case hp => exact (Reps.none _ _)); intro v118 w17 ho18 hb hg_ hnew_; clear hg_ hnew_; (first | rw [← Ny117.out] at ho18 | (simp only [Int.reduceToNat] at ho18; rw [← Ny117.out] at ho18)); have HO119 := aM (Kd.R_lower (Kd.R_new' ho18 (Kd.R_lt (rD ⟨(Kd.R_mono (Kd.R_far (p := ⟨gb116, 5, none⟩) (Kd.R_far (p := ⟨gb116, 4, none⟩) (Kd.R_far (p := ⟨gb116, 3, none⟩) (Kd.R_far (p := ⟨gb116, 2, none⟩) (Kd.R_far (p := ⟨gb116, 1, none⟩) (Kd.R_far (p := ⟨gb116, 0, none⟩) (Kd.R_types HO108.out BK116.out (by decide)) (fun _ hk => hk.2) (.int .i64 t110)) (fun _ hk => hk.2) (.int .i64 t111)) (fun _ hk => hk.2) (.int .i64 t112)) (fun _ hk => hk.2) (.int .i64 t113)) (fun _ hk => hk.2) (.int .i64 t114)) (fun _ hk => hk.2) (.int .i64 t115)) (fun _ h_ => h_.1))⟩))) (below_size (sD HB))); replace HO105 := aM (Kd.R_below (rD ⟨(Kd.R_mono (Kd.R_far (p := ⟨gb116, 5, none⟩) (Kd.R_far (p := ⟨gb116, 4, none⟩) (Kd.R_far (p := ⟨gb116, 3, none⟩) (Kd.R_far (p := ⟨gb116, 2, none⟩) (Kd.R_far (p := ⟨gb116, 1, none⟩) (Kd.R_far (p := ⟨gb116, 0, none⟩) (Kd.R_types HO105.out BK116.out (by decide)) (fun _ hk => hk.2) (.int .i64 t110)) (fun _ hk => hk.2) (.int .i64 t111)) (fun _ hk => hk.2) (.int .i64 t112)) (fun _ hk => hk.2) (.int .i64 t113)) (fun _ hk => hk.2) (.int .i64 t114)) (fun _ hk => hk.2) (.int .i64 t115)) (fun _ h_ => h_.1))⟩) hb); replace HO108 := aM (Kd.R_elder' (rD ⟨(Kd.R_mono (Kd.R_far (p := ⟨gb116, 5, none⟩) (Kd.R_far (p := ⟨gb116, 4, none⟩) (Kd.R_far (p := ⟨gb116, 3, none⟩) (Kd.R_far (p := ⟨gb116, 2, none⟩) (Kd.R_far (p := ⟨gb116, 1, none⟩) (Kd.R_far (p := ⟨gb116, 0, none⟩) (Kd.R_types HO108.out BK116.out (by decide)) (fun _ hk => hk.2) (.int .i64 t110)) (fun _ hk => hk.2) (.int .i64 t111)) (fun _ hk => hk.2) (.int .i64 t112)) (fun _ hk => hk.2) (.int .i64 t113)) (fun _ hk => hk.2) (.int .i64 t114)) (fun _ hk => hk.2) (.int .i64 t115)) (fun _ h_ => h_.1))⟩) (Kd.R_base ho18) hb); replace BK101 := aM (blk_below (g := gb101) (o := .cells #[.int .u8 a0_0, .slice A0_1 l0_1.length c0_1, .int .u8 a0_2] 24 (0, 0)) (bF BK101) hb); replace HB := sB HB hb; replace BK116 := aM (blk_below (g := gb116) (o := .cells #[.int .i64 t110, .int .i64 t111, .int .i64 t112, .int .i64 t113, .int .i64 t114, .int .i64 t115] 40 (0, 0)) (by refine bM ?_; refine blk_put (cs := #[.int .i64 t110, .int .i64 t111, .int .i64 t112, .int .i64 t113, .int .i64 t114, .int .i64 0]) ?_ 5 _ rfl; refine bM ?_; refine blk_put (cs := #[.int .i64 t110, .int .i64 t111, .int .i64 t112, .int .i64 t113, .int .i64 0, .int .i64 0]) ?_ 4 _ rfl; refine bM ?_; refine blk_put (cs := #[.int .i64 t110, .int .i64 t111, .int .i64 t112, .int .i64 0, .int .i64 0, .int .i64 0]) ?_ 3 _ rfl; refine bM ?_; refine blk_put (cs := #[.int .i64 t110, .int .i64 t111, .int .i64 0, .int .i64 0, .int .i64 0, .int .i64 0]) ?_ 2 _ rfl; refine bM ?_; refine blk_put (cs := #[.int .i64 t110, .int .i64 0, .int .i64 0, .int .i64 0, .int .i64 0, .int .i64 0]) ?_ 1 _ rfl; refine bM ?_; refine blk_put (cs := #[.int .i64 0, .int .i64 0, .int .i64 0, .int .i64 0, .int .i64 0, .int .i64 0]) ?_ 0 _ rfl; exact bD BK116) hb); clear hb ho18) | ((with_reducible refine gate_dst (N := 28) rfl ?_); (try (refine gate_guard (by rfl) ?_; dsimp only)); refine Kd.R_lit k28 _ 28 ?hg (N := 28) ?hd (xs := ([] : List (S28))) (inner := []) (ok := fun _ => True) (okp := fun _ => True) ?hr ?hp (fun _ hk => hk) trivial (Below.refl _ _) (Nat.le_refl _) (by simp) ?_; (case hd => rfl); (case hg => rfl); (case hr => first | (go_simp; done) | (go_simp; rfl)); (case hp => exact (Reps.none _ _)); intro v121 w19 ho20 hb hg_ hnew_; clear hg_ hnew_; (first | rw [← Ny120.out] at ho20 | (simp only [Int.reduceToNat] at ho20; rw [← Ny120.out] at ho20)); have HO122 := aM (Kd.R_lower (Kd.R_new' (Kd.R_new' ho20 (Kd.R_lt (rD HO108))) (Kd.R_lt (rD HO119))) (below_size (sD HB))); replace HO105 := rB HO105 hb; replace HO108 := aM (Kd.R_elder' (rD HO108) (Kd.R_base ho20) hb); replace HO119 := aM (Kd.R_elder' (rD HO119) (Kd.R_base ho20) hb); replace BK101 := bB BK101 hb; replace BK116 := bB BK116 hb; replace HB := sB HB hb; clear hb ho20))
 go_loopg [10, 11, 12] k (fun kq v10 v11 v12 w' => ∃ (x10_1 : List (S28)) (x11_1 : List (S28)) (x12_1 : Int), v12 = .int .i64 x12_1 ∧ Aside0 (parolelaw32_FieldOrder.l0 kq a1 true t103 t106 t109 x10_1 x11_1 x12_1 t110 t111 t112 t113 t114 t115 = some r) ∧ Aside0 (kq ≤ k) ∧ Aside0 (Kd.R (Kd.int .u64) 26 w' w.heap.size (fun _ => True) (.slice Ao11 t103.length co11) t103) ∧ Aside0 (Kd.R k28 28 w' w.heap.size (fun k_ => some k_ ≠ (v10 : Value).ownBlock ∧ some k_ ≠ (v11 : Value).ownBlock) (.slice Ao12 t106.length co12) t106) ∧ Aside0 (Kd.R k28 28 w' w.heap.size (fun k_ => some k_ ≠ ((.slice Ao12 t106.length co12) : Value).ownBlock ∧ some k_ ≠ (v11 : Value).ownBlock) v10 x10_1) ∧ Aside0 (Kd.R k28 28 w' w.heap.size (fun k_ => some k_ ≠ ((.slice Ao12 t106.length co12) : Value).ownBlock ∧ some k_ ≠ (v10 : Value).ownBlock) v11 x11_1) ∧ Aside0 (w'.heap[gb101]? = some (.cells #[.int .u8 a0_0, (.slice A0_1 l0_1.length c0_1), .int .u8 a0_2] 24 (0, 0))) ∧ Aside0 (w'.heap[gb116]? = some (.cells #[.int .i64 t110, .int .i64 t111, .int .i64 t112, .int .i64 t113, .int .i64 t114, .int .i64 t115] 40 (0, 0))) ∧ Aside0 (Below w.heap.size w w'))
 case atStart => exact ⟨(y117), (y120), (0), (by first | rfl | (simp; done) | (simp [*]; done)), H', ⟨Nat.le_refl _⟩, ⟨by (with_reducible repeat (first | apply Kd.R_alloc | apply Kd.R_drewN | apply Kd.R_drew)); exact HO105.out⟩, ⟨by (with_reducible repeat (first | apply Kd.R_alloc | apply Kd.R_drewN | apply Kd.R_drew)); exact Kd.R_mono HO108.out (fun _ hk => ⟨hk.1.2, hk.2⟩)⟩, ⟨by (with_reducible repeat (first | apply Kd.R_alloc | apply Kd.R_drewN | apply Kd.R_drew)); exact Kd.R_mono HO119.out (fun _ hk => ⟨hk.1.2, hk.2⟩)⟩, ⟨by (with_reducible repeat (first | apply Kd.R_alloc | apply Kd.R_drewN | apply Kd.R_drew)); exact Kd.R_mono HO122.out (fun _ hk => ⟨hk.1.2, hk.2⟩)⟩, ⟨by exact bD BK101⟩, ⟨by exact bD BK116⟩, ⟨sD HB⟩⟩
 case round =>
  clear H'
  try clear c1
  try clear p2
  try clear c4
  try clear c10
  try clear c11
  try clear c15
  try clear c19
  try clear hcz16_0
  try clear hcz16_1
  try clear hcz16_2
  try clear hcz16_3
  try clear hcz16_4
  try clear hcz16_5
  try clear hcz9_0
  try clear hcz9_1
  try clear hcz9_2
  try clear hfz16_0
  try clear hfz16_1
  try clear hfz16_2
  try clear hfz16_3
  try clear hfz16_4
  try clear hfz16_5
  try clear hfz9_0
  try clear hfz9_1
  try clear hfz9_2
  obtain ⟨x10_1, x11_1, x12_1, rfl, HA, HK1, HO_6, HO_7, HO_10, HO_11, BK101, BK116, HB⟩ := hrel
  cases gk with
  | zero => exact absurd HA.out (by simp [parolelaw32_FieldOrder.l0])
  | succ k1 =>
   have H := HA.out; clear HA
   simp only [parolelaw32_FieldOrder.l0] at H
   by_cases c21 : x12_1 < (t106.length : Int)
   ·rw [if_pos c21] at H
    have c21b0 : decide (x12_1 < (t106.length : Int)) = true := decide_eq_true c21
    clear c21
    by_cases c22 : (t106.length : Int) = 0
    ·rw [if_pos c22] at H
     exact absurd H (by simp)
    ·rw [if_neg c22] at H
     have c22b0 : ((t106.length : Int) == 0) = false := beq_eq_false_iff_ne.mpr c22
     have c22b1 : ((t106.length : Int) != 0) = true := bne_iff_ne.mpr c22
     have c22b2 : ¬ (t106 = []) := fun h_ => c22 (by rw [h_]; rfl)
     obtain ⟨ji23, hji23⟩ : ∃ j_ : Int, (Int.tmod (wrap64 (x12_1 + (wrap64 (a1)))) (t106.length : Int)) = j_ := ⟨_, rfl⟩
     replace H : (if 0 ≤ (ji23) then (if (ji23) < (t106.length : Int) then (if 0 ≤ x12_1 then ((some (([(⟨(rd_T28 t106 (ji23)).f0, (rd_T28 t106 (ji23)).f1, (rd_T28 t106 (ji23)).f2, (rd_T28 t106 (ji23)).f3, (rd_T28 t106 (ji23)).f4, (rd_T28 t106 (ji23)).f5, (rd_T28 t106 (ji23)).f6⟩ : S28), (⟨(rd_T28 t106 x12_1).f0, (rd_T28 t106 x12_1).f1, (rd_T28 t106 x12_1).f2, (rd_T28 t106 x12_1).f3, (rd_T28 t106 x12_1).f4, (rd_T28 t106 x12_1).f5, (rd_T28 t106 x12_1).f6⟩ : S28)] : List (S28)) : List (S28))).bind fun y125 => (if y125.length + x10_1.length < 2513169434916 then ((some (y125 ++ x10_1 : List (S28))).bind fun y128 => (if ((rd_T28 t106 x12_1).f2) = t109 then (if x11_1.length < 2513169434916 then (parolelaw32_FieldOrder.l0 k1 a1 true t103 t106 t109 y128 (x11_1 ++ [(⟨(rd_T28 t106 x12_1).f0, (rd_T28 t106 x12_1).f1, (rd_T28 t106 x12_1).f2, (rd_T28 t106 x12_1).f3, (rd_T28 t106 x12_1).f4, (rd_T28 t106 x12_1).f5, (rd_T28 t106 x12_1).f6⟩ : S28)]) (wrap64 (x12_1 + 1)) t110 t111 t112 t113 t114 t115) else (none)) else (parolelaw32_FieldOrder.l0 k1 a1 true t103 t106 t109 y128 x11_1 (wrap64 (x12_1 + 1)) t110 t111 t112 t113 t114 t115))) else (none))) else (none)) else (none)) else (none)) = some r := by first | (rw [hji23] at H; exact H) | (simp only [hji23] at H ⊢; exact H)
     by_cases c24 : 0 ≤ (ji23)
     ·rw [if_pos c24] at H
      have c24b0 : decide (0 ≤ (ji23)) = true := decide_eq_true c24
      clear c24
      by_cases c25 : (ji23) < (t106.length : Int)
      ·rw [if_pos c25] at H
       have c25b0 : decide ((ji23) < (t106.length : Int)) = true := decide_eq_true c25
       clear c25
       by_cases c26 : 0 ≤ x12_1
       ·rw [if_pos c26] at H
        have c26b0 : decide (0 ≤ x12_1) = true := decide_eq_true c26
        clear c26
        obtain ⟨y125, hy125⟩ : ∃ y_ : List (S28), y_ = (([(⟨(rd_T28 t106 (ji23)).f0, (rd_T28 t106 (ji23)).f1, (rd_T28 t106 (ji23)).f2, (rd_T28 t106 (ji23)).f3, (rd_T28 t106 (ji23)).f4, (rd_T28 t106 (ji23)).f5, (rd_T28 t106 (ji23)).f6⟩ : S28), (⟨(rd_T28 t106 x12_1).f0, (rd_T28 t106 x12_1).f1, (rd_T28 t106 x12_1).f2, (rd_T28 t106 x12_1).f3, (rd_T28 t106 x12_1).f4, (rd_T28 t106 x12_1).f5, (rd_T28 t106 x12_1).f6⟩ : S28)] : List (S28))) := ⟨_, rfl⟩
        replace H : (if y125.length + x10_1.length < 2513169434916 then ((some (y125 ++ x10_1 : List (S28))).bind fun y128 => (if ((rd_T28 t106 x12_1).f2) = t109 then (if x11_1.length < 2513169434916 then (parolelaw32_FieldOrder.l0 k1 a1 true t103 t106 t109 y128 (x11_1 ++ [(⟨(rd_T28 t106 x12_1).f0, (rd_T28 t106 x12_1).f1, (rd_T28 t106 x12_1).f2, (rd_T28 t106 x12_1).f3, (rd_T28 t106 x12_1).f4, (rd_T28 t106 x12_1).f5, (rd_T28 t106 x12_1).f6⟩ : S28)]) (wrap64 (x12_1 + 1)) t110 t111 t112 t113 t114 t115) else (none)) else (parolelaw32_FieldOrder.l0 k1 a1 true t103 t106 t109 y128 x11_1 (wrap64 (x12_1 + 1)) t110 t111 t112 t113 t114 t115))) else (none)) = some r := by first | (rw [hy125]; with_reducible exact H) | (have H2_ := (Option.bind_some _ _).symm.trans H; rw [hy125]; with_reducible exact H2_) | (have H2_ := (Option.bind_some _ _).symm.trans H; with_reducible exact H2_) | with_reducible exact H | (rw [hy125]; exact H) | exact H
        have Ny125 := aM hy125; clear hy125
        by_cases c27 : y125.length + x10_1.length < 2513169434916
        ·rw [if_pos c27] at H
         have LMc27 := aM c27; clear c27
         obtain ⟨y128, hy128⟩ : ∃ y_ : List (S28), y_ = (y125 ++ x10_1) := ⟨_, rfl⟩
         replace H : (if ((rd_T28 t106 x12_1).f2) = t109 then (if x11_1.length < 2513169434916 then (parolelaw32_FieldOrder.l0 k1 a1 true t103 t106 t109 y128 (x11_1 ++ [(⟨(rd_T28 t106 x12_1).f0, (rd_T28 t106 x12_1).f1, (rd_T28 t106 x12_1).f2, (rd_T28 t106 x12_1).f3, (rd_T28 t106 x12_1).f4, (rd_T28 t106 x12_1).f5, (rd_T28 t106 x12_1).f6⟩ : S28)]) (wrap64 (x12_1 + 1)) t110 t111 t112 t113 t114 t115) else (none)) else (parolelaw32_FieldOrder.l0 k1 a1 true t103 t106 t109 y128 x11_1 (wrap64 (x12_1 + 1)) t110 t111 t112 t113 t114 t115)) = some r := by first | (rw [hy128]; with_reducible exact H) | (have H2_ := (Option.bind_some _ _).symm.trans H; rw [hy128]; with_reducible exact H2_) | (have H2_ := (Option.bind_some _ _).symm.trans H; with_reducible exact H2_) | with_reducible exact H | (rw [hy128]; exact H) | exact H
         have Ny128 := aM hy128; clear hy128
         by_cases c28 : ((rd_T28 t106 x12_1).f2) = t109
         ·rw [if_pos c28] at H
          have c28b0 : (((rd_T28 t106 x12_1).f2) == t109) = true := beq_iff_eq.mpr c28
          have c28b1 : (((rd_T28 t106 x12_1).f2) != t109) = false := bne_eq_false_iff_eq.mpr c28
          clear c28
          by_cases c29 : x11_1.length < 2513169434916
          ·rw [if_pos c29] at H
           have LMc29 := aM c29; clear c29
           obtain ⟨y133, hy133⟩ : ∃ y_ : List (S28), y_ = (x11_1 ++ [(⟨(rd_T28 t106 x12_1).f0, (rd_T28 t106 x12_1).f1, (rd_T28 t106 x12_1).f2, (rd_T28 t106 x12_1).f3, (rd_T28 t106 x12_1).f4, (rd_T28 t106 x12_1).f5, (rd_T28 t106 x12_1).f6⟩ : S28)]) := ⟨_, rfl⟩
           replace H : (parolelaw32_FieldOrder.l0 k1 a1 true t103 t106 t109 y128 y133 (wrap64 (x12_1 + 1)) t110 t111 t112 t113 t114 t115) = some r := by first | (rw [hy133]; with_reducible exact H) | (have H2_ := (Option.bind_some _ _).symm.trans H; rw [hy133]; with_reducible exact H2_) | (have H2_ := (Option.bind_some _ _).symm.trans H; with_reducible exact H2_) | with_reducible exact H | (rw [hy133]; exact H) | exact H
           have Ny133 := aM hy133; clear hy133; have H' := aM H; clear H
           try go_wp2
           replace HO_6 := aM (Kd.R_drew HO_6.out); replace HO_7 := aM (Kd.R_drew HO_7.out); replace HO_10 := aM (Kd.R_drew HO_10.out); replace HO_11 := aM (Kd.R_drew HO_11.out); replace BK101 := aM (blk_drew BK101.out); replace BK116 := aM (blk_drew BK116.out); replace HB := aM (below_drew1 HB.out)
           have p123 : 0 ≤ ((ji23) : Int) := of_decide_eq_true (by first | (with_reducible assumption) | assumption)
           have q123 : (ji23) < (t106.length : Int) := of_decide_eq_true (by first | (with_reducible assumption) | assumption)
           obtain ⟨ad123, e123, hx123_0, hx123_1, hx123_2, hx123_3, hx123_4, hx123_5, hx123_6⟩ := at_T28 (Kd.R_reads' HO_7.out).2.2 (ji23) p123 q123
           cases e123
           replace p123 := eq_true p123; replace q123 := eq_true q123
           have p124 : 0 ≤ (x12_1 : Int) := of_decide_eq_true (by first | (with_reducible assumption) | assumption)
           have q124 : x12_1 < (t106.length : Int) := of_decide_eq_true (by first | (with_reducible assumption) | assumption)
           obtain ⟨ad124, e124, hx124_0, hx124_1, hx124_2, hx124_3, hx124_4, hx124_5, hx124_6⟩ := at_T28 (Kd.R_reads' HO_7.out).2.2 x12_1 p124 q124
           obtain rfl : ad123 = ad124 := (by injection e124)
           replace p124 := eq_true p124; replace q124 := eq_true q124
           refine start_ (n := 12) (S := fun w' => w'.cell? (ad123.add (((ji23)).toNat * 7)) = some (.int .i64 ((rd_T28 t106 (ji23)).f0)) ∧ w'.cell? ⟨(ad123.add (((ji23)).toNat * 7)).block, (ad123.add (((ji23)).toNat * 7)).off + 1, none⟩ = some (.int .i64 ((rd_T28 t106 (ji23)).f1)) ∧ w'.cell? ⟨(ad123.add (((ji23)).toNat * 7)).block, (ad123.add (((ji23)).toNat * 7)).off + 2, none⟩ = some (.int .i64 ((rd_T28 t106 (ji23)).f2)) ∧ w'.cell? ⟨(ad123.add (((ji23)).toNat * 7)).block, (ad123.add (((ji23)).toNat * 7)).off + 3, none⟩ = some (.int .i64 ((rd_T28 t106 (ji23)).f3)) ∧ w'.cell? ⟨(ad123.add (((ji23)).toNat * 7)).block, (ad123.add (((ji23)).toNat * 7)).off + 4, none⟩ = some (.int .i64 ((rd_T28 t106 (ji23)).f4)) ∧ w'.cell? ⟨(ad123.add (((ji23)).toNat * 7)).block, (ad123.add (((ji23)).toNat * 7)).off + 5, none⟩ = some (.int .i64 ((rd_T28 t106 (ji23)).f5)) ∧ w'.cell? ⟨(ad123.add (((ji23)).toNat * 7)).block, (ad123.add (((ji23)).toNat * 7)).off + 6, none⟩ = some (.int .u64 ((rd_T28 t106 (ji23)).f6)) ∧ w'.cell? (ad123.add ((x12_1).toNat * 7)) = some (.int .i64 ((rd_T28 t106 x12_1).f0)) ∧ w'.cell? ⟨(ad123.add ((x12_1).toNat * 7)).block, (ad123.add ((x12_1).toNat * 7)).off + 1, none⟩ = some (.int .i64 ((rd_T28 t106 x12_1).f1)) ∧ w'.cell? ⟨(ad123.add ((x12_1).toNat * 7)).block, (ad123.add ((x12_1).toNat * 7)).off + 2, none⟩ = some (.int .i64 ((rd_T28 t106 x12_1).f2)) ∧ w'.cell? ⟨(ad123.add ((x12_1).toNat * 7)).block, (ad123.add ((x12_1).toNat * 7)).off + 3, none⟩ = some (.int .i64 ((rd_T28 t106 x12_1).f3)) ∧ w'.cell? ⟨(ad123.add ((x12_1).toNat * 7)).block, (ad123.add ((x12_1).toNat * 7)).off + 4, none⟩ = some (.int .i64 ((rd_T28 t106 x12_1).f4)) ∧ w'.cell? ⟨(ad123.add ((x12_1).toNat * 7)).block, (ad123.add ((x12_1).toNat * 7)).off + 5, none⟩ = some (.int .i64 ((rd_T28 t106 x12_1).f5)) ∧ w'.cell? ⟨(ad123.add ((x12_1).toNat * 7)).block, (ad123.add ((x12_1).toNat * 7)).off + 6, none⟩ = some (.int .u64 ((rd_T28 t106 x12_1).f6))) (ds := [10]) #[false, false, false, false, false, false, false, false, false, false, false, false] (by kernel_rfl) rfl rfl ⟨hx123_0, hx123_1, hx123_2, hx123_3, hx123_4, hx123_5, hx123_6, hx124_0, hx124_1, hx124_2, hx124_3, hx124_4, hx124_5, hx124_6⟩ (fun hHeld => ?_); refine with_tabW parolelaw32_FieldOrder.tab12 parolelaw32_FieldOrder.bits12 (fun HT_ HW_ => ?_)
           generalize wr.drew = w30 at HO_6 HO_7 HO_10 HO_11 BK101 BK116 HB hx123_0 hx123_1 hx123_2 hx123_3 hx123_4 hx123_5 hx123_6 hx124_0 hx124_1 hx124_2 hx124_3 hx124_4 hx124_5 hx124_6 hHeld ⊢
           refine pX (i := 0) (N := some 42) rfl rfl HT_ ?_
           refine pX (i := 1) (N := some 43) rfl rfl HT_ ?_
           refine pX (i := 2) (N := some 44) rfl rfl HT_ ?_
           refine pX (i := 4) (N := some 46) rfl rfl HT_ ?_
           refine pX (i := 5) (N := some 47) rfl rfl HT_ ?_
           refine pX (i := 6) (N := some 48) rfl rfl HT_ ?_
           refine pX (i := 9) (N := some 51) rfl rfl HT_ ?_
           refine tX (i := 3) (N := some 45) rfl rfl HT_ HW_ hHeld (Or.inl ⟨by rfl, by rintro w' ⟨s0, s1, s2, s3, s4, s5, s6, s7, s8, s9, s10, s11, s12, s13⟩; go_simp; with_reducible rfl⟩) ?_
           refine tX (i := 7) (N := some 49) rfl rfl HT_ HW_ hHeld (Or.inl ⟨by rfl, by rintro w' ⟨s0, s1, s2, s3, s4, s5, s6, s7, s8, s9, s10, s11, s12, s13⟩; go_simp; with_reducible rfl⟩) ?_
           refine oX (i := 8) (N := some 50) rfl rfl HT_ (fun K hK => ?_)
           refine Kd.R_lit_step k28 _ 28 ?hg (N := 50) ?hd (xs := ([(⟨(rd_T28 t106 (ji23)).f0, (rd_T28 t106 (ji23)).f1, (rd_T28 t106 (ji23)).f2, (rd_T28 t106 (ji23)).f3, (rd_T28 t106 (ji23)).f4, (rd_T28 t106 (ji23)).f5, (rd_T28 t106 (ji23)).f6⟩ : S28), (⟨(rd_T28 t106 x12_1).f0, (rd_T28 t106 x12_1).f1, (rd_T28 t106 x12_1).f2, (rd_T28 t106 x12_1).f3, (rd_T28 t106 x12_1).f4, (rd_T28 t106 x12_1).f5, (rd_T28 t106 x12_1).f6⟩ : S28)] : List (S28))) (inner := [.int .i64 ((rd_T28 t106 (ji23)).f0), .int .i64 ((rd_T28 t106 (ji23)).f1), .int .i64 ((rd_T28 t106 (ji23)).f2), .int .i64 ((rd_T28 t106 (ji23)).f3), .int .i64 ((rd_T28 t106 (ji23)).f4), .int .i64 ((rd_T28 t106 (ji23)).f5), .int .u64 ((rd_T28 t106 (ji23)).f6), .int .i64 ((rd_T28 t106 x12_1).f0), .int .i64 ((rd_T28 t106 x12_1).f1), .int .i64 ((rd_T28 t106 x12_1).f2), .int .i64 ((rd_T28 t106 x12_1).f3), .int .i64 ((rd_T28 t106 x12_1).f4), .int .i64 ((rd_T28 t106 x12_1).f5), .int .u64 ((rd_T28 t106 x12_1).f6)]) (ok := fun _ => True) (okp := fun _ => True) ?hr ?hp (fun _ hk => hk) trivial (Below.refl _ _) (Nat.le_refl _) (by simp) ?_; (case hd => rfl); (case hg => rfl); (case hr => first | (go_simp; done) | (go_simp; rfl)); (case hp => exact (Reps.c7 (show Kd.M k28 _ _ _ (⟨(rd_T28 t106 (ji23)).f0, (rd_T28 t106 (ji23)).f1, (rd_T28 t106 (ji23)).f2, (rd_T28 t106 (ji23)).f3, (rd_T28 t106 (ji23)).f4, (rd_T28 t106 (ji23)).f5, (rd_T28 t106 (ji23)).f6⟩ : S28) [.int .i64 ((rd_T28 t106 (ji23)).f0), .int .i64 ((rd_T28 t106 (ji23)).f1), .int .i64 ((rd_T28 t106 (ji23)).f2), .int .i64 ((rd_T28 t106 (ji23)).f3), .int .i64 ((rd_T28 t106 (ji23)).f4), .int .i64 ((rd_T28 t106 (ji23)).f5), .int .u64 ((rd_T28 t106 (ji23)).f6)] from (k28_mkM _ _ _ (⟨(rd_T28 t106 (ji23)).f0, (rd_T28 t106 (ji23)).f1, (rd_T28 t106 (ji23)).f2, (rd_T28 t106 (ji23)).f3, (rd_T28 t106 (ji23)).f4, (rd_T28 t106 (ji23)).f5, (rd_T28 t106 (ji23)).f6⟩ : S28) )) (Reps.c7 (show Kd.M k28 _ _ _ (⟨(rd_T28 t106 x12_1).f0, (rd_T28 t106 x12_1).f1, (rd_T28 t106 x12_1).f2, (rd_T28 t106 x12_1).f3, (rd_T28 t106 x12_1).f4, (rd_T28 t106 x12_1).f5, (rd_T28 t106 x12_1).f6⟩ : S28) [.int .i64 ((rd_T28 t106 x12_1).f0), .int .i64 ((rd_T28 t106 x12_1).f1), .int .i64 ((rd_T28 t106 x12_1).f2), .int .i64 ((rd_T28 t106 x12_1).f3), .int .i64 ((rd_T28 t106 x12_1).f4), .int .i64 ((rd_T28 t106 x12_1).f5), .int .u64 ((rd_T28 t106 x12_1).f6)] from (k28_mkM _ _ _ (⟨(rd_T28 t106 x12_1).f0, (rd_T28 t106 x12_1).f1, (rd_T28 t106 x12_1).f2, (rd_T28 t106 x12_1).f3, (rd_T28 t106 x12_1).f4, (rd_T28 t106 x12_1).f5, (rd_T28 t106 x12_1).f6⟩ : S28) )) (Reps.none _ _))))
           intro v126 w31 ho32 hb hg_ hnew_
           have HS0_ := (hb.cell (World.block_lt_of_cell? _ _ (hHeld.1))).trans (hHeld.1); have HS1_ := (hb.cell (World.block_lt_of_cell? _ _ (hHeld.2.1))).trans (hHeld.2.1); have HS2_ := (hb.cell (World.block_lt_of_cell? _ _ (hHeld.2.2.1))).trans (hHeld.2.2.1); have HS3_ := (hb.cell (World.block_lt_of_cell? _ _ (hHeld.2.2.2.1))).trans (hHeld.2.2.2.1); have HS4_ := (hb.cell (World.block_lt_of_cell? _ _ (hHeld.2.2.2.2.1))).trans (hHeld.2.2.2.2.1); have HS5_ := (hb.cell (World.block_lt_of_cell? _ _ (hHeld.2.2.2.2.2.1))).trans (hHeld.2.2.2.2.2.1); have HS6_ := (hb.cell (World.block_lt_of_cell? _ _ (hHeld.2.2.2.2.2.2.1))).trans (hHeld.2.2.2.2.2.2.1); have HS7_ := (hb.cell (World.block_lt_of_cell? _ _ (hHeld.2.2.2.2.2.2.2.1))).trans (hHeld.2.2.2.2.2.2.2.1)
           have HS8_ := (hb.cell (World.block_lt_of_cell? _ _ (hHeld.2.2.2.2.2.2.2.2.1))).trans (hHeld.2.2.2.2.2.2.2.2.1); have HS9_ := (hb.cell (World.block_lt_of_cell? _ _ (hHeld.2.2.2.2.2.2.2.2.2.1))).trans (hHeld.2.2.2.2.2.2.2.2.2.1); have HS10_ := (hb.cell (World.block_lt_of_cell? _ _ (hHeld.2.2.2.2.2.2.2.2.2.2.1))).trans (hHeld.2.2.2.2.2.2.2.2.2.2.1); have HS11_ := (hb.cell (World.block_lt_of_cell? _ _ (hHeld.2.2.2.2.2.2.2.2.2.2.2.1))).trans (hHeld.2.2.2.2.2.2.2.2.2.2.2.1); have HS12_ := (hb.cell (World.block_lt_of_cell? _ _ (hHeld.2.2.2.2.2.2.2.2.2.2.2.2.1))).trans (hHeld.2.2.2.2.2.2.2.2.2.2.2.2.1); have HS13_ := (hb.cell (World.block_lt_of_cell? _ _ (hHeld.2.2.2.2.2.2.2.2.2.2.2.2.2))).trans (hHeld.2.2.2.2.2.2.2.2.2.2.2.2.2)
           clear hg_ hnew_
           (first | rw [← Ny125.out] at ho32 | (simp only [Int.reduceToNat] at ho32; rw [← Ny125.out] at ho32))
           have HO127 := aM (Kd.R_lower (Kd.R_new' (Kd.R_new' (Kd.R_new' ho32 (Kd.R_lt (rD HO_7))) (Kd.R_lt (rD HO_10))) (Kd.R_lt (rD HO_11))) (below_size (sD HB))); replace HO_6 := rB HO_6 hb; replace HO_7 := aM (Kd.R_elder' (rD HO_7) (Kd.R_base ho32) hb); replace HO_10 := aM (Kd.R_elder' (rD HO_10) (Kd.R_base ho32) hb); replace HO_11 := aM (Kd.R_elder' (rD HO_11) (Kd.R_base ho32) hb); replace BK101 := bB BK101 hb; replace BK116 := bB BK116 hb; replace HB := sB HB hb; clear hb ho32
           obtain ⟨Ao34, co34, eo34⟩ := Kd.R_slice HO_10.out
           (first | subst eo34 | (injection eo34 with f1_ f2_ f3_; have f4_ := f1_.symm; have f5_ := f3_.symm; clear f1_ f2_ f3_; subst f4_; subst f5_))
           refine hK.out _ _ ⟨HS0_, HS1_, HS2_, HS3_, HS4_, HS5_, HS6_, HS7_, HS8_, HS9_, HS10_, HS11_, HS12_, HS13_⟩ (fun hHeld => ?_)
           clear hK K
           refine nX (some 50) ?_
           refine last_ (i := 10) (N := some 52) #[true, true, true, true, true, true, true, true, true, true, true, false] rfl rfl (one_of HT_.out (by kernel_rfl)) (by decide) (fun K hK => ?_)
           refine Kd.R_append_rows_step k28 (w0 := w) w.heap.size (by rfl) (.tmp 50) (.tmp 51) 31 28 (.agg #[(.int .i64 0), (.int .i64 0), (.int .i64 0), (.int .i64 0), (.int .i64 0), (.int .i64 0), (.int .u64 0)]) 56 rfl Try.underlying31 info28 rfl (by decide) (by omega) v126 y125 x10_1 _ _ _ (fun k_ => some k_ ≠ (.slice (some ad123) t106.length co12 : Value).ownBlock ∧ some k_ ≠ (.slice Ao34 x10_1.length co34 : Value).ownBlock ∧ some k_ ≠ (u11 : Value).ownBlock) (fun _ => False) rfl rfl ?aO ?aR (fun _ _ h => h) (fun _ h => h.elim) ?aF ?aB ?aS ?aL ?_
           (case aR => repeat (first | exact (Kd.R_reads' HO_10.out).2.2 | (with_reducible refine Kd.C_alloc ?_ _) | (with_reducible refine Kd.C_drewN ?_ _) | (with_reducible refine Kd.C_drew ?_)))
           (case aB => exact (sD HB))
           (case aF => exact (fun k_ hk => ⟨Kd.fresh' (Kd.R_lt (rD HO_7)) k_ hk, Kd.fresh' (Kd.R_lt (rD HO_10)) k_ hk, Kd.fresh' (Kd.R_lt (rD HO_11)) k_ hk⟩))
           (case aO => exact (rD ⟨Kd.R_mono HO127.out (fun _ hk => ⟨hk.1.1.2, ⟨hk.1.2, hk.2⟩⟩)⟩))
           (case aS => exact (below_size (sD HB)))
           (case aL => have := LMc27.out; omega)
           intro v129 w33 ho hb hg hat
           rw [← Ny128.out] at ho
           have HO130 := aM (ho); replace HO_6 := aM (Kd.R_over' (rD HO_6) (Kd.R_typed (rD HO127)) (by decide) hg); replace HO_7 := aM (Kd.R_after (ok := (fun k_ => some k_ ≠ (.slice Ao34 x10_1.length co34 : Value).ownBlock ∧ some k_ ≠ (u11 : Value).ownBlock)) (rD HO_7) hg hat); replace HO_10 := aM (Kd.R_after (ok := (fun k_ => some k_ ≠ (.slice (some ad123) t106.length co12 : Value).ownBlock ∧ some k_ ≠ (u11 : Value).ownBlock)) (rD HO_10) hg hat); replace HO_11 := aM (Kd.R_after (ok := (fun k_ => some k_ ≠ (.slice (some ad123) t106.length co12 : Value).ownBlock ∧ some k_ ≠ (.slice Ao34 x10_1.length co34 : Value).ownBlock)) (rD HO_11) hg hat); replace BK101 := aM (blk_grown (g := gb101) (o := .cells #[.int .u8 a0_0, .slice A0_1 l0_1.length c0_1, .int .u8 a0_2] 24 (0, 0)) (bD BK101) hg (Kd.R_ne HO127.out BK101.out (by decide)))
           replace BK116 := aM (blk_grown (g := gb116) (o := .cells #[.int .i64 t110, .int .i64 t111, .int .i64 t112, .int .i64 t113, .int .i64 t114, .int .i64 t115] 40 (0, 0)) (bD BK116) hg (Kd.R_ne HO127.out BK116.out (by decide))); replace HB := aM (hb); clear HO127 ho hb hg hat
           refine hK.out _ _ ?_
           clear hK K
           refine nX (some 52) ?_
           refine pX (i := 11) (N := some 10) rfl rfl HT_ ?_
           refine done_ (done_of HT_.out (by kernel_rfl)) ?_
           have p131 : 0 ≤ (x12_1 : Int) := of_decide_eq_true (by first | (with_reducible assumption) | assumption)
           have q131 : x12_1 < (t106.length : Int) := of_decide_eq_true (by first | (with_reducible assumption) | assumption)
           obtain ⟨ad131, e131, hx131_0, hx131_1, hx131_2, hx131_3, hx131_4, hx131_5, hx131_6⟩ := at_T28 (Kd.R_reads' HO_7.out).2.2 x12_1 p131 q131
           obtain rfl : ad123 = ad131 := (by injection e131)
           replace p131 := eq_true p131; replace q131 := eq_true q131
           have p132 : 0 ≤ (x12_1 : Int) := of_decide_eq_true (by first | (with_reducible assumption) | assumption)
           have q132 : x12_1 < (t106.length : Int) := of_decide_eq_true (by first | (with_reducible assumption) | assumption)
           obtain ⟨ad132, e132, hx132_0, hx132_1, hx132_2, hx132_3, hx132_4, hx132_5, hx132_6⟩ := at_T28 (Kd.R_reads' HO_7.out).2.2 x12_1 p132 q132
           obtain rfl : ad123 = ad132 := (by injection e132)
           replace p132 := eq_true p132; replace q132 := eq_true q132
           try go_wp2_with (first | ((with_reducible refine gate_builtin (b := .append) (xs := #[.tmp 60, .tmp 65]) rfl ?_); (try (refine gate_guard (by rfl) ?_; dsimp only)); at_builtin; refine Kd.R_append k28 (w0 := w) w.heap.size rfl (.tmp 60) (.tmp 65) 31 28 (.agg #[(.int .i64 0), (.int .i64 0), (.int .i64 0), (.int .i64 0), (.int .i64 0), (.int .i64 0), (.int .u64 0)]) 56 rfl Try.underlying31 info28 rfl (by decide) (by omega) u11 x11_1 (⟨(rd_T28 t106 x12_1).f0, (rd_T28 t106 x12_1).f1, (rd_T28 t106 x12_1).f2, (rd_T28 t106 x12_1).f3, (rd_T28 t106 x12_1).f4, (rd_T28 t106 x12_1).f5, (rd_T28 t106 x12_1).f6⟩ : S28) [.int .i64 ((rd_T28 t106 x12_1).f0), .int .i64 ((rd_T28 t106 x12_1).f1), .int .i64 ((rd_T28 t106 x12_1).f2), .int .i64 ((rd_T28 t106 x12_1).f3), .int .i64 ((rd_T28 t106 x12_1).f4), .int .i64 ((rd_T28 t106 x12_1).f5), .int .u64 ((rd_T28 t106 x12_1).f6)] (fun k_ => some k_ ≠ (.slice (some ad123) t106.length co12 : Value).ownBlock ∧ some k_ ≠ (.slice Ao34 x10_1.length co34 : Value).ownBlock ∧ some k_ ≠ (v129 : Value).ownBlock) (fun _ => False) rfl rfl ?aP (fun _ hk => hk.elim) ?aF ?aO ?aB ?aS ?aL ?_; (case aP => exact k28_mkM _ _ _ (⟨(rd_T28 t106 x12_1).f0, (rd_T28 t106 x12_1).f1, (rd_T28 t106 x12_1).f2, (rd_T28 t106 x12_1).f3, (rd_T28 t106 x12_1).f4, (rd_T28 t106 x12_1).f5, (rd_T28 t106 x12_1).f6⟩ : S28)); (case aB => exact (sD HB)); (case aF => exact (fun k_ hk => ⟨Kd.fresh' (Kd.R_lt (rD HO_7)) k_ hk, Kd.fresh' (Kd.R_lt (rD HO_10)) k_ hk, Kd.fresh' (Kd.R_lt (rD HO130)) k_ hk⟩)); (case aO => exact (rD ⟨Kd.R_mono HO_11.out (fun _ hk => ⟨hk.1.1, ⟨hk.1.2, hk.2⟩⟩)⟩)); (case aS => exact (below_size (sD HB))); (case aL => have := LMc29.out; omega); intro v134 w35 ho hb hg hat; rw [← Ny133.out] at ho; have HO135 := aM (ho); replace HO_6 := aM (Kd.R_over' (rD HO_6) (Kd.R_typed (rD HO_11)) (by decide) hg); replace HO_7 := aM (Kd.R_after (ok := (fun k_ => some k_ ≠ (.slice Ao34 x10_1.length co34 : Value).ownBlock ∧ some k_ ≠ (v129 : Value).ownBlock)) (rD ⟨Kd.R_mono HO_7.out (fun _ hk => ⟨⟨hk.1.1, hk.2⟩, hk.1.2⟩)⟩) hg hat); replace HO_10 := aM (Kd.R_after (ok := (fun k_ => some k_ ≠ (.slice (some ad123) t106.length co12 : Value).ownBlock ∧ some k_ ≠ (v129 : Value).ownBlock)) (rD ⟨Kd.R_mono HO_10.out (fun _ hk => ⟨⟨hk.1.1, hk.2⟩, hk.1.2⟩)⟩) hg hat); replace BK101 := aM (blk_grown (g := gb101) (o := .cells #[.int .u8 a0_0, .slice A0_1 l0_1.length c0_1, .int .u8 a0_2] 24 (0, 0)) (bD BK101) hg (Kd.R_ne HO_11.out BK101.out (by decide))); replace BK116 := aM (blk_grown (g := gb116) (o := .cells #[.int .i64 t110, .int .i64 t111, .int .i64 t112, .int .i64 t113, .int .i64 t114, .int .i64 t115] 40 (0, 0)) (bD BK116) hg (Kd.R_ne HO_11.out BK116.out (by decide))); replace HO130 := aM (Kd.R_after (ok := (fun k_ => some k_ ≠ (.slice (some ad123) t106.length co12 : Value).ownBlock ∧ some k_ ≠ (.slice Ao34 x10_1.length co34 : Value).ownBlock)) (rD ⟨Kd.R_mono HO130.out (fun _ hk => ⟨⟨hk.1, hk.2.1⟩, hk.2.2⟩)⟩) hg hat); replace HB := aM (hb); clear HO_11; clear ho hb hg hat))
           go_roundg k1
           case measure => have := HK1.out; omega
           case rel => exact ⟨(y128), (y133), (wrap64 (x12_1 + 1)), (by first | rfl | (simp; done) | (simp [*]; done)), H', ⟨by have := HK1.out; omega⟩, ⟨by (with_reducible repeat (first | apply Kd.R_alloc | apply Kd.R_drewN | apply Kd.R_drew)); exact HO_6.out⟩, ⟨by (with_reducible repeat (first | apply Kd.R_alloc | apply Kd.R_drewN | apply Kd.R_drew)); exact Kd.R_mono HO_7.out (fun _ hk => ⟨hk.1.2, hk.2⟩)⟩, ⟨by (with_reducible repeat (first | apply Kd.R_alloc | apply Kd.R_drewN | apply Kd.R_drew)); exact Kd.R_mono HO130.out (fun _ hk => ⟨hk.1.1, hk.2⟩)⟩, ⟨by (with_reducible repeat (first | apply Kd.R_alloc | apply Kd.R_drewN | apply Kd.R_drew)); exact Kd.R_mono HO135.out (fun _ hk => ⟨hk.1, hk.2.2⟩)⟩, ⟨by exact bD BK101⟩, ⟨by exact bD BK116⟩, ⟨sD HB⟩⟩
          ·rw [if_neg c29] at H
           exact absurd H (by simp)
         ·rw [if_neg c28] at H
          have c28b0 : (((rd_T28 t106 x12_1).f2) == t109) = false := beq_eq_false_iff_ne.mpr c28
          have c28b1 : (((rd_T28 t106 x12_1).f2) != t109) = true := bne_iff_ne.mpr c28
          have H' := aM H; clear H
          try go_wp2
          replace HO_6 := aM (Kd.R_drew HO_6.out); replace HO_7 := aM (Kd.R_drew HO_7.out); replace HO_10 := aM (Kd.R_drew HO_10.out); replace HO_11 := aM (Kd.R_drew HO_11.out); replace BK101 := aM (blk_drew BK101.out); replace BK116 := aM (blk_drew BK116.out); replace HB := aM (below_drew1 HB.out)
          have p123 : 0 ≤ ((ji23) : Int) := of_decide_eq_true (by first | (with_reducible assumption) | assumption)
          have q123 : (ji23) < (t106.length : Int) := of_decide_eq_true (by first | (with_reducible assumption) | assumption)
          obtain ⟨ad123, e123, hx123_0, hx123_1, hx123_2, hx123_3, hx123_4, hx123_5, hx123_6⟩ := at_T28 (Kd.R_reads' HO_7.out).2.2 (ji23) p123 q123
          cases e123
          replace p123 := eq_true p123; replace q123 := eq_true q123
          have p124 : 0 ≤ (x12_1 : Int) := of_decide_eq_true (by first | (with_reducible assumption) | assumption)
          have q124 : x12_1 < (t106.length : Int) := of_decide_eq_true (by first | (with_reducible assumption) | assumption)
          obtain ⟨ad124, e124, hx124_0, hx124_1, hx124_2, hx124_3, hx124_4, hx124_5, hx124_6⟩ := at_T28 (Kd.R_reads' HO_7.out).2.2 x12_1 p124 q124
          obtain rfl : ad123 = ad124 := (by injection e124)
          replace p124 := eq_true p124; replace q124 := eq_true q124
          refine start_ (n := 12) (S := fun w' => w'.cell? (ad123.add (((ji23)).toNat * 7)) = some (.int .i64 ((rd_T28 t106 (ji23)).f0)) ∧ w'.cell? ⟨(ad123.add (((ji23)).toNat * 7)).block, (ad123.add (((ji23)).toNat * 7)).off + 1, none⟩ = some (.int .i64 ((rd_T28 t106 (ji23)).f1)) ∧ w'.cell? ⟨(ad123.add (((ji23)).toNat * 7)).block, (ad123.add (((ji23)).toNat * 7)).off + 2, none⟩ = some (.int .i64 ((rd_T28 t106 (ji23)).f2)) ∧ w'.cell? ⟨(ad123.add (((ji23)).toNat * 7)).block, (ad123.add (((ji23)).toNat * 7)).off + 3, none⟩ = some (.int .i64 ((rd_T28 t106 (ji23)).f3)) ∧ w'.cell? ⟨(ad123.add (((ji23)).toNat * 7)).block, (ad123.add (((ji23)).toNat * 7)).off + 4, none⟩ = some (.int .i64 ((rd_T28 t106 (ji23)).f4)) ∧ w'.cell? ⟨(ad123.add (((ji23)).toNat * 7)).block, (ad123.add (((ji23)).toNat * 7)).off + 5, none⟩ = some (.int .i64 ((rd_T28 t106 (ji23)).f5)) ∧ w'.cell? ⟨(ad123.add (((ji23)).toNat * 7)).block, (ad123.add (((ji23)).toNat * 7)).off + 6, none⟩ = some (.int .u64 ((rd_T28 t106 (ji23)).f6)) ∧ w'.cell? (ad123.add ((x12_1).toNat * 7)) = some (.int .i64 ((rd_T28 t106 x12_1).f0)) ∧ w'.cell? ⟨(ad123.add ((x12_1).toNat * 7)).block, (ad123.add ((x12_1).toNat * 7)).off + 1, none⟩ = some (.int .i64 ((rd_T28 t106 x12_1).f1)) ∧ w'.cell? ⟨(ad123.add ((x12_1).toNat * 7)).block, (ad123.add ((x12_1).toNat * 7)).off + 2, none⟩ = some (.int .i64 ((rd_T28 t106 x12_1).f2)) ∧ w'.cell? ⟨(ad123.add ((x12_1).toNat * 7)).block, (ad123.add ((x12_1).toNat * 7)).off + 3, none⟩ = some (.int .i64 ((rd_T28 t106 x12_1).f3)) ∧ w'.cell? ⟨(ad123.add ((x12_1).toNat * 7)).block, (ad123.add ((x12_1).toNat * 7)).off + 4, none⟩ = some (.int .i64 ((rd_T28 t106 x12_1).f4)) ∧ w'.cell? ⟨(ad123.add ((x12_1).toNat * 7)).block, (ad123.add ((x12_1).toNat * 7)).off + 5, none⟩ = some (.int .i64 ((rd_T28 t106 x12_1).f5)) ∧ w'.cell? ⟨(ad123.add ((x12_1).toNat * 7)).block, (ad123.add ((x12_1).toNat * 7)).off + 6, none⟩ = some (.int .u64 ((rd_T28 t106 x12_1).f6))) (ds := [10]) #[false, false, false, false, false, false, false, false, false, false, false, false] (by kernel_rfl) rfl rfl ⟨hx123_0, hx123_1, hx123_2, hx123_3, hx123_4, hx123_5, hx123_6, hx124_0, hx124_1, hx124_2, hx124_3, hx124_4, hx124_5, hx124_6⟩ (fun hHeld => ?_); refine with_tabW parolelaw32_FieldOrder.tab12 parolelaw32_FieldOrder.bits12 (fun HT_ HW_ => ?_)
          generalize wr.drew = w36 at HO_6 HO_7 HO_10 HO_11 BK101 BK116 HB hx123_0 hx123_1 hx123_2 hx123_3 hx123_4 hx123_5 hx123_6 hx124_0 hx124_1 hx124_2 hx124_3 hx124_4 hx124_5 hx124_6 hHeld ⊢
          refine pX (i := 0) (N := some 42) rfl rfl HT_ ?_
          refine pX (i := 1) (N := some 43) rfl rfl HT_ ?_
          refine pX (i := 2) (N := some 44) rfl rfl HT_ ?_
          refine pX (i := 4) (N := some 46) rfl rfl HT_ ?_
          refine pX (i := 5) (N := some 47) rfl rfl HT_ ?_
          refine pX (i := 6) (N := some 48) rfl rfl HT_ ?_
          refine pX (i := 9) (N := some 51) rfl rfl HT_ ?_
          refine tX (i := 3) (N := some 45) rfl rfl HT_ HW_ hHeld (Or.inl ⟨by rfl, by rintro w' ⟨s0, s1, s2, s3, s4, s5, s6, s7, s8, s9, s10, s11, s12, s13⟩; go_simp; with_reducible rfl⟩) ?_
          refine tX (i := 7) (N := some 49) rfl rfl HT_ HW_ hHeld (Or.inl ⟨by rfl, by rintro w' ⟨s0, s1, s2, s3, s4, s5, s6, s7, s8, s9, s10, s11, s12, s13⟩; go_simp; with_reducible rfl⟩) ?_
          refine oX (i := 8) (N := some 50) rfl rfl HT_ (fun K hK => ?_)
          refine Kd.R_lit_step k28 _ 28 ?hg (N := 50) ?hd (xs := ([(⟨(rd_T28 t106 (ji23)).f0, (rd_T28 t106 (ji23)).f1, (rd_T28 t106 (ji23)).f2, (rd_T28 t106 (ji23)).f3, (rd_T28 t106 (ji23)).f4, (rd_T28 t106 (ji23)).f5, (rd_T28 t106 (ji23)).f6⟩ : S28), (⟨(rd_T28 t106 x12_1).f0, (rd_T28 t106 x12_1).f1, (rd_T28 t106 x12_1).f2, (rd_T28 t106 x12_1).f3, (rd_T28 t106 x12_1).f4, (rd_T28 t106 x12_1).f5, (rd_T28 t106 x12_1).f6⟩ : S28)] : List (S28))) (inner := [.int .i64 ((rd_T28 t106 (ji23)).f0), .int .i64 ((rd_T28 t106 (ji23)).f1), .int .i64 ((rd_T28 t106 (ji23)).f2), .int .i64 ((rd_T28 t106 (ji23)).f3), .int .i64 ((rd_T28 t106 (ji23)).f4), .int .i64 ((rd_T28 t106 (ji23)).f5), .int .u64 ((rd_T28 t106 (ji23)).f6), .int .i64 ((rd_T28 t106 x12_1).f0), .int .i64 ((rd_T28 t106 x12_1).f1), .int .i64 ((rd_T28 t106 x12_1).f2), .int .i64 ((rd_T28 t106 x12_1).f3), .int .i64 ((rd_T28 t106 x12_1).f4), .int .i64 ((rd_T28 t106 x12_1).f5), .int .u64 ((rd_T28 t106 x12_1).f6)]) (ok := fun _ => True) (okp := fun _ => True) ?hr ?hp (fun _ hk => hk) trivial (Below.refl _ _) (Nat.le_refl _) (by simp) ?_; (case hd => rfl); (case hg => rfl); (case hr => first | (go_simp; done) | (go_simp; rfl)); (case hp => exact (Reps.c7 (show Kd.M k28 _ _ _ (⟨(rd_T28 t106 (ji23)).f0, (rd_T28 t106 (ji23)).f1, (rd_T28 t106 (ji23)).f2, (rd_T28 t106 (ji23)).f3, (rd_T28 t106 (ji23)).f4, (rd_T28 t106 (ji23)).f5, (rd_T28 t106 (ji23)).f6⟩ : S28) [.int .i64 ((rd_T28 t106 (ji23)).f0), .int .i64 ((rd_T28 t106 (ji23)).f1), .int .i64 ((rd_T28 t106 (ji23)).f2), .int .i64 ((rd_T28 t106 (ji23)).f3), .int .i64 ((rd_T28 t106 (ji23)).f4), .int .i64 ((rd_T28 t106 (ji23)).f5), .int .u64 ((rd_T28 t106 (ji23)).f6)] from (k28_mkM _ _ _ (⟨(rd_T28 t106 (ji23)).f0, (rd_T28 t106 (ji23)).f1, (rd_T28 t106 (ji23)).f2, (rd_T28 t106 (ji23)).f3, (rd_T28 t106 (ji23)).f4, (rd_T28 t106 (ji23)).f5, (rd_T28 t106 (ji23)).f6⟩ : S28) )) (Reps.c7 (show Kd.M k28 _ _ _ (⟨(rd_T28 t106 x12_1).f0, (rd_T28 t106 x12_1).f1, (rd_T28 t106 x12_1).f2, (rd_T28 t106 x12_1).f3, (rd_T28 t106 x12_1).f4, (rd_T28 t106 x12_1).f5, (rd_T28 t106 x12_1).f6⟩ : S28) [.int .i64 ((rd_T28 t106 x12_1).f0), .int .i64 ((rd_T28 t106 x12_1).f1), .int .i64 ((rd_T28 t106 x12_1).f2), .int .i64 ((rd_T28 t106 x12_1).f3), .int .i64 ((rd_T28 t106 x12_1).f4), .int .i64 ((rd_T28 t106 x12_1).f5), .int .u64 ((rd_T28 t106 x12_1).f6)] from (k28_mkM _ _ _ (⟨(rd_T28 t106 x12_1).f0, (rd_T28 t106 x12_1).f1, (rd_T28 t106 x12_1).f2, (rd_T28 t106 x12_1).f3, (rd_T28 t106 x12_1).f4, (rd_T28 t106 x12_1).f5, (rd_T28 t106 x12_1).f6⟩ : S28) )) (Reps.none _ _))))
          intro v126 w37 ho38 hb hg_ hnew_
          have HS0_ := (hb.cell (World.block_lt_of_cell? _ _ (hHeld.1))).trans (hHeld.1); have HS1_ := (hb.cell (World.block_lt_of_cell? _ _ (hHeld.2.1))).trans (hHeld.2.1); have HS2_ := (hb.cell (World.block_lt_of_cell? _ _ (hHeld.2.2.1))).trans (hHeld.2.2.1); have HS3_ := (hb.cell (World.block_lt_of_cell? _ _ (hHeld.2.2.2.1))).trans (hHeld.2.2.2.1); have HS4_ := (hb.cell (World.block_lt_of_cell? _ _ (hHeld.2.2.2.2.1))).trans (hHeld.2.2.2.2.1); have HS5_ := (hb.cell (World.block_lt_of_cell? _ _ (hHeld.2.2.2.2.2.1))).trans (hHeld.2.2.2.2.2.1); have HS6_ := (hb.cell (World.block_lt_of_cell? _ _ (hHeld.2.2.2.2.2.2.1))).trans (hHeld.2.2.2.2.2.2.1); have HS7_ := (hb.cell (World.block_lt_of_cell? _ _ (hHeld.2.2.2.2.2.2.2.1))).trans (hHeld.2.2.2.2.2.2.2.1)
          have HS8_ := (hb.cell (World.block_lt_of_cell? _ _ (hHeld.2.2.2.2.2.2.2.2.1))).trans (hHeld.2.2.2.2.2.2.2.2.1); have HS9_ := (hb.cell (World.block_lt_of_cell? _ _ (hHeld.2.2.2.2.2.2.2.2.2.1))).trans (hHeld.2.2.2.2.2.2.2.2.2.1); have HS10_ := (hb.cell (World.block_lt_of_cell? _ _ (hHeld.2.2.2.2.2.2.2.2.2.2.1))).trans (hHeld.2.2.2.2.2.2.2.2.2.2.1); have HS11_ := (hb.cell (World.block_lt_of_cell? _ _ (hHeld.2.2.2.2.2.2.2.2.2.2.2.1))).trans (hHeld.2.2.2.2.2.2.2.2.2.2.2.1); have HS12_ := (hb.cell (World.block_lt_of_cell? _ _ (hHeld.2.2.2.2.2.2.2.2.2.2.2.2.1))).trans (hHeld.2.2.2.2.2.2.2.2.2.2.2.2.1); have HS13_ := (hb.cell (World.block_lt_of_cell? _ _ (hHeld.2.2.2.2.2.2.2.2.2.2.2.2.2))).trans (hHeld.2.2.2.2.2.2.2.2.2.2.2.2.2)
          clear hg_ hnew_
          (first | rw [← Ny125.out] at ho38 | (simp only [Int.reduceToNat] at ho38; rw [← Ny125.out] at ho38))
          have HO127 := aM (Kd.R_lower (Kd.R_new' (Kd.R_new' (Kd.R_new' ho38 (Kd.R_lt (rD HO_7))) (Kd.R_lt (rD HO_10))) (Kd.R_lt (rD HO_11))) (below_size (sD HB))); replace HO_6 := rB HO_6 hb; replace HO_7 := aM (Kd.R_elder' (rD HO_7) (Kd.R_base ho38) hb); replace HO_10 := aM (Kd.R_elder' (rD HO_10) (Kd.R_base ho38) hb); replace HO_11 := aM (Kd.R_elder' (rD HO_11) (Kd.R_base ho38) hb); replace BK101 := bB BK101 hb; replace BK116 := bB BK116 hb; replace HB := sB HB hb; clear hb ho38
          obtain ⟨Ao40, co40, eo40⟩ := Kd.R_slice HO_10.out
          (first | subst eo40 | (injection eo40 with f1_ f2_ f3_; have f4_ := f1_.symm; have f5_ := f3_.symm; clear f1_ f2_ f3_; subst f4_; subst f5_))
          refine hK.out _ _ ⟨HS0_, HS1_, HS2_, HS3_, HS4_, HS5_, HS6_, HS7_, HS8_, HS9_, HS10_, HS11_, HS12_, HS13_⟩ (fun hHeld => ?_)
          clear hK K
          refine nX (some 50) ?_
          refine last_ (i := 10) (N := some 52) #[true, true, true, true, true, true, true, true, true, true, true, false] rfl rfl (one_of HT_.out (by kernel_rfl)) (by decide) (fun K hK => ?_)
          refine Kd.R_append_rows_step k28 (w0 := w) w.heap.size (by rfl) (.tmp 50) (.tmp 51) 31 28 (.agg #[(.int .i64 0), (.int .i64 0), (.int .i64 0), (.int .i64 0), (.int .i64 0), (.int .i64 0), (.int .u64 0)]) 56 rfl Try.underlying31 info28 rfl (by decide) (by omega) v126 y125 x10_1 _ _ _ (fun k_ => some k_ ≠ (.slice (some ad123) t106.length co12 : Value).ownBlock ∧ some k_ ≠ (.slice Ao40 x10_1.length co40 : Value).ownBlock ∧ some k_ ≠ (u11 : Value).ownBlock) (fun _ => False) rfl rfl ?aO ?aR (fun _ _ h => h) (fun _ h => h.elim) ?aF ?aB ?aS ?aL ?_
          (case aR => repeat (first | exact (Kd.R_reads' HO_10.out).2.2 | (with_reducible refine Kd.C_alloc ?_ _) | (with_reducible refine Kd.C_drewN ?_ _) | (with_reducible refine Kd.C_drew ?_)))
          (case aB => exact (sD HB))
          (case aF => exact (fun k_ hk => ⟨Kd.fresh' (Kd.R_lt (rD HO_7)) k_ hk, Kd.fresh' (Kd.R_lt (rD HO_10)) k_ hk, Kd.fresh' (Kd.R_lt (rD HO_11)) k_ hk⟩))
          (case aO => exact (rD ⟨Kd.R_mono HO127.out (fun _ hk => ⟨hk.1.1.2, ⟨hk.1.2, hk.2⟩⟩)⟩))
          (case aS => exact (below_size (sD HB)))
          (case aL => have := LMc27.out; omega)
          intro v129 w39 ho hb hg hat
          rw [← Ny128.out] at ho
          have HO130 := aM (ho); replace HO_6 := aM (Kd.R_over' (rD HO_6) (Kd.R_typed (rD HO127)) (by decide) hg); replace HO_7 := aM (Kd.R_after (ok := (fun k_ => some k_ ≠ (.slice Ao40 x10_1.length co40 : Value).ownBlock ∧ some k_ ≠ (u11 : Value).ownBlock)) (rD HO_7) hg hat); replace HO_10 := aM (Kd.R_after (ok := (fun k_ => some k_ ≠ (.slice (some ad123) t106.length co12 : Value).ownBlock ∧ some k_ ≠ (u11 : Value).ownBlock)) (rD HO_10) hg hat); replace HO_11 := aM (Kd.R_after (ok := (fun k_ => some k_ ≠ (.slice (some ad123) t106.length co12 : Value).ownBlock ∧ some k_ ≠ (.slice Ao40 x10_1.length co40 : Value).ownBlock)) (rD HO_11) hg hat); replace BK101 := aM (blk_grown (g := gb101) (o := .cells #[.int .u8 a0_0, .slice A0_1 l0_1.length c0_1, .int .u8 a0_2] 24 (0, 0)) (bD BK101) hg (Kd.R_ne HO127.out BK101.out (by decide)))
          replace BK116 := aM (blk_grown (g := gb116) (o := .cells #[.int .i64 t110, .int .i64 t111, .int .i64 t112, .int .i64 t113, .int .i64 t114, .int .i64 t115] 40 (0, 0)) (bD BK116) hg (Kd.R_ne HO127.out BK116.out (by decide))); replace HB := aM (hb); clear HO127 ho hb hg hat
          refine hK.out _ _ ?_
          clear hK K
          refine nX (some 52) ?_
          refine pX (i := 11) (N := some 10) rfl rfl HT_ ?_
          refine done_ (done_of HT_.out (by kernel_rfl)) ?_
          have p131 : 0 ≤ (x12_1 : Int) := of_decide_eq_true (by first | (with_reducible assumption) | assumption)
          have q131 : x12_1 < (t106.length : Int) := of_decide_eq_true (by first | (with_reducible assumption) | assumption)
          obtain ⟨ad131, e131, hx131_0, hx131_1, hx131_2, hx131_3, hx131_4, hx131_5, hx131_6⟩ := at_T28 (Kd.R_reads' HO_7.out).2.2 x12_1 p131 q131
          obtain rfl : ad123 = ad131 := (by injection e131)
          replace p131 := eq_true p131; replace q131 := eq_true q131
          try go_wp2
          go_roundg k1
          case measure => have := HK1.out; omega
          case rel => exact ⟨(y128), (x11_1), (wrap64 (x12_1 + 1)), (by first | rfl | (simp; done) | (simp [*]; done)), H', ⟨by have := HK1.out; omega⟩, ⟨by (with_reducible repeat (first | apply Kd.R_alloc | apply Kd.R_drewN | apply Kd.R_drew)); exact HO_6.out⟩, ⟨by (with_reducible repeat (first | apply Kd.R_alloc | apply Kd.R_drewN | apply Kd.R_drew)); exact Kd.R_mono HO_7.out (fun _ hk => ⟨hk.2, hk.1.2⟩)⟩, ⟨by (with_reducible repeat (first | apply Kd.R_alloc | apply Kd.R_drewN | apply Kd.R_drew)); exact Kd.R_mono HO130.out (fun _ hk => ⟨hk.1, hk.2.2⟩)⟩, ⟨by (with_reducible repeat (first | apply Kd.R_alloc | apply Kd.R_drewN | apply Kd.R_drew)); exact Kd.R_mono HO_11.out (fun _ hk => ⟨hk.1.1, hk.2⟩)⟩, ⟨by exact bD BK101⟩, ⟨by exact bD BK116⟩, ⟨sD HB⟩⟩
        ·rw [if_neg c27] at H
         exact absurd H (by simp)
       ·rw [if_neg c26] at H
        exact absurd H (by simp)
      ·rw [if_neg c25] at H
       exact absurd H (by simp)
     ·rw [if_neg c24] at H
      exact absurd H (by simp)
   ·rw [if_neg c21] at H
    have c21b0 : decide (x12_1 < (t106.length : Int)) = false := decide_eq_false c21
    clear c21
    by_cases c41 : true = true
    ·clear c41
     have H1 : ((field_Gather.f k1 t103 x10_1 t109).bind fun bt136 => (if (bt136.1 == t110 && (bt136.2.1 == t111 && (bt136.2.2.1 == t112 && (bt136.2.2.2.1 == t113 && (bt136.2.2.2.2.1 == t114 && (bt136.2.2.2.2.2 == t115)))))) = true then ((field_Gather.f k1 t103 x11_1 t109).bind fun bt142 => (if (bt142.1 == t110 && (bt142.2.1 == t111 && (bt142.2.2.1 == t112 && (bt142.2.2.2.1 == t113 && (bt142.2.2.2.2.1 == t114 && (bt142.2.2.2.2.2 == t115)))))) = true then (if t110 = t109 then (if t114 ≥ 0 then (if t114 ≤ t113 then (if t113 ≤ t112 then (if t115 ≥ 0 then (some (decide (t111 ≤ (t103.length : Int)))) else (some false)) else (some false)) else (some false)) else (some false)) else (some false)) else (some false))) else (some false))) = some r := by first | (rw [if_pos rfl] at H; exact H) | (rw [if_pos trivial] at H; exact H)
     clear H; have H := H1; clear H1; replace H := Option.bind_eq_some_iff.mp H
     obtain ⟨⟨t136, t137, t138, t139, t140, t141⟩, A420, H⟩ := H
     replace H : (if (t136 == t110 && (t137 == t111 && (t138 == t112 && (t139 == t113 && (t140 == t114 && (t141 == t115)))))) = true then ((field_Gather.f k1 t103 x11_1 t109).bind fun bt142 => (if (bt142.1 == t110 && (bt142.2.1 == t111 && (bt142.2.2.1 == t112 && (bt142.2.2.2.1 == t113 && (bt142.2.2.2.2.1 == t114 && (bt142.2.2.2.2.2 == t115)))))) = true then (if t110 = t109 then (if t114 ≥ 0 then (if t114 ≤ t113 then (if t113 ≤ t112 then (if t115 ≥ 0 then (some (decide (t111 ≤ (t103.length : Int)))) else (some false)) else (some false)) else (some false)) else (some false)) else (some false)) else (some false))) else (some false)) = some r := H
     have A42 := aM A420; clear A420
     by_cases c43 : (t136 == t110 && (t137 == t111 && (t138 == t112 && (t139 == t113 && (t140 == t114 && (t141 == t115)))))) = true
     ·rw [if_pos c43] at H
      have c43b0 : (t136 == t110 && (t137 == t111 && (t138 == t112 && (t139 == t113 && (t140 == t114 && (t141 == t115)))))) = true := c43
      (try (have c43b1 : decide (t136 = t110 && (t137 == t111 && (t138 == t112 && (t139 == t113 && (t140 == t114 && (t141 == t115)))))) = true := by simpa using c43))
      (try (have c43b2 : (t136 == t110 && (t137 == t111 && (t138 == t112 && (t139 == t113 && (t140 == t114 && (t141 == t115)))))) = true := by simpa using c43))
      clear c43; replace H := Option.bind_eq_some_iff.mp H
      obtain ⟨⟨t142, t143, t144, t145, t146, t147⟩, A440, H⟩ := H
      replace H : (if (t142 == t110 && (t143 == t111 && (t144 == t112 && (t145 == t113 && (t146 == t114 && (t147 == t115)))))) = true then (if t110 = t109 then (if t114 ≥ 0 then (if t114 ≤ t113 then (if t113 ≤ t112 then (if t115 ≥ 0 then (some (decide (t111 ≤ (t103.length : Int)))) else (some false)) else (some false)) else (some false)) else (some false)) else (some false)) else (some false)) = some r := H
      have A44 := aM A440; clear A440
      by_cases c45 : (t142 == t110 && (t143 == t111 && (t144 == t112 && (t145 == t113 && (t146 == t114 && (t147 == t115)))))) = true
      ·rw [if_pos c45] at H
       have c45b0 : (t142 == t110 && (t143 == t111 && (t144 == t112 && (t145 == t113 && (t146 == t114 && (t147 == t115)))))) = true := c45
       (try (have c45b1 : decide (t142 = t110 && (t143 == t111 && (t144 == t112 && (t145 == t113 && (t146 == t114 && (t147 == t115)))))) = true := by simpa using c45))
       (try (have c45b2 : (t142 == t110 && (t143 == t111 && (t144 == t112 && (t145 == t113 && (t146 == t114 && (t147 == t115)))))) = true := by simpa using c45))
       clear c45
       by_cases c46 : t110 = t109
       ·rw [if_pos c46] at H
        have c46b0 : (t110 == t109) = true := beq_iff_eq.mpr c46
        have c46b1 : (t110 != t109) = false := bne_eq_false_iff_eq.mpr c46
        clear c46
        by_cases c47 : t114 ≥ 0
        ·rw [if_pos c47] at H
         have c47b0 : decide (0 ≤ t114) = true := decide_eq_true c47
         clear c47
         by_cases c48 : t114 ≤ t113
         ·rw [if_pos c48] at H
          have c48b0 : decide (t114 ≤ t113) = true := decide_eq_true c48
          clear c48
          by_cases c49 : t113 ≤ t112
          ·rw [if_pos c49] at H
           have c49b0 : decide (t113 ≤ t112) = true := decide_eq_true c49
           clear c49
           by_cases c50 : t115 ≥ 0
           ·rw [if_pos c50] at H
            have c50b0 : decide (0 ≤ t115) = true := decide_eq_true c50
            clear c50
            obtain rfl := Option.some.inj H
            try go_wp2
            replace HO_6 := aM (Kd.R_drew HO_6.out); replace HO_7 := aM (Kd.R_drew HO_7.out); replace HO_10 := aM (Kd.R_drew HO_10.out); replace HO_11 := aM (Kd.R_drew HO_11.out); replace BK101 := aM (blk_drew BK101.out); replace BK116 := aM (blk_drew BK116.out); replace HB := aM (below_drew1 HB.out)
            obtain ⟨Ao52, co52, eo52⟩ := Kd.R_slice HO_10.out
            (first | subst eo52 | (injection eo52 with f1_ f2_ f3_; have f4_ := f1_.symm; have f5_ := f3_.symm; clear f1_ f2_ f3_; subst f4_; subst f5_))
            refine start_ (n := 55) (S := fun w' => w'.cell? ⟨gb116, 0, none⟩ = some (.int .i64 t110) ∧ w'.cell? ⟨gb116, 1, none⟩ = some (.int .i64 t111) ∧ w'.cell? ⟨gb116, 2, none⟩ = some (.int .i64 t112) ∧ w'.cell? ⟨gb116, 3, none⟩ = some (.int .i64 t113) ∧ w'.cell? ⟨gb116, 4, none⟩ = some (.int .i64 t114) ∧ w'.cell? ⟨gb116, 5, none⟩ = some (.int .i64 t115)) (ds := []) #[false, false, false, false, false, false, false, false, false, false, false, false, false, false, false, false, false, false, false, false, false, false, false, false, false, false, false, false, false, false, false, false, false, false, false, false, false, false, false, false, false, false, false, false, false, false, false, false, false, false, false, false, false, false, false] (by kernel_rfl) rfl rfl ⟨cE BK116 0, cE BK116 1, cE BK116 2, cE BK116 3, cE BK116 4, cE BK116 5⟩ (fun hHeld => ?_); refine with_tabW parolelaw32_FieldOrder.tab15 parolelaw32_FieldOrder.bits15 (fun HT_ HW_ => ?_)
            generalize wr.drew = w51 at HO_6 HO_7 HO_10 HO_11 BK101 BK116 HB hHeld ⊢
            refine pX (i := 0) (N := some 67) rfl rfl HT_ ?_
            refine pX (i := 1) (N := some 68) rfl rfl HT_ ?_
            refine pX (i := 2) (N := some 69) rfl rfl HT_ ?_
            refine pX (i := 3) (N := some 70) rfl rfl HT_ ?_
            refine pX (i := 4) (N := some 71) rfl rfl HT_ ?_
            refine tX (i := 6) (N := some 73) rfl rfl HT_ HW_ hHeld (Or.inl ⟨by rfl, by rintro w' ⟨s0, s1, s2, s3, s4, s5⟩; go_simp; with_reducible rfl⟩) ?_
            refine oX (i := 5) (N := some 72) rfl rfl HT_ (fun K hK => ?_)
            refine gS Try.func19 #[.slice Ao11 t103.length co11, .slice Ao52 x10_1.length co52, .int .i64 t109] ?_
            with_reducible refine (field_Gather.calls k1 _ _ t103 _ _ x10_1 t109 t136 t137 t138 t139 t140 t141 _ ?side1 ?side2 ?side3 ?side4 A42.out).mono ?_
            (case side1 => exact rC HO_6)
            (case side2 => exact rN HO_6)
            (case side3 => exact rC HO_10)
            (case side4 => exact rN HO_10)
            rintro e w53 ⟨rfl, hb⟩
            refine ⟨_, rfl, ?_⟩
            replace HO_6 := rB HO_6 hb; replace HO_7 := rB HO_7 hb; replace HO_10 := rB HO_10 hb; replace HO_11 := rB HO_11 hb; replace BK101 := bB BK101 hb; replace BK116 := bB BK116 hb; replace HB := sB HB hb; (try clear hb); (try clear hb2); (try clear hk); (try clear hi)
            obtain ⟨Ao54, co54, eo54⟩ := Kd.R_slice HO_11.out
            (first | subst eo54 | (injection eo54 with f1_ f2_ f3_; have f4_ := f1_.symm; have f5_ := f3_.symm; clear f1_ f2_ f3_; subst f4_; subst f5_))
            refine hK.out _ _ ⟨cE BK116 0, cE BK116 1, cE BK116 2, cE BK116 3, cE BK116 4, cE BK116 5⟩ (fun hHeld => ?_)
            clear hK K
            refine nX (some 72) ?_
            refine pX (i := 7) (N := some 74) rfl rfl HT_ ?_
            refine pX (i := 8) (N := some 75) rfl rfl HT_ ?_
            refine pX (i := 9) (N := some 76) rfl rfl HT_ ?_
            refine pX (i := 10) (N := some 77) rfl rfl HT_ ?_
            refine pX (i := 11) (N := some 78) rfl rfl HT_ ?_
            refine pX (i := 12) (N := some 79) rfl rfl HT_ ?_
            refine tX (i := 14) (N := some 81) rfl rfl HT_ HW_ hHeld (Or.inl ⟨by rfl, by rintro w' ⟨s0, s1, s2, s3, s4, s5⟩; go_simp; with_reducible rfl⟩) ?_
            refine oX (i := 13) (N := some 80) rfl rfl HT_ (fun K hK => ?_)
            refine gS Try.func19 #[.slice Ao11 t103.length co11, .slice Ao54 x11_1.length co54, .int .i64 t109] ?_
            with_reducible refine (field_Gather.calls k1 _ _ t103 _ _ x11_1 t109 t142 t143 t144 t145 t146 t147 _ ?side1 ?side2 ?side3 ?side4 A44.out).mono ?_
            (case side1 => exact rC HO_6)
            (case side2 => exact rN HO_6)
            (case side3 => exact rC HO_11)
            (case side4 => exact rN HO_11)
            rintro e w55 ⟨rfl, hb⟩
            refine ⟨_, rfl, ?_⟩
            replace HO_6 := rB HO_6 hb; replace HO_7 := rB HO_7 hb; replace HO_10 := rB HO_10 hb; replace HO_11 := rB HO_11 hb; replace BK101 := bB BK101 hb; replace BK116 := bB BK116 hb; replace HB := sB HB hb; (try clear hb); (try clear hb2); (try clear hk); (try clear hi)
            refine hK.out _ _ ⟨cE BK116 0, cE BK116 1, cE BK116 2, cE BK116 3, cE BK116 4, cE BK116 5⟩ (fun hHeld => ?_)
            clear hK K
            refine nX (some 80) ?_
            refine pX (i := 15) (N := some 82) rfl rfl HT_ ?_
            refine pX (i := 16) (N := some 83) rfl rfl HT_ ?_
            refine pX (i := 17) (N := some 84) rfl rfl HT_ ?_
            refine pX (i := 18) (N := some 85) rfl rfl HT_ ?_
            refine pX (i := 20) (N := some 87) rfl rfl HT_ ?_
            refine tX (i := 19) (N := some 86) rfl rfl HT_ HW_ hHeld (Or.inl ⟨by rfl, by rintro w' ⟨s0, s1, s2, s3, s4, s5⟩; go_simp; with_reducible rfl⟩) ?_
            refine pX (i := 21) (N := some 88) rfl rfl HT_ ?_
            refine pX (i := 22) (N := some 89) rfl rfl HT_ ?_
            refine pX (i := 23) (N := some 90) rfl rfl HT_ ?_
            refine pX (i := 24) (N := some 91) rfl rfl HT_ ?_
            refine tX (i := 25) (N := some 92) rfl rfl HT_ HW_ hHeld (Or.inl ⟨by rfl, by rintro w' ⟨s0, s1, s2, s3, s4, s5⟩; go_simp; with_reducible rfl⟩) ?_
            refine pX (i := 26) (N := some 93) rfl rfl HT_ ?_
            refine pX (i := 27) (N := some 94) rfl rfl HT_ ?_
            refine pX (i := 28) (N := some 95) rfl rfl HT_ ?_
            refine pX (i := 29) (N := some 96) rfl rfl HT_ ?_
            refine pX (i := 31) (N := some 98) rfl rfl HT_ ?_
            refine tX (i := 30) (N := some 97) rfl rfl HT_ HW_ hHeld (Or.inl ⟨by rfl, by rintro w' ⟨s0, s1, s2, s3, s4, s5⟩; go_simp; with_reducible rfl⟩) ?_
            refine tX (i := 32) (N := some 99) rfl rfl HT_ HW_ hHeld (Or.inl ⟨by rfl, by rintro w' ⟨s0, s1, s2, s3, s4, s5⟩; go_simp; with_reducible rfl⟩) ?_
            refine pX (i := 33) (N := some 100) rfl rfl HT_ ?_
            refine pX (i := 34) (N := some 101) rfl rfl HT_ ?_
            refine pX (i := 35) (N := some 102) rfl rfl HT_ ?_
            refine pX (i := 36) (N := some 103) rfl rfl HT_ ?_
            refine pX (i := 38) (N := some 105) rfl rfl HT_ ?_
            refine tX (i := 37) (N := some 104) rfl rfl HT_ HW_ hHeld (Or.inl ⟨by rfl, by rintro w' ⟨s0, s1, s2, s3, s4, s5⟩; go_simp; with_reducible rfl⟩) ?_
            refine tX (i := 39) (N := some 106) rfl rfl HT_ HW_ hHeld (Or.inl ⟨by rfl, by rintro w' ⟨s0, s1, s2, s3, s4, s5⟩; go_simp; with_reducible rfl⟩) ?_
            refine pX (i := 40) (N := some 107) rfl rfl HT_ ?_
            refine pX (i := 41) (N := some 108) rfl rfl HT_ ?_
            refine pX (i := 42) (N := some 109) rfl rfl HT_ ?_
            refine pX (i := 43) (N := some 110) rfl rfl HT_ ?_
            refine tX (i := 44) (N := some 111) rfl rfl HT_ HW_ hHeld (Or.inl ⟨by rfl, by rintro w' ⟨s0, s1, s2, s3, s4, s5⟩; go_simp; with_reducible rfl⟩) ?_
            refine pX (i := 45) (N := some 112) rfl rfl HT_ ?_
            refine pX (i := 46) (N := some 113) rfl rfl HT_ ?_
            refine pX (i := 47) (N := some 114) rfl rfl HT_ ?_
            refine pX (i := 48) (N := some 115) rfl rfl HT_ ?_
            refine pX (i := 50) (N := some 117) rfl rfl HT_ ?_
            refine pX (i := 51) (N := some 118) rfl rfl HT_ ?_
            refine tX (i := 49) (N := some 116) rfl rfl HT_ HW_ hHeld (Or.inl ⟨by rfl, by rintro w' ⟨s0, s1, s2, s3, s4, s5⟩; go_simp; with_reducible rfl⟩) ?_
            refine pX (i := 52) (N := some 119) rfl rfl HT_ ?_
            refine pX (i := 53) (N := some 120) rfl rfl HT_ ?_
            refine pX (i := 54) (N := some 4) rfl rfl HT_ ?_
            refine done_ (done_of HT_.out (by kernel_rfl)) ?_
            try go_wp2
            go_ret
            exact ⟨by first | rfl | (simp [errW_none, errW_some] <;> rfl) | (simp [*, errW_none, errW_some] <;> rfl), sD HB⟩
           ·rw [if_neg c50] at H
            have c50b0 : decide (0 ≤ t115) = false := decide_eq_false c50
            clear c50
            exact absurd ((Option.some.inj H).trans HT.out) (by decide)
          ·rw [if_neg c49] at H
           have c49b0 : decide (t113 ≤ t112) = false := decide_eq_false c49
           clear c49
           exact absurd ((Option.some.inj H).trans HT.out) (by decide)
         ·rw [if_neg c48] at H
          have c48b0 : decide (t114 ≤ t113) = false := decide_eq_false c48
          clear c48
          exact absurd ((Option.some.inj H).trans HT.out) (by decide)
        ·rw [if_neg c47] at H
         have c47b0 : decide (0 ≤ t114) = false := decide_eq_false c47
         clear c47
         exact absurd ((Option.some.inj H).trans HT.out) (by decide)
       ·rw [if_neg c46] at H
        have c46b0 : (t110 == t109) = false := beq_eq_false_iff_ne.mpr c46
        have c46b1 : (t110 != t109) = true := bne_iff_ne.mpr c46
        exact absurd ((Option.some.inj H).trans HT.out) (by decide)
      ·rw [if_neg c45] at H
       have c45b0 : (t142 == t110 && (t143 == t111 && (t144 == t112 && (t145 == t113 && (t146 == t114 && (t147 == t115)))))) = false := by simpa using c45
       (try (have c45b1 : decide (t142 = t110 && (t143 == t111 && (t144 == t112 && (t145 == t113 && (t146 == t114 && (t147 == t115)))))) = false := by simpa using c45))
       (try (have c45b2 : (t142 == t110 && (t143 == t111 && (t144 == t112 && (t145 == t113 && (t146 == t114 && (t147 == t115)))))) = false := by simpa using c45))
       (try (have c45b3 : ¬ (t142 = t110 && (t143 == t111 && (t144 == t112 && (t145 == t113 && (t146 == t114 && (t147 == t115)))))) := by simpa using c45))
       clear c45
       exact absurd ((Option.some.inj H).trans HT.out) (by decide)
     ·rw [if_neg c43] at H
      have c43b0 : (t136 == t110 && (t137 == t111 && (t138 == t112 && (t139 == t113 && (t140 == t114 && (t141 == t115)))))) = false := by simpa using c43
      (try (have c43b1 : decide (t136 = t110 && (t137 == t111 && (t138 == t112 && (t139 == t113 && (t140 == t114 && (t141 == t115)))))) = false := by simpa using c43))
      (try (have c43b2 : (t136 == t110 && (t137 == t111 && (t138 == t112 && (t139 == t113 && (t140 == t114 && (t141 == t115)))))) = false := by simpa using c43))
      (try (have c43b3 : ¬ (t136 = t110 && (t137 == t111 && (t138 == t112 && (t139 == t113 && (t140 == t114 && (t141 == t115)))))) := by simpa using c43))
      clear c43
      exact absurd ((Option.some.inj H).trans HT.out) (by decide)
    ·exact absurd rfl c41
/-- THE ONE PURE STATEMENT of parolelaw32_FieldOrder. -/
def parolelaw32_FieldOrder.Pure : Prop := ∀ (a0_0 : Int) (l0_1 : List (S58)) (a0_2 : Int) (a1 : Int), ((Lit.int .u8 a0_0).wf = true ∧ (l0_1.length ≤ maxLen ∧ ∀ x148 ∈ l0_1, (((Lit.int .u8 x148.f0.f0).wf = true ∧ (Lit.int .u8 x148.f0.f1).wf = true ∧ (Lit.int .u8 x148.f0.f2).wf = true ∧ (Lit.int .u8 x148.f0.f3).wf = true ∧ (Lit.int .u8 x148.f0.f4).wf = true ∧ (Lit.int .u8 x148.f0.f5).wf = true))) ∧ (Lit.int .u8 a0_2).wf = true) → (Lit.int .u8 a1).wf = true → ∃ k, parolelaw32_FieldOrder.f k a0_0 l0_1 a0_2 a1 = some true
end Go.Proofs.Ytfdoncgljohndaa.P
namespace Go.Proofs.Ytfdoncgljohndaa.R
open Go.RowKit Go.Proofs.Ytfdoncgljohndaa.P Go.Proofs.YtfdoncgljohndaaW.PrintWords Go.Proofs.YtfdoncgljohndaaW.PrintLast Go.Proofs.YtfdoncgljohndaaW.PrintMore
theorem wrap64_of {n : Int} (h0 : -9223372036854775808 ≤ n) (h1 : n ≤ 9223372036854775807) : wrap64 n = n := by
 unfold wrap64
 omega
theorem u64_of {n : Int} (h0 : 0 ≤ n) (h1 : n ≤ 18446744073709551615) : IntKind.u64.wrap n = n := by
 unfold IntKind.wrap
 simp [IntKind.signed, IntKind.bits]
 omega
theorem u64_def (n : Int) : IntKind.u64.wrap n = n % 18446744073709551616 := by
 unfold IntKind.wrap
 simp [IntKind.signed, IntKind.bits]
theorem Ev.pos {α : Type} {c : Prop} [Decidable c] {g f : Nat → Option α} {r : α} (hc : c) (h : Ev g r) : Ev (fun n => if c then g n else f n) r := Ev.congr (fun _ => if_pos hc) h
theorem Ev.neg {α : Type} {c : Prop} [Decidable c] {g f : Nat → Option α} {r : α} (hc : ¬ c) (h : Ev f r) : Ev (fun n => if c then g n else f n) r := Ev.congr (fun _ => if_neg hc) h
theorem Ev.succ {α : Type} {g : Nat → Option α} {r : α} (h : Ev (fun k => g (k + 1)) r) : Ev g r := Ev.step (fun _ => rfl) h
theorem Ev.const {α : Type} {o : Option α} {r : α} (h : o = some r) : Ev (fun _ => o) r := ⟨0, fun _ _ => h⟩
theorem Ev.cbind {α β : Type} {o : Option α} {f : Nat → α → Option β} {a : α} {r : β} (h : o = some a) (k : Ev (fun n => f n a) r) : Ev (fun n => o.bind (f n)) r := Ev.bind (Ev.const h) k
end Go.Proofs.Ytfdoncgljohndaa.R
namespace Go.Fld
/-- The step of a digest, on natural numbers. -/
def stepN (h w : Nat) : Nat :=
 let x := ((h ^^^ w) * 11400714819323198485) % 18446744073709551616
 let y := ((x ^^^ (x >>> 29)) * 13787848793156543929) % 18446744073709551616
 y ^^^ (y >>> 32)
theorem xor_lt {a b : Nat} (ha : a < 18446744073709551616) (hb : b < 18446744073709551616) : a ^^^ b < 18446744073709551616 := Nat.xor_lt_two_pow (n := 64) ha hb
theorem shr_lt {a : Nat} (s : Nat) (ha : a < 18446744073709551616) : a >>> s < 18446744073709551616 := by
 rw [Nat.shiftRight_eq_div_pow]; exact Nat.lt_of_le_of_lt (Nat.div_le_self _ _) ha
theorem stepN_lt (h w : Nat) : stepN h w < 18446744073709551616 := by
 unfold stepN
 exact xor_lt (Nat.mod_lt _ (by decide)) (shr_lt _ (Nat.mod_lt _ (by decide)))
theorem bits_xor_u64 {a b : Nat} (ha : a < 18446744073709551616) (hb : b < 18446744073709551616) : bits .xor .u64 (a : Int) (b : Int) = ((a ^^^ b : Nat) : Int) := by
 have ha' : a % 2 ^ 64 = a := Nat.mod_eq_of_lt ha
 have hb' : b % 2 ^ 64 = b := Nat.mod_eq_of_lt hb
 have hk : IntKind.u64.bits = 64 := rfl
 simp only [bits, hk, BitVec.ofInt_natCast, BitVec.toNat_xor, BitVec.toNat_ofNat, ha', hb']
 simp only [IntKind.wrap, IntKind.bits, IntKind.signed]
 have := xor_lt ha hb
 simp
 omega
end Go.Fld
namespace Go.Proofs.Ytfdoncgljohndaa.R
open Go.RowKit Go.Fld Go.Proofs.Ytfdoncgljohndaa.P Go.Proofs.YtfdoncgljohndaaW.PrintWords Go.Proofs.YtfdoncgljohndaaW.PrintLast Go.Proofs.YtfdoncgljohndaaW.PrintMore
/-- A number of 64 bits, as_ a natural number. -/
def u (w : Int) : Nat := (w % 18446744073709551616).toNat
theorem u_lt (w : Int) : u w < 18446744073709551616 := by unfold u; omega
theorem u_wrap (w : Int) : IntKind.u64.wrap w = (u w : Int) := by rw [u64_def]; unfold u; omega
theorem step_of (h w : Nat) (hh : h < 18446744073709551616) (hw : w < 18446744073709551616) : digest_Step.f (h : Int) (w : Int) = some (stepN h w : Int) := by
 have x0 := xor_lt hh hw
 have e0 := bits_xor_u64 hh hw
 have l : ∀ n : Nat, n % 18446744073709551616 < 18446744073709551616 := fun n => Nat.mod_lt _ (by decide)
 have m1 : IntKind.u64.wrap (((h ^^^ w : Nat) : Int) * 11400714819323198485) = (((h ^^^ w) * 11400714819323198485 % 18446744073709551616 : Nat) : Int) := by rw [u64_def]; omega
 obtain ⟨x, hx⟩ : ∃ x, x = (h ^^^ w) * 11400714819323198485 % 18446744073709551616 := ⟨_, rfl⟩
 have lx : x < 18446744073709551616 := by rw [hx]; exact l _
 have d1 : (x : Int) / (536870912 : Int) = ((x >>> 29 : Nat) : Int) := by rw [Nat.shiftRight_eq_div_pow]; omega
 have e1 := bits_xor_u64 lx (shr_lt 29 lx)
 have m2 : IntKind.u64.wrap (((x ^^^ (x >>> 29) : Nat) : Int) * 13787848793156543929) = (((x ^^^ (x >>> 29)) * 13787848793156543929 % 18446744073709551616 : Nat) : Int) := by rw [u64_def]; omega
 obtain ⟨y, hy⟩ : ∃ y, y = (x ^^^ (x >>> 29)) * 13787848793156543929 % 18446744073709551616 := ⟨_, rfl⟩
 have ly : y < 18446744073709551616 := by rw [hy]; exact l _
 have d2 : (y : Int) / (4294967296 : Int) = ((y >>> 32 : Nat) : Int) := by rw [Nat.shiftRight_eq_div_pow]; omega
 have e2 := bits_xor_u64 ly (shr_lt 32 ly)
 unfold digest_Step.f
 rw [e0, m1, ← hx, d1, e1, m2, ← hy, d2, e2]
 unfold stepN
 rw [← hx]
 simp only []
 rw [← hy]
/-- The digest of a list, from h on. -/
def wordsFrom (h : Nat) (l : List Int) : Nat := l.foldl (fun h w => stepN h (u w)) h
def wordsN (l : List Int) : Nat := wordsFrom (stepN 2611923443488327891 l.length) l
theorem wordsFrom_lt (l : List Int) : ∀ h, h < 18446744073709551616 → wordsFrom h l < 18446744073709551616 := by
 induction l with
 | nil => intro h hh; exact hh
 | cons x l ih => intro h hh; exact ih _ (stepN_lt _ _)
theorem wordsN_lt (l : List Int) : wordsN l < 18446744073709551616 := wordsFrom_lt _ _ (stepN_lt _ _)
theorem words_l0 (l : List Int) (hl : l.length < 1000000000) : ∀ (d i h : Nat), i + d = l.length → h < 18446744073709551616 → Ev (fun k => digest_Words.l0 k (h : Int) l (l.length : Int) (i : Int)) (wordsFrom h (l.drop i) : Int) := by
 intro d
 induction d with
 | zero =>
  intro i h hi hh
  refine Ev.succ ?_
  simp only [digest_Words.l0]
  refine Ev.neg (by omega) ?_
  rw [List.drop_eq_nil_of_le (by omega)]
  exact Ev.now _
 | succ d ih =>
  intro i h hi hh
  refine Ev.succ ?_
  simp only [digest_Words.l0]
  have hlt : i < l.length := by omega
  have er : rd l (i : Int) = l[i] := by unfold rd; simp [hlt]
  have hw : wrap64 ((i : Int) + 1) = ((i + 1 : Nat) : Int) := by rw [wrap64_of (by omega) (by omega)]; omega
  refine Ev.pos (by omega) (Ev.pos (by omega) (Ev.pos (by omega) ?_))
  rw [er, u_wrap, hw, List.drop_eq_getElem_cons hlt]
  refine Ev.cbind (step_of h _ hh (u_lt _)) ?_
  exact ih (i + 1) _ (by omega) (stepN_lt _ _)
theorem ev_Words (l : List Int) (hl : l.length < 1000000000) : Ev (fun k => digest_Words.f k l) (wordsN l : Int) := by
 unfold digest_Words.f
 rw [u64_of (by omega) (by omega)]
 refine Ev.cbind (step_of 2611923443488327891 l.length (by decide) (by omega)) ?_
 exact words_l0 l hl l.length 0 _ (by omega) (stepN_lt _ _)
theorem rwords_l0 (l : List Int) (hl : l.length < 1000000000) : ∀ (d i h : Nat), i + d = l.length → h < 18446744073709551616 → Ev (fun k => paroleref03_Words.l0 k l (h : Int) (i : Int)) (wordsFrom h (l.drop i) : Int) := by
 intro d
 induction d with
 | zero =>
  intro i h hi hh
  refine Ev.succ ?_
  simp only [paroleref03_Words.l0]
  refine Ev.neg (by omega) ?_
  rw [List.drop_eq_nil_of_le (by omega)]
  exact Ev.now _
 | succ d ih =>
  intro i h hi hh
  refine Ev.succ ?_
  simp only [paroleref03_Words.l0]
  have hlt : i < l.length := by omega
  have er : rd l (i : Int) = l[i] := by unfold rd; simp [hlt]
  have hw : wrap64 ((i : Int) + 1) = ((i + 1 : Nat) : Int) := by rw [wrap64_of (by omega) (by omega)]; omega
  refine Ev.pos (by omega) (Ev.pos (by omega) ?_)
  rw [er, u_wrap, hw, List.drop_eq_getElem_cons hlt]
  refine Ev.cbind (step_of h _ hh (u_lt _)) ?_
  exact ih (i + 1) _ (by omega) (stepN_lt _ _)
theorem ev_RWords (l : List Int) (hl : l.length < 1000000000) : Ev (fun k => paroleref03_Words.f k l) (wordsN l : Int) := by
 unfold paroleref03_Words.f
 rw [u64_of (by omega) (by omega)]
 refine Ev.cbind (step_of 2611923443488327891 l.length (by decide) (by omega)) ?_
 exact rwords_l0 l hl l.length 0 _ (by omega) (stepN_lt _ _)
def joinN (a b : Nat) : Nat := stepN (stepN 11820040416388919760 a) b
theorem join_of (a b : Nat) (ha : a < 18446744073709551616) (hb : b < 18446744073709551616) : digest_Join.f (a : Int) (b : Int) = some (joinN a b : Int) := by
 unfold digest_Join.f
 have h1 := step_of 11820040416388919760 a (by decide) ha
 have h2 := step_of (stepN 11820040416388919760 a) b (stepN_lt _ _) hb
 rw [show ((11820040416388919760 : Nat) : Int) = 11820040416388919760 from rfl] at h1
 rw [h1, Option.bind_some, h2, Option.bind_some]
 rfl
theorem rjoin_of (a b : Nat) (ha : a < 18446744073709551616) (hb : b < 18446744073709551616) : paroleref03_Join.f (a : Int) (b : Int) = some (joinN a b : Int) := join_of a b ha hb
/-- The tag of a report. -/
def nums (c : S28) : List Int := [c.f0, c.f1, c.f2, c.f3, c.f4, c.f5]
def tagN (key : Nat) (c : S28) : Nat := joinN key (wordsN (nums c))
theorem ev_Tag (key : Nat) (hk : key < 18446744073709551616) (c : S28) : Ev (fun k => field_Tag.f k (key : Int) c.f0 c.f1 c.f2 c.f3 c.f4 c.f5 c.f6) (tagN key c : Int) := by
 unfold field_Tag.f
 refine Ev.bind (ev_Words _ (by simp)) (Ev.cbind (join_of _ _ hk (wordsN_lt _)) (Ev.now _))
theorem ev_RTag (key : Nat) (hk : key < 18446744073709551616) (c : S28) : Ev (fun k => paroleref32_Tag.f k (key : Int) c.f0 c.f1 c.f2 c.f3 c.f4 c.f5 c.f6) (tagN key c : Int) := by
 unfold paroleref32_Tag.f
 refine Ev.bind (ev_RWords _ (by simp)) (Ev.cbind (rjoin_of _ _ hk (wordsN_lt _)) (Ev.now _))
def signN (key : Nat) (c : S28) : S28 := ⟨c.f0, c.f1, c.f2, c.f3, c.f4, c.f5, (tagN key c : Int)⟩
def tup (c : S28) : Int × Int × Int × Int × Int × Int × Int := (c.f0, c.f1, c.f2, c.f3, c.f4, c.f5, c.f6)
theorem ev_RSign (key : Nat) (hk : key < 18446744073709551616) (c : S28) : Ev (fun k => paroleref32_Sign.f k (key : Int) c.f0 c.f1 c.f2 c.f3 c.f4 c.f5 c.f6) (tup (signN key c)) := by
 unfold paroleref32_Sign.f
 exact Ev.bind (ev_RTag key hk c) (Ev.now _)
/-- The keys, as_ natural numbers. -/
def KeysOk (keys : List Int) : Prop := ∀ x ∈ keys, 0 ≤ x ∧ x < 18446744073709551616
def keyAt (keys : List Int) (i : Int) : Nat := (rd keys i).toNat
theorem key_at {keys : List Int} (h : KeysOk keys) {i : Int} (h0 : 0 ≤ i) (h1 : i < keys.length) : rd keys i = (keyAt keys i : Int) ∧ keyAt keys i < 18446744073709551616 := by
 have hm : rd keys i ∈ keys := by
  unfold rd
  rw [List.getD_eq_getElem?_getD, List.getElem?_eq_getElem (show i.toNat < keys.length by omega)]
  exact List.getElem_mem _
 have := h _ hm
 unfold keyAt
 omega
def shapeB (n : Nat) (c : S28) : Bool := decide (0 ≤ c.f0) && decide (c.f0 < (n : Int)) && decide (1 ≤ c.f1) && decide (c.f1 ≤ 1073741824) && decide (0 ≤ c.f5) && decide (c.f5 ≤ c.f4) && decide (c.f4 ≤ c.f3) && decide (c.f3 ≤ 1099511627776)
def rightB (keys : List Int) (c : S28) : Bool := shapeB keys.length c && (c.f6 == (tagN (keyAt keys c.f0) c : Int))
theorem shapeB_iff {n : Nat} {c : S28} : shapeB n c = true ↔ (0 ≤ c.f0 ∧ c.f0 < n ∧ 1 ≤ c.f1 ∧ c.f1 ≤ 1073741824 ∧ 0 ≤ c.f5 ∧ c.f5 ≤ c.f4 ∧ c.f4 ≤ c.f3 ∧ c.f3 ≤ 1099511627776) := by
 unfold shapeB
 simp only [Bool.and_eq_true, decide_eq_true_eq]
 omega
theorem ev_Right {keys : List Int} (hk : KeysOk keys) (c : S28) : Ev (fun k => okR k keys c) (if rightB keys c = true then 0 else 320) := by
 unfold okR field_Right.f
 have j1t : Ev (fun k => field_Right.j1 k keys true c.f0 c.f1 c.f2 c.f3 c.f4 c.f5 c.f6) 320 := by
  refine Ev.succ ?_
  unfold field_Right.j1
  exact Ev.pos rfl (Ev.now _)
 have j2t : Ev (fun k => field_Right.j2 k keys true c.f0 c.f1 c.f2 c.f3 c.f4 c.f5 c.f6) 320 := by
  refine Ev.succ ?_
  unfold field_Right.j2
  exact Ev.pos rfl (Ev.now _)
 have j0t : Ev (fun k => field_Right.j0 k keys true c.f0 c.f1 c.f2 c.f3 c.f4 c.f5 c.f6) 320 := by
  refine Ev.succ ?_
  unfold field_Right.j0
  exact Ev.pos rfl j1t
 by_cases hs : shapeB keys.length c = true
 ·have hs' := shapeB_iff.1 hs
  refine Ev.neg (by omega) ?_
  rw [decide_eq_false (by omega)]
  refine Ev.succ ?_
  simp only [field_Right.j0]
  refine Ev.neg (by simp) (Ev.neg (by omega) ?_)
  rw [decide_eq_false (by omega)]
  refine Ev.succ ?_
  simp only [field_Right.j1]
  refine Ev.neg (by simp) (Ev.neg (by omega) (Ev.neg (by omega) (Ev.neg (by omega) ?_)))
  rw [decide_eq_false (by omega)]
  refine Ev.succ ?_
  simp only [field_Right.j2]
  refine Ev.neg (by simp) (Ev.pos (by omega) (Ev.pos (by omega) ?_))
  obtain ⟨e, hlt⟩ := key_at hk hs'.1 hs'.2.1
  rw [e]
  refine Ev.bind (ev_Tag _ hlt c) ?_
  unfold rightB
  rw [hs, Bool.true_and]
  by_cases ht : c.f6 = (tagN (keyAt keys c.f0) c : Int)
  ·rw [if_pos (beq_iff_eq.2 ht)]
   exact Ev.pos ht (Ev.now _)
  ·rw [if_neg (fun e => ht (beq_iff_eq.1 e))]
   exact Ev.neg ht (Ev.now _)
 ·have hr : rightB keys c = false := by unfold rightB; rw [Bool.not_eq_true] at hs; rw [hs]; rfl
  rw [hr, if_neg (by simp)]
  rw [shapeB_iff] at hs
  by_cases h0 : c.f0 < 0
  ·exact Ev.pos h0 j0t
  refine Ev.neg h0 ?_
  by_cases h1 : c.f0 ≥ (keys.length : Int)
  ·rw [decide_eq_true h1]; exact j0t
  rw [decide_eq_false h1]
  refine Ev.succ ?_
  simp only [field_Right.j0]
  refine Ev.neg (by simp) ?_
  by_cases h2 : c.f1 < 1
  ·exact Ev.pos h2 j1t
  refine Ev.neg h2 ?_
  by_cases h3 : c.f1 > 1073741824
  ·rw [decide_eq_true h3]; exact j1t
  rw [decide_eq_false h3]
  refine Ev.succ ?_
  simp only [field_Right.j1]
  refine Ev.neg (by simp) ?_
  by_cases h4 : c.f5 < 0
  ·exact Ev.pos h4 j2t
  refine Ev.neg h4 ?_
  by_cases h5 : c.f4 < c.f5
  ·exact Ev.pos h5 j2t
  refine Ev.neg h5 ?_
  by_cases h6 : c.f3 < c.f4
  ·exact Ev.pos h6 j2t
  refine Ev.neg h6 ?_
  by_cases h7 : c.f3 > 1099511627776
  ·rw [decide_eq_true h7]; exact j2t
  exact absurd ⟨by omega, by omega, by omega, by omega, by omega, by omega, by omega, by omega⟩ hs
/-- Of all elements of a list at one number of rounds. -/
theorem ev_all {α β : Type} (l : List α) (g : α → Nat → Option β) (f : α → β) (h : ∀ x ∈ l, Ev (g x) (f x)) : ∃ K, ∀ k, K ≤ k → ∀ x ∈ l, g x k = some (f x) := by
 induction l with
 | nil => exact ⟨0, by simp⟩
 | cons a l ih =>
  obtain ⟨K, hK⟩ := ih (fun x hx => h x (by simp [hx]))
  obtain ⟨J, hJ⟩ := h a (by simp)
  refine ⟨max K J, fun k hk x hx => ?_⟩
  rcases List.mem_cons.1 hx with rfl | hx
  ·exact hJ k (by omega)
  ·exact hK k (by omega) x hx
/-- The evidence. -/
def accB (keys : List Int) (p : Int) (c : S28) : Bool := c.f2 == p && rightB keys c
def evid (keys : List Int) (l : List S28) (p : Int) : Int × Int × Int × Int × Int × Int := gathR (l.filter (accB keys p)) p
theorem ev_Gather {keys : List Int} (hk : KeysOk keys) (l : List S28) (p : Int) (h1 : keys.length ≤ 1000000) (h2 : l.length ≤ 1000) : Ev (fun k => field_Gather.f k keys l p) (evid keys l p) := by
 obtain ⟨K, hK⟩ := ev_all l (fun c k => okR k keys c) _ (fun c _ => ev_Right hk c)
 refine ⟨K, fun k hk' => ?_⟩
 show field_Gather.f k keys l p = _
 unfold field_Gather.f evid
 rw [if_pos ⟨h1, h2, by
  rw [List.all_eq_true]
  intro c hc
  rw [hK k hk' c hc]
  simp⟩]
 congr 2
 refine List.filter_congr fun c hc => ?_
 unfold accR accB
 rw [hK k hk' c hc]
 cases rightB keys c <;> simp
end Go.Proofs.Ytfdoncgljohndaa.R
namespace Go.Proofs.Ytfdoncgljohndaa.R
open Go.RowKit Go.Fld Go.Proofs.Ytfdoncgljohndaa.P Go.Proofs.YtfdoncgljohndaaW.PrintWords Go.Proofs.YtfdoncgljohndaaW.PrintLast Go.Proofs.YtfdoncgljohndaaW.PrintMore
theorem wf_u8 {n : Int} (h : (Lit.int .u8 n).wf = true) : 0 ≤ n ∧ n ≤ 255 := by
 simp only [Lit.wf, IntKind.min, IntKind.max, IntKind.signed, IntKind.bits, Bool.and_eq_true] at h
 simpa using h
theorem wf_i64 {n : Int} (h : (Lit.int .i64 n).wf = true) : -9223372036854775808 ≤ n ∧ n ≤ 9223372036854775807 := by
 simp only [Lit.wf, IntKind.min, IntKind.max, IntKind.signed, IntKind.bits, Bool.and_eq_true] at h
 simpa using h
def keyN (i : Nat) : Int := (wordsN [(i : Int), 77] : Int)
def keysFrom : Nat → Nat → List Int
 | _, 0 => []
 | i, d + 1 => keyN i :: keysFrom (i + 1) d
def keysN (n : Nat) : List Int := keysFrom 0 n
theorem keysFrom_length : ∀ d i, (keysFrom i d).length = d
 | 0, _ => rfl
 | d + 1, i => by simp [keysFrom, keysFrom_length d]
theorem keysN_length (n : Nat) : (keysN n).length = n := keysFrom_length n 0
theorem keysFrom_ok : ∀ d i, KeysOk (keysFrom i d)
 | 0, _ => fun x hx => by simp [keysFrom] at hx
 | d + 1, i => fun x hx => by
  rcases List.mem_cons.1 hx with rfl | hx
  ·have := wordsN_lt [(i : Int), 77]; unfold keyN; omega
  ·exact keysFrom_ok d (i + 1) x hx
theorem keysN_ok (n : Nat) : KeysOk (keysN n) := keysFrom_ok n 0
theorem keys_l0 : ∀ (d i : Nat) (acc : List Int), acc.length + d < 1000 → i + d < 1000 → Ev (fun k => paroleref32_Keys.l0 k ((i + d : Nat) : Int) acc (i : Int)) (acc ++ keysFrom i d)
 | 0, i, acc, h, h2 => by
  refine Ev.succ ?_
  simp only [paroleref32_Keys.l0, keysFrom, List.append_nil]
  exact Ev.neg (by omega) (Ev.now _)
 | d + 1, i, acc, h, h2 => by
  refine Ev.succ ?_
  simp only [paroleref32_Keys.l0, keysFrom]
  have hw : wrap64 ((i : Int) + 1) = ((i + 1 : Nat) : Int) := by rw [wrap64_of (by omega) (by omega)]; omega
  refine Ev.pos (by omega) (Ev.bind (ev_RWords [(i : Int), 77] (by simp)) (Ev.pos (by omega) ?_))
  rw [hw]
  have := keys_l0 d (i + 1) (acc ++ [keyN i]) (by simp; omega) (by omega)
  rw [show i + 1 + d = i + (d + 1) by omega] at this
  simpa [keyN] using this
theorem ev_Keys (n : Nat) (hn : n < 1000) : Ev (fun k => paroleref32_Keys.f k (n : Int)) (keysN n) := by
 have := keys_l0 n 0 [] (by simpa using hn) (by omega)
 simpa [paroleref32_Keys.f, keysN] using this
def rawOk (x : S58) : Prop := (0 ≤ x.f0.f0 ∧ x.f0.f0 ≤ 255) ∧ (0 ≤ x.f0.f1 ∧ x.f0.f1 ≤ 255) ∧ (0 ≤ x.f0.f2 ∧ x.f0.f2 ≤ 255) ∧ (0 ≤ x.f0.f3 ∧ x.f0.f3 ≤ 255) ∧ (0 ≤ x.f0.f4 ∧ x.f0.f4 ≤ 255) ∧ (0 ≤ x.f0.f5 ∧ x.f0.f5 ≤ 255)
def bareR (n : Int) (x : S58) : S28 := ⟨x.f0.f0 % n, 1 + x.f0.f1 % 12, 1 + x.f0.f2 % 3, x.f0.f3 / 200 + x.f0.f4 % 50 + x.f0.f5, x.f0.f3 / 200 + x.f0.f4 % 50, x.f0.f3 / 200, 0⟩
def madeR (keys : List Int) (x : S58) : S28 := signN (keyAt keys (x.f0.f0 % keys.length)) (bareR keys.length x)
theorem ev_MadeR {keys : List Int} (hk : KeysOk keys) (h0 : 0 < keys.length) (hl : keys.length < 1000) (x : S58) (hx : rawOk x) :
  Ev (fun k => paroleref32_Made.f k keys x.f0.f0 x.f0.f1 x.f0.f2 x.f0.f3 x.f0.f4 x.f0.f5) (tup (madeR keys x)) := by
 unfold rawOk at hx
 have t1 : Int.tmod x.f0.f0 (keys.length : Int) = x.f0.f0 % (keys.length : Int) := Int.tmod_eq_emod_of_nonneg hx.1.1
 have hp : (0 : Int) < keys.length := by omega
 have m0 := Int.emod_nonneg x.f0.f0 (b := (keys.length : Int)) (by omega)
 have m1 := Int.emod_lt_of_pos x.f0.f0 hp
 unfold paroleref32_Made.f
 rw [wrap64_of (n := x.f0.f0) (by omega) (by omega), t1]
 refine Ev.neg (by omega) (Ev.pos m0 (Ev.pos m1 ?_))
 obtain ⟨e, hlt⟩ := key_at hk m0 m1
 rw [e]
 have a1 : wrap64 (1 + wrap64 (Int.tmod x.f0.f1 12)) = 1 + x.f0.f1 % 12 := by
  rw [Int.tmod_eq_emod_of_nonneg hx.2.1.1, wrap64_of (n := x.f0.f1 % 12) (by omega) (by omega), wrap64_of (by omega) (by omega)]
 have a2 : wrap64 (1 + wrap64 (Int.tmod x.f0.f2 3)) = 1 + x.f0.f2 % 3 := by
  rw [Int.tmod_eq_emod_of_nonneg hx.2.2.1.1, wrap64_of (n := x.f0.f2 % 3) (by omega) (by omega), wrap64_of (by omega) (by omega)]
 have a3 : wrap64 (Int.tdiv (wrap64 x.f0.f3) 200) = x.f0.f3 / 200 := by
  rw [wrap64_of (n := x.f0.f3) (by omega) (by omega), Int.tdiv_eq_ediv_of_nonneg hx.2.2.2.1.1, wrap64_of (by omega) (by omega)]
 have a4 : wrap64 (x.f0.f3 / 200 + wrap64 (Int.tmod x.f0.f4 50)) = x.f0.f3 / 200 + x.f0.f4 % 50 := by
  rw [Int.tmod_eq_emod_of_nonneg hx.2.2.2.2.1.1, wrap64_of (n := x.f0.f4 % 50) (by omega) (by omega), wrap64_of (by omega) (by omega)]
 have a5 : wrap64 (x.f0.f3 / 200 + x.f0.f4 % 50 + wrap64 x.f0.f5) = x.f0.f3 / 200 + x.f0.f4 % 50 + x.f0.f5 := by
  rw [wrap64_of (n := x.f0.f5) (by omega) (by omega), wrap64_of (by omega) (by omega)]
 rw [a1, a2, a3, a4, a5]
 exact Ev.bind (ev_RSign _ hlt (bareR keys.length x)) (Ev.now _)
theorem mk28 (c : S28) : (⟨(tup c).1, (tup c).2.1, (tup c).2.2.1, (tup c).2.2.2.1, (tup c).2.2.2.2.1, (tup c).2.2.2.2.2.1, (tup c).2.2.2.2.2.2⟩ : S28) = c := rfl
theorem list_l0 {keys : List Int} (hk : KeysOk keys) (h0 : 0 < keys.length) (hl : keys.length < 1000) (l : List S58) (hx : ∀ x ∈ l, rawOk x) : ∀ (d i : Nat) (acc : List S28), i + d = 20 → acc.length ≤ i →
  Ev (fun k => paroleref32_List.l0 k keys l 20 acc (i : Int)) (acc ++ ((l.drop i).take d).map (madeR keys)) := by
 intro d
 induction d with
 | zero =>
  intro i acc hi ha
  refine Ev.succ ?_
  simp only [paroleref32_List.l0, List.take_zero, List.map_nil, List.append_nil]
  by_cases h : (i : Int) < (l.length : Int)
  ·exact Ev.pos h (Ev.neg (by omega) (Ev.now _))
  ·exact Ev.neg h (Ev.now _)
 | succ d ih =>
  intro i acc hi ha
  refine Ev.succ ?_
  simp only [paroleref32_List.l0]
  by_cases h : i < l.length
  ·refine Ev.pos (by omega) (Ev.pos (by omega) (Ev.pos (by omega) ?_))
   have er : rd_T58 l (i : Int) = l[i] := by unfold rd_T58; simp [h]
   have hw : wrap64 ((i : Int) + 1) = ((i + 1 : Nat) : Int) := by rw [wrap64_of (by omega) (by omega)]; omega
   rw [er, hw, List.drop_eq_getElem_cons h]
   refine Ev.bind (ev_MadeR hk h0 hl l[i] (hx _ (List.getElem_mem h))) (Ev.pos (by omega) ?_)
   rw [mk28]
   have := ih (i + 1) (acc ++ [madeR keys l[i]]) (by omega) (by simp; omega)
   rw [List.append_assoc] at this
   exact this
  ·rw [List.drop_eq_nil_of_le (by omega)]
   simp only [List.take_nil, List.map_nil, List.append_nil]
   exact Ev.neg (by omega) (Ev.now _)
def listR (keys : List Int) (l : List S58) : List S28 := (l.take 20).map (madeR keys)
theorem ev_ListR {keys : List Int} (hk : KeysOk keys) (h0 : 0 < keys.length) (hl : keys.length < 1000) (l : List S58) (hx : ∀ x ∈ l, rawOk x) : Ev (fun k => paroleref32_List.f k keys l 20) (listR keys l) := by
 have := list_l0 hk h0 hl l hx 20 0 [] rfl (by simp)
 simpa [paroleref32_List.f, listR] using this
theorem listR_length (keys : List Int) (l : List S58) : (listR keys l).length ≤ 20 := by unfold listR; simp; omega
/-- What 'made' of the laws gives. -/
theorem ev_lmade (a b : Int) (ha : 0 ≤ a ∧ a ≤ 255) (hb : 0 ≤ b ∧ b ≤ 255) (l : List S58) (hx : ∀ x ∈ l, rawOk x) : ∃ n : Nat, 0 < n ∧ n ≤ 4 ∧ Ev (fun k => parolelaw32_made.f k a l b) (keysN n, listR (keysN n) l, 1 + b % 3) := by
 refine ⟨(1 + a % 4).toNat, by omega, by omega, ?_⟩
 unfold parolelaw32_made.f
 have e1 : wrap64 (1 + wrap64 (Int.tmod a 4)) = (((1 + a % 4).toNat : Nat) : Int) := by
  rw [Int.tmod_eq_emod_of_nonneg ha.1, wrap64_of (n := a % 4) (by omega) (by omega), wrap64_of (by omega) (by omega)]; omega
 have e2 : wrap64 (1 + wrap64 (Int.tmod b 3)) = 1 + b % 3 := by
  rw [Int.tmod_eq_emod_of_nonneg hb.1, wrap64_of (n := b % 3) (by omega) (by omega), wrap64_of (by omega) (by omega)]
 rw [e1, e2]
 have hn : 0 < (keysN (1 + a % 4).toNat).length := by rw [keysN_length]; omega
 exact Ev.bind (ev_Keys _ (by omega)) (Ev.bind (ev_ListR (keysN_ok _) hn (by rw [keysN_length]; omega) l hx) (Ev.now _))
theorem mem_macs (L : List S28) (x : Int) : x ∈ macs L ↔ ∃ c ∈ L, c.f0 = x := by
 unfold macs
 rw [mem_nub, List.mem_map]
theorem ofM_congr {L L' : List S28} (h : ∀ c, c ∈ L ↔ c ∈ L') (x : Int) (c : S28) : c ∈ ofM L x ↔ c ∈ ofM L' x := by unfold ofM; rw [List.mem_filter, List.mem_filter, h]
theorem map_congr_mem {L L' : List S28} (h : ∀ c, c ∈ L ↔ c ∈ L') (f : S28 → Int) (y : Int) : y ∈ L.map f ↔ y ∈ L'.map f := by
 simp only [List.mem_map]
 constructor
 ·rintro ⟨c, hc, rfl⟩; exact ⟨c, (h c).1 hc, rfl⟩
 ·rintro ⟨c, hc, rfl⟩; exact ⟨c, (h c).2 hc, rfl⟩
theorem sm_congr_mem {l l' : List Int} (hl : l.Nodup) (hl' : l'.Nodup) (h : ∀ x, x ∈ l ↔ x ∈ l') {f g : Int → Int} (hfg : ∀ x, f x = g x) : sm l f = sm l' g := by
 rw [sm_within l l' f hl hl' (fun x hx => (h x).1 hx) (fun x hx hn => absurd ((h x).2 hx) hn)]
 exact sm_congr fun x _ => hfg x
theorem gathR_congr {L L' : List S28} (h : ∀ c, c ∈ L ↔ c ∈ L') (p : Int) : gathR L p = gathR L' p := by
 have hm : ∀ x, x ∈ macs L ↔ x ∈ macs L' := fun x => by
  rw [mem_macs, mem_macs]
  constructor
  ·rintro ⟨c, hc, e⟩; exact ⟨c, (h c).1 hc, e⟩
  ·rintro ⟨c, hc, e⟩; exact ⟨c, (h c).2 hc, e⟩
 have hn : (macs L).length = (macs L').length := Nat.le_antisymm (nodup_length_le _ _ (nodup_nub _) fun x hx => (hm x).1 hx) (nodup_length_le _ _ (nodup_nub _) fun x hx => (hm x).2 hx)
 have e1 : ∀ x, seenM L x = seenM L' x := fun x => maxs_congr (map_congr_mem (ofM_congr h x) _)
 have e2 : ∀ x, lookM L x = lookM L' x := fun x => maxs_congr (map_congr_mem (ofM_congr h x) _)
 have e3 : ∀ x, brokM L x = brokM L' x := fun x => maxs_congr (map_congr_mem (ofM_congr h x) _)
 have e4 : ∀ x, missM L x = missM L' x := fun x => by
  unfold missM
  rw [show lastM L x = lastM L' x from maxs_congr (map_congr_mem (ofM_congr h x) _), show (nub (seqsM L x)).length = (nub (seqsM L' x)).length from nub_length_congr (map_congr_mem (ofM_congr h x) _)]
 unfold gathR
 have n1 : (macs L).Nodup := nodup_nub _
 have n2 : (macs L').Nodup := nodup_nub _
 rw [hn, sm_congr_mem n1 n2 hm e1, sm_congr_mem n1 n2 hm e2, sm_congr_mem n1 n2 hm e3, sm_congr_mem n1 n2 hm e4]
theorem evid_congr {keys keys' : List Int} {l l' : List S28} {p : Int} (h : ∀ c, (c ∈ l ∧ accB keys p c = true) ↔ (c ∈ l' ∧ accB keys' p c = true)) : evid keys l p = evid keys' l' p := by
 unfold evid
 exact gathR_congr (fun c => by rw [List.mem_filter, List.mem_filter, h]) p
/-- Bounds of evidence. -/
theorem gath_bounds {L : List S28} (h : ∀ c ∈ L, okB c) {m : Nat} (hm : ∀ c ∈ L, c.f0 < m) (p : Int) : 0 ≤ (gathR L p).2.2.2.2.1 ∧ (gathR L p).2.2.2.2.1 ≤ (gathR L p).2.2.2.1 ∧ (gathR L p).2.2.2.1 ≤ (gathR L p).2.2.1 ∧ 0 ≤ (gathR L p).2.2.2.2.2 ∧ (gathR L p).2.1 ≤ m := by
 unfold gathR
 simp only
 have le (f g : S28 → Int) (hfg : ∀ c ∈ L, f c ≤ g c) (x : Int) : maxs ((ofM L x).map f) ≤ maxs ((ofM L x).map g) := (maxs_le_iff _ _).2 ⟨maxs_nonneg _, fun y hy => by
  obtain ⟨c, hc, rfl⟩ := List.mem_map.1 hy
  exact Int.le_trans (hfg c (mem_ofM hc)) (le_maxs (List.mem_map.2 ⟨c, hc, rfl⟩))⟩
 have z (f : Int → Int) (hf : ∀ x, 0 ≤ f x) (l : List Int) : 0 ≤ sm l f := by
  have := sm_le (l := l) (f := fun _ => 0) (g := f) fun x _ => hf x
  rwa [sm_zero (fun _ _ => rfl)] at this
 refine ⟨z _ (fun x => maxs_nonneg _) _, sm_le fun x _ => le _ _ (fun c hc => (h c hc).2.2.2.2.1) x, sm_le fun x _ => le _ _ (fun c hc => (h c hc).2.2.2.2.2.1) x, z _ (fun x => ?_) _, ?_⟩
 ·unfold missM lastM
  have h0 := maxs_nonneg ((ofM L x).map (·.f1))
  have := nodup_length_le (nub (seqsM L x)) ((List.range (maxs ((ofM L x).map (·.f1))).toNat).map (fun i : Nat => (i : Int) + 1)) (nodup_nub _) (fun y hy => by
   rw [mem_nub] at hy
   have hy2 : y ≤ maxs ((ofM L x).map (·.f1)) := le_maxs hy
   unfold seqsM at hy
   obtain ⟨c, hc, rfl⟩ := List.mem_map.1 hy
   have := (h c (mem_ofM hc)).2.1
   exact List.mem_map.2 ⟨(c.f1 - 1).toNat, List.mem_range.2 (by omega), by omega⟩)
  simp only [List.length_map, List.length_range] at this
  omega
 ·have := nodup_length_le (macs L) ((List.range m).map (fun i : Nat => (i : Int))) (nodup_nub _) (fun y hy => by
   rw [mem_macs] at hy
   obtain ⟨c, hc, rfl⟩ := hy
   have h1 := (h c hc).1
   have h2 := hm c hc
   exact List.mem_map.2 ⟨c.f0.toNat, List.mem_range.2 (by omega), by omega⟩)
  simp only [List.length_map, List.length_range] at this
  exact_mod_cast this
theorem acc_okB {keys : List Int} {p : Int} {c : S28} (h : accB keys p c = true) : okB c ∧ c.f0 < keys.length ∧ c.f2 = p := by
 unfold accB rightB at h
 simp only [Bool.and_eq_true, beq_iff_eq] at h
 have := shapeB_iff.1 h.2.1
 unfold okB
 exact ⟨by omega, this.2.1, h.1⟩
end Go.Proofs.Ytfdoncgljohndaa.R
namespace Go.Proofs.Ytfdoncgljohndaa.Pure
open Go.RowKit Go.Fld Go.Proofs.Ytfdoncgljohndaa.P Go.Proofs.Ytfdoncgljohndaa.R Go.Proofs.YtfdoncgljohndaaW.PrintWords Go.Proofs.YtfdoncgljohndaaW.PrintLast Go.Proofs.YtfdoncgljohndaaW.PrintMore
/-- The loop: another list with the same members, and those of the promise alone. -/
theorem order_l0 {keys : List Int} {l : List S28} {p : Int} (hl : l.length ≤ 20) (t : Int) (ht : 0 ≤ t ∧ t ≤ 255) (e : Int × Int × Int × Int × Int × Int) (r : Bool)
  (hend : ∀ back own : List S28, back.length ≤ 40 → own.length ≤ 20 → (∀ c, c ∈ back ↔ c ∈ l) → (∀ c, c ∈ own ↔ (c ∈ l ∧ c.f2 = p)) → Ev (fun k => (field_Gather.f k keys back p).bind fun bt136 => (if (bt136.1 == e.1 && (bt136.2.1 == e.2.1 && (bt136.2.2.1 == e.2.2.1 && (bt136.2.2.2.1 == e.2.2.2.1 && (bt136.2.2.2.2.1 == e.2.2.2.2.1 && (bt136.2.2.2.2.2 == e.2.2.2.2.2)))))) = true then ((field_Gather.f k keys own p).bind fun bt142 => (if (bt142.1 == e.1 && (bt142.2.1 == e.2.1 && (bt142.2.2.1 == e.2.2.1 && (bt142.2.2.2.1 == e.2.2.2.1 && (bt142.2.2.2.2.1 == e.2.2.2.2.1 && (bt142.2.2.2.2.2 == e.2.2.2.2.2)))))) = true then (if e.1 = p then (if e.2.2.2.2.1 ≥ 0 then (if e.2.2.2.2.1 ≤ e.2.2.2.1 then (if e.2.2.2.1 ≤ e.2.2.1 then (if e.2.2.2.2.2 ≥ 0 then (some (decide (e.2.1 ≤ (keys.length : Int)))) else (some false)) else (some false)) else (some false)) else (some false)) else (some false)) else (some false))) else (some false))) r) :
  ∀ (d i : Nat) (back own : List S28), i + d = l.length → back.length = 2 * i → own.length ≤ i → (∀ c ∈ back, c ∈ l) → (∀ c ∈ l.take i, c ∈ back) → (∀ c, c ∈ own ↔ (c ∈ l.take i ∧ c.f2 = p)) →
  Ev (fun k => parolelaw32_FieldOrder.l0 k t true keys l p back own (i : Int) e.1 e.2.1 e.2.2.1 e.2.2.2.1 e.2.2.2.2.1 e.2.2.2.2.2) r := by
 intro d
 induction d with
 | zero =>
  intro i back own hi hb ho h1 h2 h3
  refine Ev.succ ?_
  unfold parolelaw32_FieldOrder.l0
  refine Ev.neg (by omega) (Ev.pos rfl ?_)
  rw [List.take_of_length_le (by omega)] at h2 h3
  exact hend back own (by omega) (by omega) (fun c => ⟨h1 c, h2 c⟩) h3
 | succ d ih =>
  intro i back own hi hb ho h1 h2 h3
  refine Ev.succ ?_
  unfold parolelaw32_FieldOrder.l0
  have hil : i < l.length := by omega
  have hp : (0 : Int) < l.length := by omega
  have w1 : wrap64 t = t := wrap64_of (by omega) (by omega)
  have w2 : wrap64 ((i : Int) + t) = (i : Int) + t := wrap64_of (by omega) (by omega)
  have hw : wrap64 ((i : Int) + 1) = ((i + 1 : Nat) : Int) := by rw [wrap64_of (by omega) (by omega)]; omega
  have t1 : Int.tmod ((i : Int) + t) (l.length : Int) = ((i : Int) + t) % (l.length : Int) := Int.tmod_eq_emod_of_nonneg (by omega)
  rw [w1, w2, t1, hw]
  have m0 := Int.emod_nonneg ((i : Int) + t) (b := (l.length : Int)) (by omega)
  have m1 := Int.emod_lt_of_pos ((i : Int) + t) hp
  generalize ((i : Int) + t) % (l.length : Int) = j at m0 m1
  have er : rd_T28 l (i : Int) = l[i] := by unfold rd_T28; simp [hil]
  have hjl : j.toNat < l.length := by omega
  have ej : rd_T28 l j = l[j.toNat] := by unfold rd_T28; simp [hjl]
  rw [er, ej]
  refine Ev.pos (by omega) (Ev.neg (by omega) (Ev.pos m0 (Ev.pos m1 (Ev.pos (by omega) (Ev.cbind rfl (Ev.pos (by simp; omega) (Ev.cbind rfl ?_)))))))
  have htake : l.take (i + 1) = l.take i ++ [l[i]] := by rw [List.take_add_one]; simp [hil]
  have g1 : ∀ c ∈ [l[j.toNat], l[i]] ++ back, c ∈ l := fun c hc => by
   simp only [List.cons_append, List.nil_append, List.mem_cons] at hc
   rcases hc with rfl | rfl | hc
   ·exact List.getElem_mem _
   ·exact List.getElem_mem _
   ·exact h1 c hc
  have g2 : ∀ c ∈ l.take (i + 1), c ∈ [l[j.toNat], l[i]] ++ back := fun c hc => by
   rw [htake, List.mem_append, List.mem_singleton] at hc
   simp only [List.cons_append, List.nil_append, List.mem_cons]
   rcases hc with hc | rfl
   ·exact .inr (.inr (h2 c hc))
   ·exact .inr (.inl rfl)
  by_cases c1 : l[i].f2 = p
  ·refine Ev.pos c1 (Ev.pos (by omega) ?_)
   refine ih (i + 1) _ _ (by omega) (by simp; omega) (by simp; omega) g1 g2 ?_
   intro c
   rw [htake]
   simp only [List.mem_append, List.mem_singleton, h3]
   constructor
   ·rintro (⟨h, hq⟩ | rfl)
    ·exact ⟨.inl h, hq⟩
    ·exact ⟨.inr rfl, c1⟩
   ·rintro ⟨h | rfl, hq⟩
    ·exact .inl ⟨h, hq⟩
    ·exact .inr rfl
  ·refine Ev.neg c1 ?_
   refine ih (i + 1) _ _ (by omega) (by simp; omega) (by omega) g1 g2 ?_
   intro c
   rw [htake]
   simp only [List.mem_append, List.mem_singleton, h3]
   constructor
   ·rintro ⟨h, hq⟩; exact ⟨.inl h, hq⟩
   ·rintro ⟨h | rfl, hq⟩
    ·exact ⟨h, hq⟩
    ·exact absurd hq c1
theorem FieldOrder : parolelaw32_FieldOrder.Pure := by
 intro a0_0 l0_1 a0_2 a1 h0 h1
 have hx : ∀ x ∈ l0_1, rawOk x := fun x hx => by
  have := h0.2.1.2 x hx
  exact ⟨wf_u8 this.1, wf_u8 this.2.1, wf_u8 this.2.2.1, wf_u8 this.2.2.2.1, wf_u8 this.2.2.2.2.1, wf_u8 this.2.2.2.2.2⟩
 obtain ⟨n, hn0, hn4, hm⟩ := ev_lmade a0_0 a0_2 (wf_u8 h0.1) (wf_u8 h0.2.2) l0_1 hx
 refine Ev.rounds (g := fun k => parolelaw32_FieldOrder.f k a0_0 l0_1 a0_2 a1) ?_
 unfold parolelaw32_FieldOrder.f
 have hk := keysN_ok n
 have hkl := keysN_length n
 have hl := listR_length (keysN n) l0_1
 refine Ev.cbind (a := true) rfl (Ev.pos rfl (Ev.bind hm ?_))
 dsimp only
 generalize keysN n = keys at *
 generalize listR keys l0_1 = l at *
 generalize 1 + a0_2 % 3 = p at *
 refine Ev.bind (ev_Gather hk l p (by omega) (by omega)) ?_
 refine order_l0 (e := evid keys l p) hl a1 (wf_u8 h1) true ?_ l.length 0 [] [] (by omega) (by simp) (by simp) (by simp) (by simp) (by simp)
 intro back own hb ho h2 h3
 have e1 : evid keys back p = evid keys l p := evid_congr fun c => by rw [h2]
 have e2 : evid keys own p = evid keys l p := evid_congr fun c => by
  rw [h3]
  constructor
  ·rintro ⟨⟨hc, _⟩, ha⟩; exact ⟨hc, ha⟩
  ·rintro ⟨hc, ha⟩; exact ⟨⟨hc, (acc_okB ha).2.2⟩, ha⟩
 obtain ⟨b1, b2, b3, b4, b5⟩ := gath_bounds (L := l.filter (accB keys p)) (fun c hc => (acc_okB (List.mem_filter.1 hc).2).1) (m := keys.length) (fun c hc => (acc_okB (List.mem_filter.1 hc).2).2.1) p
 refine Ev.bind (ev_Gather hk back p (by omega) (by omega)) ?_
 rw [e1]
 refine Ev.pos (by simp) (Ev.bind (ev_Gather hk own p (by omega) (by omega)) ?_)
 rw [e2]
 refine Ev.pos (by simp) (Ev.pos rfl (Ev.pos b1 (Ev.pos b2 (Ev.pos b3 (Ev.pos b4 ?_)))))
 rw [decide_eq_true (show (evid keys l p).2.1 ≤ (keys.length : Int) from b5)]
 exact Ev.now _
end Go.Proofs.Ytfdoncgljohndaa.Pure
namespace Go.Proofs.YtfdoncgljohndaaH
open Go.RowKit Go.Proofs.YtfdoncgljohndaaW.PrintWords
variable {P : Program}
/-- What can be read as_ a value of type t is a value of kind d, and g holds of it. -/
def Opens (P : Program) (t : TypeId) {α : Type} (d : Kd α) (g : α → Prop) : Prop :=
 ∀ {H : Type} (enc : TypeId × Value → H) (W : World) (sp : Nat → Bool) (fuel : Nat) (cs : List Value) (x : DataW H × List MemPlace), DataW.trod enc P W 0 sp true fuel t cs = some x → ∃ y, d.K W y cs ∧ g y
theorem opens_int {t : TypeId} {k : IntKind} (ht : P.underlying t = some (.int k)) : Opens P t (Kd.int k) (fun n => (Lit.int k n).wf = true) := by
 intro H enc W sp fuel cs x h
 obtain ⟨n, rfl, _, hw⟩ := DataW.trod_int ht h
 exact ⟨n, rfl, hw⟩
theorem opens_slice {t e : TypeId} {α : Type} {d : Kd α} {g : α → Prop} (ht : P.underlying t = some (.slice e)) (hd : Opens P e d g) (hs : P.cellsOf e = d.sz) :
  Opens P t (Kd.slice e d) (fun l => l.length ≤ maxLen ∧ ∀ x ∈ l, g x) := by
 intro H enc W sp fuel cs x h
 rcases Deep.open_slice ht h with ⟨rfl, _⟩ | ⟨a, len, cap, m, n, D, Pl, rfl, _, hl, hm, hme, _, hel⟩
 ·refine ⟨[], ⟨none, 0, rfl, Nat.le_refl _, rfl, Nat.zero_le _, fun h => absurd h (Nat.lt_irrefl _)⟩, Nat.zero_le _, by simp⟩
 ·have hlm : len ≤ m := by rw [hme]; split <;> omega
  have h1 : ∀ i, ∃ z : Option α, i < len → ∃ y c, z = some y ∧ W.cells? 0 (a.add (i * P.cellsOf e)) (P.cellsOf e) = some c ∧ d.K W y c ∧ g y := by
   intro i
   by_cases hi : i < len
   ·obtain ⟨c, hc, hx⟩ := hel i (by omega)
    obtain ⟨y, hy, hg⟩ := hd enc W sp n c _ hx
    exact ⟨some y, fun _ => ⟨y, c, rfl, hc, hy, hg⟩⟩
   ·exact ⟨none, fun h => absurd h hi⟩
  obtain ⟨f, hf⟩ := Classical.axiomOfChoice h1
  have h2 : ∀ i, i < len → ∃ y c, f i = some y ∧ W.cells? 0 (a.add (i * P.cellsOf e)) (P.cellsOf e) = some c ∧ d.K W y c ∧ g y := fun i hi => hf i hi
  have key : ∀ k, k ≤ len → ∃ l : List α, l.length = k ∧ ∀ i, i < k → l[i]? = f i := by
   intro k
   induction k with
   | zero => intro _; exact ⟨[], rfl, fun i hi => absurd hi (Nat.not_lt_zero _)⟩
   | succ k ih =>
    intro hk
    obtain ⟨l, hll, hli⟩ := ih (by omega)
    obtain ⟨y, c, hy, _⟩ := h2 k (by omega)
    refine ⟨l ++ [y], by simp [hll], fun i hi => ?_⟩
    by_cases hik : i < k
    ·rw [List.getElem?_append_left (by omega)]; exact hli i hik
    ·have : i = k := by omega
     subst this
     rw [List.getElem?_append_right (by omega), hll]
     simp [hy]
  obtain ⟨l, hll, hli⟩ := key len (Nat.le_refl _)
  refine ⟨l, ⟨some a, cap, by rw [hll], by omega, rfl, ?_, fun _ => ⟨a, rfl, ?_⟩⟩, by omega, ?_⟩
  ·rw [hll]; unfold maxLen at hm; omega
  ·intro j p hj
   have hjl : j < len := by rw [← hll]; exact (List.getElem?_eq_some_iff.1 hj).1
   obtain ⟨y, c, hy, hc, hK, _⟩ := h2 j hjl
   have : p = y := by
    rw [hli j hjl, hy] at hj
    exact (Option.some.inj hj).symm
   subst this
   refine ⟨c, d.K_len hK, hK, fun i u hu => ?_⟩
   obtain ⟨_, hcl, hcc⟩ := World.cells?_some hc
   have hi : i < P.cellsOf e := by rw [← hcl]; exact (List.getElem?_eq_some_iff.1 hu).1
   rw [← hs, ← Deep.add_add, hcc i hi, hu]
  ·intro x hx
   obtain ⟨j, hj⟩ := List.getElem?_of_mem hx
   have hjl : j < len := by rw [← hll]; exact (List.getElem?_eq_some_iff.1 hj).1
   obtain ⟨y, c, hy, hc, hK, hg⟩ := h2 j hjl
   rw [hli j hjl, hy] at hj
   rw [← Option.some.inj hj]
   exact hg
/-- The fields from an offset on. -/
def OpensAt (P : Program) (off : Nat) (fs : List (TypeId × Nat)) {α : Type} (d : Kd α) (g : α → Prop) : Prop :=
 ∀ {H : Type} (enc : TypeId × Value → H) (W : World) (sp : Nat → Bool) (fuel : Nat) (cs : List Value), cs.length = off + d.sz → (∀ f ∈ fs, ∃ x, DataW.trod enc P W 0 sp true fuel f.1 ((cs.drop f.2).take (P.cellsOf f.1)) = some x) → ∃ y, d.K W y (cs.drop off) ∧ g y
theorem opens_last {off : Nat} {t : TypeId} {α : Type} {d : Kd α} {g : α → Prop} (ho : Opens P t d g) (hs : P.cellsOf t = d.sz) : OpensAt P off [(t, off)] d g := by
 intro H enc W sp fuel cs hl hf
 obtain ⟨x, hx⟩ := hf (t, off) (by simp)
 have e : (cs.drop off).take (P.cellsOf t) = cs.drop off := List.take_of_length_le (by rw [List.length_drop, hs]; omega)
 rw [e] at hx
 exact ho enc W sp fuel _ x hx
theorem opens_next {off : Nat} {t : TypeId} {fs : List (TypeId × Nat)} {α β : Type} {d : Kd α} {d' : Kd β} {g : α → Prop} {g' : β → Prop} (ho : Opens P t d g) (hs : P.cellsOf t = d.sz) (hr : OpensAt P (off + d.sz) fs d' g') :
  OpensAt P off ((t, off) :: fs) (Kd.pair d d') (fun x => g x.1 ∧ g' x.2) := by
 intro H enc W sp fuel cs hl hf
 have hl' : cs.length = off + d.sz + d'.sz := by have : (Kd.pair d d').sz = d.sz + d'.sz := rfl; omega
 obtain ⟨x, hx⟩ := hf (t, off) (by simp)
 obtain ⟨y, hy, hg⟩ := ho enc W sp fuel _ x hx
 obtain ⟨y', hy', hg'⟩ := hr enc W sp fuel cs hl' (fun f h => hf f (by simp [h]))
 refine ⟨(y, y'), ⟨_, _, ?_, hy, hy'⟩, hg, hg'⟩
 show cs.drop off = (cs.drop off).take (P.cellsOf t) ++ cs.drop (off + d.sz)
 rw [hs, ← List.drop_drop, List.take_append_drop]
theorem opens_struct {t : TypeId} {fs : Array Field} {α : Type} {d : Kd α} {g : α → Prop} (ht : P.underlying t = some (.struct fs)) (ho : OpensAt P 0 (fs.toList.map fun f => (f.type, f.offset)) d g) (hs : P.cellsOf t = d.sz) : Opens P t d g := by
 intro H enc W sp fuel cs x h
 obtain ⟨xs, n, _, _, hl, hlen, hf⟩ := DataW.trod_struct ht h
 have := ho enc W sp n cs (by omega) (fun f hfm => by
  obtain ⟨f0, hm, rfl⟩ := List.mem_map.1 hfm
  obtain ⟨i, hi⟩ := List.getElem?_of_mem hm
  have hi' : fs[i]? = some f0 := by simpa using hi
  have hlt : i < fs.size := (Array.getElem?_eq_some_iff.1 hi').1
  have := hf i f0 hi'
  rw [List.getElem?_eq_getElem (by omega)] at this
  exact ⟨_, this⟩)
 simpa using this
theorem opens_array {t e : TypeId} {n : Nat} {α : Type} {d : Kd α} {g : α → Prop} (ht : P.underlying t = some (.array n e)) (ho : OpensAt P 0 ((List.range n).map fun i => (e, i * P.cellsOf e)) d g) (hs : P.cellsOf t = d.sz) : Opens P t d g := by
 intro H enc W sp fuel cs x h
 obtain ⟨xs, m, _, _, hl, hlen, hf⟩ := DataW.trod_array ht h
 have := ho enc W sp m cs (by omega) (fun f hfm => by
  obtain ⟨i, hm, rfl⟩ := List.mem_map.1 hfm
  have hlt : i < n := by simpa using hm
  have := hf i hlt
  rw [List.getElem?_eq_getElem (by omega)] at this
  exact ⟨_, this⟩)
 simpa using this
theorem opens_iso {t : TypeId} {α β : Type} {d : Kd α} {g : α → Prop} (f : β → α) (mk : α → β) (hf : ∀ a, f (mk a) = a) (ho : Opens P t d g) : Opens P t (Kd.iso d f) (fun b => g (f b)) := by
 intro H enc W sp fuel cs x h
 obtain ⟨y, hy, hg⟩ := ho enc W sp fuel cs x h
 refine ⟨mk y, ?_, ?_⟩
 ·show d.K W (f (mk y)) cs
  rw [hf]
  exact hy
 ·show g (f (mk y))
  rw [hf]
  exact hg
theorem Opens.at_ {H : Type} {enc : TypeId × Value → H} {W : World} {sp : Nat → Bool} {t : TypeId} {v : Value} {x : DataW H} {ps : List MemPlace} {α : Type} {d : Kd α} {g : α → Prop} (ho : Opens P t d g) (h : DataW.Trod enc P W 0 sp true t v x ps) : ∃ y, d.K W y v.cells.toList ∧ g y := by
 obtain ⟨fuel, hf⟩ := h
 exact ho enc W sp fuel _ _ hf
/-- A value of a struct or array type is its cells. -/
theorem agg_of_struct {r : Reach} {b0 : Nat} {W : World} {t : TypeId} {fs : Array Field} {v : Value} (ht : P.underlying t = some (.struct fs)) (hv : Value.okWide P W r b0 t v) : ∃ cs, v = .agg cs := by
 obtain ⟨cs, rfl, _⟩ := WideShapes.okWide_struct ht hv
 exact ⟨cs, rfl⟩
theorem agg_cells {cs : Array Value} {l : List Value} (h : (Value.agg cs).cells.toList = l) : Value.agg cs = .agg l.toArray := by
 simp only [Value.cells] at h
 rw [← h]
end Go.Proofs.YtfdoncgljohndaaH
namespace Go.Proofs.Ytfdoncgljohndaa.fieldOrder
open Go.ChangeShapes Go.WideShapes Go.ChangeAt Go.RowKit Go.Proofs.YtfdoncgljohndaaH Go.Proofs.Ytfdoncgljohndaa.P Go.Proofs.YtfdoncgljohndaaW.PrintWords
open Go.ChangeMaps (open_string shut_string)
theorem own : ownKnob Try.prog.godebug = none := by kernel_rfl
theorem laidOut : laidOutB Try.prog = true := by kernel_rfl
set_option maxRecDepth 100000 in
set_option maxHeartbeats 4000000 in
theorem lifted (os : Os) (started : os.Started) (H : Type) (enc : TypeId × Value → H) :
  ReturnsInHanded {} Try.checked os 4 .any (Rows.fieldOrderSpec.pre6 enc Try.prog Try.f4 Rows.fieldOrderRow.domain false) (Rows.fieldOrderSpec.post enc Try.prog Try.f4 false true false false) := by
 refine returnsInHanded_of_change_sized (C := Try.checked) own started (by kernel_rfl) Try.func4
  (ChangeSpec.witness6 (enc := enc) (C := Try.checked) false ⟨#[], #[.agg #[(.int .u8 0), (.slice none 0 0), (.int .u8 0)], .int .u8 0], []⟩ 8 (by kernel_rfl) (by kernel_rfl) (by kernel_rfl) (by kernel_rfl)) ?_
 intro W base args ds gs before hval0 hW hcnd hsz0 _
 have hval : ∀ (j : Nat) t v, Try.f4.params[j]? = some t → args[j]? = some v → Value.okWide Try.prog W .any base t v := hval0
 have hW' := hW
 obtain ⟨p, q, hA0, hV, rfl, hfz, hnd⟩ := hW
 have hA : DataW.TrodAll enc Try.prog W 0 (fun _ => true) true Try.f4.params.toList args.toList ds p := hA0
 rw [Try.params4] at hA hval
 obtain ⟨v0, vs0, d0, ds0, p0, q0, hargs, rfl, rfl, h0, r0⟩ := trodAll_cons hA
 obtain ⟨v1, vs1, d1, ds1, p1, q1, rfl, rfl, rfl, h1, r1⟩ := trodAll_cons r0
 obtain ⟨rfl, rfl, rfl⟩ := trodAll_nil r1
 obtain rfl : args = #[v0, v1] := by cases args; simp_all
 obtain ⟨rfl, rfl⟩ := trodVars_none hV
 obtain ⟨cs0, rfl⟩ := agg_of_struct Try.underlying24 (hval 0 24 v0 rfl rfl)
 have k0 := h0
 have lt0 : ∀ x ∈ p0, x.block < W.heap.size := by obtain ⟨m, hm⟩ := k0; exact DataW.trod_lt m _ _ _ hm
 obtain ⟨y0, K0, g0⟩ := Opens.at_ (show Opens Try.prog 24 k24 _ from opens_iso (fun x : S24 => (x.f0, x.f1, x.f2)) (fun y => (⟨y.1, y.2.1, y.2.2⟩ : S24)) (fun _ => rfl) (opens_struct Try.underlying24 (opens_next (opens_int Try.underlying5) (by kernel_rfl) (opens_next (opens_slice Try.underlying22 (show Opens Try.prog 58 k58 _ from opens_iso (fun x : S58 => x.f0) (fun y => (⟨y⟩ : S58)) (fun _ => rfl) (opens_struct Try.underlying58 (opens_last (show Opens Try.prog 56 k56 _ from opens_iso (fun x : S56 => (x.f0, x.f1, x.f2, x.f3, x.f4, x.f5)) (fun y => (⟨y.1, y.2.1, y.2.2.1, y.2.2.2.1, y.2.2.2.2.1, y.2.2.2.2.2⟩ : S56)) (fun _ => rfl) (opens_array Try.underlying56 (opens_next (opens_int Try.underlying5) (by kernel_rfl) (opens_next (opens_int Try.underlying5) (by kernel_rfl) (opens_next (opens_int Try.underlying5) (by kernel_rfl) (opens_next (opens_int Try.underlying5) (by kernel_rfl) (opens_next (opens_int Try.underlying5) (by kernel_rfl) (opens_last (opens_int Try.underlying5) (by kernel_rfl))))))) (by kernel_rfl))) (by kernel_rfl)) (by kernel_rfl))) (by kernel_rfl)) (by kernel_rfl) (opens_last (opens_int Try.underlying5) (by kernel_rfl)))) (by kernel_rfl))) h0
 obtain ⟨A0_1, C0_1, e0, l0_1, rr0_1⟩ := k24_open K0
 obtain rfl := Value.agg.inj (agg_cells e0)
 obtain ⟨a1, rfl, rfl, rfl, w1⟩ := open_int Try.underlying5 (hval 1 5 v1 rfl rfl) h1
 obtain ⟨k, hk⟩ := Pure.FieldOrder y0.f0 y0.f1 y0.f2 a1 g0 w1
 clear hA0 hval0 hsz0
 refine (parolelaw32_FieldOrder.calls k y0.f0 _ _ y0.f1 y0.f2 a1 true W rr0_1 l0_1 rfl hk).mono fun e W' hpost => ?_
 obtain ⟨he, bel0⟩ := hpost
 have bel : Below W.heap.size W W' := bel0
 subst he
 exact ⟨_, rfl, _, _, _, [], _, [], hW', trodAll_mk1 (shut_bool Try.underlying4 _), (trodAll_cons_mk (Below.trod laidOut (by kernel_rfl) (of_decide_eq_true (by kernel_rfl)) k0 bel lt0) (trodAll_cons_mk (shut_int Try.underlying5 w1) trodAll_mk0)), rfl, bel.frame _, fun h => by cases h⟩
theorem over : Rows.fieldOrderRow.holds Try.pinned (OpenSpec.ofChange Rows.fieldOrderSpec) :=
 OpenClaim.holds_of_wide 4 Try.f4 rfl rfl rfl rfl rfl rfl rfl ⟨rfl, rfl, rfl, rfl, rfl⟩ rfl rfl rfl rfl rfl (by kernel_rfl) Try.func4 (by kernel_rfl)
  (of_decide_eq_true (by kernel_rfl)) (by unfold Func.isWrapper; first | (rw [if_pos (by decide +kernel)]; kernel_rfl) | (rw [if_neg (by decide +kernel)]; exact ⟨rfl, rfl⟩))
  (fun os started H enc _ => lifted os started H enc)
theorem proved : Rows.FieldOrderSaid := over
end Go.Proofs.Ytfdoncgljohndaa.fieldOrder
namespace Go.Proofs.Ytfdoncgljohndaa
/-- The row, under a short name, for the claim. -/
theorem fieldOrder_holds : Rows.FieldOrderSaid := fieldOrder.proved
end Go.Proofs.Ytfdoncgljohndaa

/- A part of the claim PriceBonds: lemmas, printed functions with their contracts, plain laws. -/
import Derived.Test.YtohnkcmbogcfhaacPriceBonds5
set_option linter.unusedVariables false
set_option linter.unusedSimpArgs false
namespace Go.Proofs.Ytohnkcmbogcfhaa.P
open Go.Proofs.YtohnkcmbogcfhaaH Go.RowKit Go.Proofs.YtohnkcmbogcfhaaW.PrintWords Go.Proofs.YtohnkcmbogcfhaaW.PrintLast Go.Proofs.YtohnkcmbogcfhaaW.PrintMore
attribute [local go_sem] max2_int min2_int max_two min_two max_three min_three max_four min_four   -- for this text's walks alone
attribute [local go_sem] Go.Proofs.YtohnkcmbogcfhaaH.cell_set_map
attribute [local go_sem high] eqA35 eqA38
def parolelaw42_examples0.j0 : Nat → List (S71) → List (S47) → Bool → List (S60) → Int → Int → Int → Option (Bool)
 | 0, _, _, _, _, _, _, _ => none
 | k + 1, x1, x2, x21, x114000, x114001, x114002, x114003 => if x21 = true then (some false) else ((paroleref42_Whole.f 40).bind fun bt114 => ((parolelaw42_settle.f k x114000 0 1 0 0 0 bt114.1 bt114.2).bind fun bt116 => (if 0 < (x2.length : Int) then ((parolelaw42_premium.f k x1 ((rd_T47 x2 0).f0) ((rd_T47 x2 0).f1) ((rd_T47 x2 0).f2)).bind fun bt124 => ((paroleref42_Whole.f 20).bind fun bt127 => (if ((bt124.1 == bt127.1 && (bt124.2.1 == bt127.2)) && (bt124.2.2 == 0)) = true then ((parolelaw42_bond.f k x1 x2 1 5).bind fun bt129 => (if ((bt129.1 == 57 && (bt129.2.1 == 2)) && (bt129.2.2 == 0)) = true then (if 0 < (x114000.length : Int) then ((paroleref42_Whole.f 5).bind fun bt133 => (if (((rd_T60 x114000 0).f1.f0) == bt133.1 && (((rd_T60 x114000 0).f1.f1) == bt133.2)) = true then (if bt116.2.2.2 = 0 then (if (bt116.2.1 == 57 && (bt116.2.2.1 == 2)) = true then (if (bt116.1.length : Int) = 2 then (if 1 < (bt116.1.length : Int) then ((paroleref42_Whole.f 0).bind fun bt136 => (if (((rd_T60 bt116.1 1).f1.f0) == bt136.1 && (((rd_T60 bt116.1 1).f1.f1) == bt136.2)) = true then (if 0 < (bt116.1.length : Int) then (if (((rd_T60 bt116.1 0).f1.f0) == 67 && (((rd_T60 bt116.1 0).f1.f1) == 2)) = true then ((parolelaw42_premium.f k x1 0 0 0).bind fun bt139 => (if bt139.2.2 = 1 then ((paroleref42_Whole.f 1).bind fun bt142 => ((parolelaw42_settle.f k x114000 0 2 0 0 0 bt142.1 bt142.2).bind fun bt144 => (some (bt144.2.2.2 == 4)))) else (some false))) else (some false)) else (none)) else (some false))) else (none)) else (some false)) else (some false)) else (some false)) else (some false))) else (none)) else (some false))) else (some false)))) else (none))))
def parolelaw42_examples0.f (k : Nat)  : Option (Bool) := (some (([(⟨1, 3, 1⟩ : S71)] : List (S71)) : List (S71))).bind fun y101 => ((some (([(⟨1, 1, 30⟩ : S47), (⟨1, 2, 7⟩ : S47)] : List (S47)) : List (S47))).bind fun y104 => ((parolelaw42_open.f k y101 y104 2 5).bind fun bt107 => (if bt107.2.2.2 = 0 then (parolelaw42_examples0.j0 k y101 y104 ((bt107.1.length : Int) != 2) bt107.1 bt107.2.1 bt107.2.2.1 bt107.2.2.2) else (parolelaw42_examples0.j0 k y101 y104 true bt107.1 bt107.2.1 bt107.2.2.1 bt107.2.2.2))))
def parolelaw42_examples0.T6 : Bool × List (List Nat × List Nat) := (true, [([], []), ([], []), ([1], [1]), ([2], [2]), ([0, 3], [0, 3]), ([4], []), ([5], [5]), ([4, 6], [4, 6]), ([7, 5], [7]), ([8], [8]), ([8], [8]), ([9, 10, 8, 8], [8, 9, 10]), ([8], [8]), ([12, 8], [8, 12]), ([11, 13, 8], [8, 11, 13]), ([8, 14], [8, 14]), ([15, 11], [15]), ([16], [16]), ([17, 16], [16, 17]), ([18, 16], [16, 18]), ([19, 16], [16, 19]), ([20, 16], [16, 20]), ([16, 16], [16]), ([21, 22, 16], [16, 21, 22]), ([16, 23], [16, 23]), ([24, 22], [24]), ([25], [25]), ([26, 25], [25, 26]), ([27, 25], [25, 27]), ([25, 28], [25, 28]), ([29, 25], [29]), ([30], [30]), ([31, 30], [30, 31]), ([30], [30]), ([32, 33, 30], [30, 32, 33]), ([30, 34], [30, 34]), ([35, 30], [35]), ([36], [36]), ([37, 36], [36, 37]), ([38, 36], [36, 38]), ([39, 36], [36, 39]), ([36, 40], [36, 40]), ([41, 36], [41]), ([42], [42]), ([43, 42], [42, 43]), ([44, 42], [42, 44]), ([45, 42], [42, 45]), ([46, 42], [42, 46]), ([42, 42], [42]), ([47, 48, 42], [42, 47, 48]), ([42, 49], [42, 49]), ([50, 48], [50]), ([51], [51]), ([52, 51], [51, 52]), ([53, 51], [51, 53]), ([54, 51], [51, 54]), ([55, 51], [51, 55]), ([51], [51]), ([56, 57, 51], [51, 56, 57]), ([51, 58], [51, 58]), ([59, 51], [59]), ([60], [60]), ([60], [60]), ([61, 62, 60, 60], [60, 61, 62]), ([63, 60], [60, 63]), ([64, 60], [60, 64]), ([60, 65], [60, 65]), ([66, 63], [66]), ([67], [67]), ([68, 67], [67, 68]), ([67], [67]), ([67, 67], [67]), ([69, 70, 71, 71, 67], [67, 69, 70, 71]), ([72, 67], [67, 72]), ([73, 67], [67, 73]), ([67, 74], [67, 74]), ([75, 72, 0, 1, 2, 3, 4, 5, 6, 7, 8, 9, 10, 11, 12, 13, 14, 15, 16, 17, 18, 19, 20, 21, 22, 23, 24, 25, 26, 27, 28, 29, 30, 31, 32, 33, 34, 35, 36, 37, 38, 39, 40, 41, 42, 43, 44, 45, 46, 47, 48, 49, 50, 51, 52, 53, 54, 55, 56, 57, 58, 59, 60, 61, 62, 63, 64, 65, 66, 67, 68, 69, 70, 71, 72, 73, 74, 75], [75])])
def parolelaw42_examples0.B6 : List Nat := [0, 0, 2, 6, 15, 31, 63, 127, 255, 511, 511, 2047, 511, 4607, 16383, 32767, 65535, 131071, 262143, 524287, 1048575, 2097151, 131071, 8388607, 16777215, 33554431, 67108863, 134217727, 268435455, 536870911, 1073741823, 2147483647, 4294967295, 2147483647, 17179869183, 34359738367, 68719476735, 137438953471, 274877906943, 549755813887, 1099511627775, 2199023255551, 4398046511103, 8796093022207, 17592186044415, 35184372088831, 70368744177663, 140737488355327, 8796093022207, 562949953421311, 1125899906842623, 2251799813685247, 4503599627370495, 9007199254740991, 18014398509481983, 36028797018963967, 72057594037927935, 4503599627370495, 288230376151711743, 576460752303423487, 1152921504606846975, 2305843009213693951, 2305843009213693951, 9223372036854775807, 18446744073709551615, 36893488147419103231, 73786976294838206463, 147573952589676412927, 295147905179352825855, 590295810358705651711, 295147905179352825855, 295147905179352825855, 4722366482869645213695, 9444732965739290427391, 18889465931478580854783, 37778931862957161709567, 75557863725914323419135]
theorem parolelaw42_examples0.tab6 : rtab .any (opsOf Try.f28 6) = parolelaw42_examples0.T6 := by kernel_rfl
theorem parolelaw42_examples0.bits6 : waitsOk parolelaw42_examples0.T6.2 parolelaw42_examples0.B6 = true := by kernel_rfl
set_option maxHeartbeats 40000000 in
set_option maxRecDepth 100000 in
theorem parolelaw42_examples0.calls (k : Nat)  (r : Bool) (w : World) (hT : r = true) (h : parolelaw42_examples0.f k  = some r) :
  Calls Try.prog 28 #[] w fun e w' => e = .returned (.bool r) ∧ Below w.heap.size w w' := by
 have hu71 := Try.underlying71; have hu47 := Try.underlying47; have hu56 := Try.underlying56; have hu78 := Try.underlying78; have hu38 := Try.underlying38; have hu35 := Try.underlying35
 have hfd38_1 : ∀ (x0 x1 x2 : Value) (W : World), (Instr.field 38 (.agg #[x0, x1, x2]) 1).run Try.prog W = .ok (x2) W := fun _ _ _ _ => by kernel_rfl
 have hfd56_2 : ∀ (x0 x1 x2 x3 : Value) (W : World), (Instr.field 56 (.agg #[x0, x1, x2, x3]) 2).run Try.prog W = .ok (x3) W := fun _ _ _ _ _ => by kernel_rfl
 have HB := aM (Below.refl w.heap.size w); have HT := aM hT; clear hT
 have H : ((some (([(⟨1, 3, 1⟩ : S71)] : List (S71)) : List (S71))).bind fun y101 => ((some (([(⟨1, 1, 30⟩ : S47), (⟨1, 2, 7⟩ : S47)] : List (S47)) : List (S47))).bind fun y104 => ((parolelaw42_open.f k y101 y104 2 5).bind fun bt107 => (if bt107.2.2.2 = 0 then (parolelaw42_examples0.j0 k y101 y104 ((bt107.1.length : Int) != 2) bt107.1 bt107.2.1 bt107.2.2.1 bt107.2.2.2) else (parolelaw42_examples0.j0 k y101 y104 true bt107.1 bt107.2.1 bt107.2.2.1 bt107.2.2.2))))) = some r := h
 clear h
 obtain ⟨y101, hy101⟩ : ∃ y_ : List (S71), y_ = (([(⟨1, 3, 1⟩ : S71)] : List (S71))) := ⟨_, rfl⟩
 replace H : ((some (([(⟨1, 1, 30⟩ : S47), (⟨1, 2, 7⟩ : S47)] : List (S47)) : List (S47))).bind fun y104 => ((parolelaw42_open.f k y101 y104 2 5).bind fun bt107 => (if bt107.2.2.2 = 0 then (parolelaw42_examples0.j0 k y101 y104 ((bt107.1.length : Int) != 2) bt107.1 bt107.2.1 bt107.2.2.1 bt107.2.2.2) else (parolelaw42_examples0.j0 k y101 y104 true bt107.1 bt107.2.1 bt107.2.2.1 bt107.2.2.2)))) = some r := by first | (rw [hy101]; with_reducible exact H) | (have H2_ := (Option.bind_some _ _).symm.trans H; rw [hy101]; with_reducible exact H2_) | (have H2_ := (Option.bind_some _ _).symm.trans H; with_reducible exact H2_) | with_reducible exact H | (rw [hy101]; exact H) | exact H
 have Ny101 := aM hy101; clear hy101
 obtain ⟨y104, hy104⟩ : ∃ y_ : List (S47), y_ = (([(⟨1, 1, 30⟩ : S47), (⟨1, 2, 7⟩ : S47)] : List (S47))) := ⟨_, rfl⟩
 replace H : ((parolelaw42_open.f k y101 y104 2 5).bind fun bt107 => (if bt107.2.2.2 = 0 then (parolelaw42_examples0.j0 k y101 y104 ((bt107.1.length : Int) != 2) bt107.1 bt107.2.1 bt107.2.2.1 bt107.2.2.2) else (parolelaw42_examples0.j0 k y101 y104 true bt107.1 bt107.2.1 bt107.2.2.1 bt107.2.2.2))) = some r := by first | (rw [hy104]; with_reducible exact H) | (have H2_ := (Option.bind_some _ _).symm.trans H; rw [hy104]; with_reducible exact H2_) | (have H2_ := (Option.bind_some _ _).symm.trans H; with_reducible exact H2_) | with_reducible exact H | (rw [hy104]; exact H) | exact H
 have Ny104 := aM hy104; clear hy104; replace H := Option.bind_eq_some_iff.mp H
 obtain ⟨⟨t107, t110, t111, t112⟩, A10, H⟩ := H
 replace H : (if t112 = 0 then (parolelaw42_examples0.j0 k y101 y104 ((t107.length : Int) != 2) t107 t110 t111 t112) else (parolelaw42_examples0.j0 k y101 y104 true t107 t110 t111 t112)) = some r := H
 have A1 := aM A10; clear A10; have HC2 := aM H; clear H
 go_enter Try.func28, Try.ntmps28
 go_upto_region 3 with (first | ((with_reducible refine gate_dst (N := 6) rfl ?_); (try (refine gate_guard (by rfl) ?_; dsimp only)); refine Kd.R_lit k71 _ 71 ?hg (N := 6) ?hd (xs := ([(⟨1, 3, 1⟩ : S71)] : List (S71))) (inner := [.int .i64 1, .int .i64 3, .int .i64 1]) (ok := fun _ => True) (okp := fun _ => True) ?hr ?hp (fun _ hk => hk) trivial (Below.refl _ _) (Nat.le_refl _) (by simp) ?_; (case hd => rfl); (case hg => rfl); (case hr => first | (go_simp; done) | (go_simp; rfl)); (case hp => exact (Reps.c3 (show Kd.M k71 _ _ _ (⟨1, 3, 1⟩ : S71) [.int .i64 1, .int .i64 3, .int .i64 1] from (k71_mkM _ _ _ (⟨1, 3, 1⟩ : S71) )) (Reps.none _ _))); intro v102 w3 ho4 hb hg_ hnew_; clear hg_ hnew_; (first | rw [← Ny101.out] at ho4 | (simp only [Int.reduceToNat] at ho4; rw [← Ny101.out] at ho4)); have HO103 := rL (n := 0) ho4 HB; replace HB := sB HB hb; clear hb ho4) | ((with_reducible refine gate_dst (N := 9) rfl ?_); (try (refine gate_guard (by rfl) ?_; dsimp only)); refine Kd.R_lit k47 _ 47 ?hg (N := 9) ?hd (xs := ([(⟨1, 1, 30⟩ : S47), (⟨1, 2, 7⟩ : S47)] : List (S47))) (inner := [.int .i64 1, .int .i64 1, .int .i64 30, .int .i64 1, .int .i64 2, .int .i64 7]) (ok := fun _ => True) (okp := fun _ => True) ?hr ?hp (fun _ hk => hk) trivial (Below.refl _ _) (Nat.le_refl _) (by simp) ?_; (case hd => rfl); (case hg => rfl); (case hr => first | (go_simp; done) | (go_simp; rfl)); (case hp => exact (Reps.c3 (show Kd.M k47 _ _ _ (⟨1, 1, 30⟩ : S47) [.int .i64 1, .int .i64 1, .int .i64 30] from (k47_mkM _ _ _ (⟨1, 1, 30⟩ : S47) )) (Reps.c3 (show Kd.M k47 _ _ _ (⟨1, 2, 7⟩ : S47) [.int .i64 1, .int .i64 2, .int .i64 7] from (k47_mkM _ _ _ (⟨1, 2, 7⟩ : S47) )) (Reps.none _ _)))); intro v105 w5 ho6 hb hg_ hnew_; clear hg_ hnew_; (first | rw [← Ny104.out] at ho6 | (simp only [Int.reduceToNat] at ho6; rw [← Ny104.out] at ho6)); have HO106 := rL (n := 0) ho6 HB; replace HO103 := rB HO103 hb; replace HB := sB HB hb; clear hb ho6; obtain ⟨Ao7, co7, eo7⟩ := Kd.R_slice HO103.out; subst eo7; obtain ⟨Ao8, co8, eo8⟩ := Kd.R_slice HO106.out; subst eo8) | ((with_reducible refine gate_callee (f := 35) rfl ?_); refine gL (some 12) Try.func35 #[.slice Ao7 y101.length co7, .slice Ao8 y104.length co8, .int .i64 2, .int .i64 5] ?_; (with_reducible refine (parolelaw42_open.calls k _ _ y101 _ _ y104 2 5 t107 t110 t111 t112 _ ?side1 ?side2 ?side3 ?side4 A1.out).mono ?_); (case side1 => exact rC HO103); (case side2 => exact rN HO103); (case side3 => exact rC HO106); (case side4 => exact rN HO106); rintro e w9 ⟨v108, rfl, ho0, hb⟩; refine ⟨_, rfl, ?_⟩; have HO109 := rL (n := 0) ho0 HB; replace HO103 := rB HO103 hb; replace HO106 := rB HO106 hb; replace HB := sB HB hb; (try clear hb); (try clear ho0)) | ((with_reducible refine gate_dst (N := 3) rfl ?_); (try (refine gate_guard (by rfl) ?_; dsimp only)); refine bE (N := 3) (cs := #[.slice none 0 0, .int .i64 0, .int .i64 0, .int .i64 0]) (t := 56) ?_; intro gb113 hg w10 hbox hb; have BK113 := aM (hbox); have GW113 := gE hg HB; have GE113 := gE hg HB; replace HO103 := rB HO103 hb; replace HO106 := rB HO106 hb; replace HO109 := rB HO109 hb; replace HB := sB HB hb; clear hb hbox hg; obtain ⟨Ao11, co11, eo11⟩ := Kd.R_slice HO109.out; subst eo11; obtain ⟨hcz12_0, hcz12_1, hcz12_2, hcz12_3, hfz12_0, hfz12_1, hfz12_2, hfz12_3⟩ := cZ4 BK113))
 (try simp only [Act.put, List.setIfInBounds_toArray, List.set_cons_zero, List.set_cons_succ])
 go_cut [21] (fun v21 wc => ∃ (kq : Nat) (x21_1 : Bool), v21 = .bool x21_1 ∧ Aside0 (parolelaw42_examples0.j0 kq y101 y104 x21_1 t107 t110 t111 t112 = some r) ∧ Aside0 (kq ≤ k) ∧ Aside0 (Kd.R k71 71 wc w.heap.size (fun _ => True) (.slice Ao7 y101.length co7) y101) ∧ Aside0 (Kd.R k47 47 wc w.heap.size (fun _ => True) (.slice Ao8 y104.length co8) y104) ∧ Aside0 (Kd.R k60 60 wc w.heap.size (fun _ => True) (.slice Ao11 t107.length co11) t107) ∧ Aside0 (wc.heap[gb113]? = some (.cells #[(.slice Ao11 t107.length co11), .int .i64 t110, .int .i64 t111, .int .i64 t112] 56 (0, 0))) ∧ Aside0 (Below w.heap.size w wc))
 case first =>
  have H := HC2.out; clear HC2
  by_cases c13 : t112 = 0
  ·rw [if_pos c13] at H
   have c13b0 : (t112 == 0) = true := beq_iff_eq.mpr c13
   have c13b1 : (t112 != 0) = false := bne_eq_false_iff_eq.mpr c13
   clear c13
   (first | rw [c13b0] | (simp only [i64_w, i32_w]; rw [c13b0]) | skip)
   have H' := aM H; clear H; obtain ⟨hcz14_0, hcz14_1, hcz14_2, hcz14_3, hfz14_0, hfz14_1, hfz14_2, hfz14_3⟩ := cZ4 BK113
   go_wp2
   go_meet
   case rel => exact ⟨_, (((t107.length : Int) != 2)), (by first | rfl | (simp; done) | (simp [*]; done)), H', ⟨by first | omega | exact Nat.le_refl _⟩, ⟨by (with_reducible repeat (first | apply Kd.R_alloc | apply Kd.R_drewN | apply Kd.R_drew)); exact Kd.R_mono (Kd.R_far (p := ⟨gb113, 3, none⟩) (Kd.R_far (p := ⟨gb113, 2, none⟩) (Kd.R_far (p := ⟨gb113, 1, none⟩) (Kd.R_far (p := ⟨gb113, 0, none⟩) (Kd.R_types HO103.out BK113.out (by decide)) (fun _ hk => hk.2) (.slice Ao11 t107.length co11)) (fun _ hk => hk.2) (.int .i64 t110)) (fun _ hk => hk.2) (.int .i64 t111)) (fun _ hk => hk.2) (.int .i64 t112)) (fun _ hk => trivial)⟩, ⟨by (with_reducible repeat (first | apply Kd.R_alloc | apply Kd.R_drewN | apply Kd.R_drew)); exact Kd.R_mono (Kd.R_far (p := ⟨gb113, 3, none⟩) (Kd.R_far (p := ⟨gb113, 2, none⟩) (Kd.R_far (p := ⟨gb113, 1, none⟩) (Kd.R_far (p := ⟨gb113, 0, none⟩) (Kd.R_types HO106.out BK113.out (by decide)) (fun _ hk => hk.2) (.slice Ao11 t107.length co11)) (fun _ hk => hk.2) (.int .i64 t110)) (fun _ hk => hk.2) (.int .i64 t111)) (fun _ hk => hk.2) (.int .i64 t112)) (fun _ hk => trivial)⟩, ⟨by (with_reducible repeat (first | apply Kd.R_alloc | apply Kd.R_drewN | apply Kd.R_drew)); exact Kd.R_mono (Kd.R_far (p := ⟨gb113, 3, none⟩) (Kd.R_far (p := ⟨gb113, 2, none⟩) (Kd.R_far (p := ⟨gb113, 1, none⟩) (Kd.R_far (p := ⟨gb113, 0, none⟩) (Kd.R_types HO109.out BK113.out (by decide)) (fun _ hk => hk.2) (.slice Ao11 t107.length co11)) (fun _ hk => hk.2) (.int .i64 t110)) (fun _ hk => hk.2) (.int .i64 t111)) (fun _ hk => hk.2) (.int .i64 t112)) (fun _ hk => trivial)⟩, ⟨by refine bM ?_; refine blk_put (cs := #[.slice Ao11 t107.length co11, .int .i64 t110, .int .i64 t111, .int .i64 0]) ?_ 3 _ rfl; refine bM ?_; refine blk_put (cs := #[.slice Ao11 t107.length co11, .int .i64 t110, .int .i64 0, .int .i64 0]) ?_ 2 _ rfl; refine bM ?_; refine blk_put (cs := #[.slice Ao11 t107.length co11, .int .i64 0, .int .i64 0, .int .i64 0]) ?_ 1 _ rfl; refine bM ?_; refine blk_put (cs := #[.slice none 0 0, .int .i64 0, .int .i64 0, .int .i64 0]) ?_ 0 _ rfl; exact bD BK113⟩, ⟨sD HB⟩⟩
  ·rw [if_neg c13] at H
   have c13b0 : (t112 == 0) = false := beq_eq_false_iff_ne.mpr c13
   have c13b1 : (t112 != 0) = true := bne_iff_ne.mpr c13
   (first | rw [c13b0] | (simp only [i64_w, i32_w]; rw [c13b0]) | skip)
   have H' := aM H; clear H; obtain ⟨hcz15_0, hcz15_1, hcz15_2, hcz15_3, hfz15_0, hfz15_1, hfz15_2, hfz15_3⟩ := cZ4 BK113
   go_wp2
   go_meet
   case rel => exact ⟨_, (true), (by first | rfl | (simp; done) | (simp [*]; done)), H', ⟨by first | omega | exact Nat.le_refl _⟩, ⟨by (with_reducible repeat (first | apply Kd.R_alloc | apply Kd.R_drewN | apply Kd.R_drew)); exact Kd.R_mono (Kd.R_far (p := ⟨gb113, 3, none⟩) (Kd.R_far (p := ⟨gb113, 2, none⟩) (Kd.R_far (p := ⟨gb113, 1, none⟩) (Kd.R_far (p := ⟨gb113, 0, none⟩) (Kd.R_types HO103.out BK113.out (by decide)) (fun _ hk => hk.2) (.slice Ao11 t107.length co11)) (fun _ hk => hk.2) (.int .i64 t110)) (fun _ hk => hk.2) (.int .i64 t111)) (fun _ hk => hk.2) (.int .i64 t112)) (fun _ hk => trivial)⟩, ⟨by (with_reducible repeat (first | apply Kd.R_alloc | apply Kd.R_drewN | apply Kd.R_drew)); exact Kd.R_mono (Kd.R_far (p := ⟨gb113, 3, none⟩) (Kd.R_far (p := ⟨gb113, 2, none⟩) (Kd.R_far (p := ⟨gb113, 1, none⟩) (Kd.R_far (p := ⟨gb113, 0, none⟩) (Kd.R_types HO106.out BK113.out (by decide)) (fun _ hk => hk.2) (.slice Ao11 t107.length co11)) (fun _ hk => hk.2) (.int .i64 t110)) (fun _ hk => hk.2) (.int .i64 t111)) (fun _ hk => hk.2) (.int .i64 t112)) (fun _ hk => trivial)⟩, ⟨by (with_reducible repeat (first | apply Kd.R_alloc | apply Kd.R_drewN | apply Kd.R_drew)); exact Kd.R_mono (Kd.R_far (p := ⟨gb113, 3, none⟩) (Kd.R_far (p := ⟨gb113, 2, none⟩) (Kd.R_far (p := ⟨gb113, 1, none⟩) (Kd.R_far (p := ⟨gb113, 0, none⟩) (Kd.R_types HO109.out BK113.out (by decide)) (fun _ hk => hk.2) (.slice Ao11 t107.length co11)) (fun _ hk => hk.2) (.int .i64 t110)) (fun _ hk => hk.2) (.int .i64 t111)) (fun _ hk => hk.2) (.int .i64 t112)) (fun _ hk => trivial)⟩, ⟨by refine bM ?_; refine blk_put (cs := #[.slice Ao11 t107.length co11, .int .i64 t110, .int .i64 t111, .int .i64 0]) ?_ 3 _ rfl; refine bM ?_; refine blk_put (cs := #[.slice Ao11 t107.length co11, .int .i64 t110, .int .i64 0, .int .i64 0]) ?_ 2 _ rfl; refine bM ?_; refine blk_put (cs := #[.slice Ao11 t107.length co11, .int .i64 0, .int .i64 0, .int .i64 0]) ?_ 1 _ rfl; refine bM ?_; refine blk_put (cs := #[.slice none 0 0, .int .i64 0, .int .i64 0, .int .i64 0]) ?_ 0 _ rfl; exact bD BK113⟩, ⟨sD HB⟩⟩
 case rest =>
  clear HC2
  try clear c1
  try clear c2
  try clear p2
  try clear c3
  try clear c13
  try clear c13b0
  try clear c13b1
  try clear hcz12_0
  try clear hcz12_1
  try clear hcz12_2
  try clear hcz12_3
  try clear hcz14_0
  try clear hcz14_1
  try clear hcz14_2
  try clear hcz14_3
  try clear hcz15_0
  try clear hcz15_1
  try clear hcz15_2
  try clear hcz15_3
  try clear hfz12_0
  try clear hfz12_1
  try clear hfz12_2
  try clear hfz12_3
  try clear hfz14_0
  try clear hfz14_1
  try clear hfz14_2
  try clear hfz14_3
  try clear hfz15_0
  try clear hfz15_1
  try clear hfz15_2
  try clear hfz15_3
  obtain ⟨kq, x21_1, rfl, HA, HJ1, HO_1, HO_2, HO_114000, BK113, HB⟩ := hcut
  cases kq with
  | zero => exact absurd HA.out (by simp [parolelaw42_examples0.j0])
  | succ kj1 =>
   have H := HA.out; clear HA
   simp only [parolelaw42_examples0.j0] at H
   by_cases c16 : x21_1 = true
   ·subst c16
    have H1 : (some false) = some r := by rw [if_pos rfl] at H; exact H
    clear H; have H := H1; clear H1
    exact absurd ((Option.some.inj H).trans HT.out) (by decide)
   ·replace c16 := Bool.eq_false_iff.mpr c16
    subst c16
    have H1 : ((paroleref42_Whole.f 40).bind fun bt114 => ((parolelaw42_settle.f kj1 t107 0 1 0 0 0 bt114.1 bt114.2).bind fun bt116 => (if 0 < (y104.length : Int) then ((parolelaw42_premium.f kj1 y101 ((rd_T47 y104 0).f0) ((rd_T47 y104 0).f1) ((rd_T47 y104 0).f2)).bind fun bt124 => ((paroleref42_Whole.f 20).bind fun bt127 => (if ((bt124.1 == bt127.1 && (bt124.2.1 == bt127.2)) && (bt124.2.2 == 0)) = true then ((parolelaw42_bond.f kj1 y101 y104 1 5).bind fun bt129 => (if ((bt129.1 == 57 && (bt129.2.1 == 2)) && (bt129.2.2 == 0)) = true then (if 0 < (t107.length : Int) then ((paroleref42_Whole.f 5).bind fun bt133 => (if (((rd_T60 t107 0).f1.f0) == bt133.1 && (((rd_T60 t107 0).f1.f1) == bt133.2)) = true then (if bt116.2.2.2 = 0 then (if (bt116.2.1 == 57 && (bt116.2.2.1 == 2)) = true then (if (bt116.1.length : Int) = 2 then (if 1 < (bt116.1.length : Int) then ((paroleref42_Whole.f 0).bind fun bt136 => (if (((rd_T60 bt116.1 1).f1.f0) == bt136.1 && (((rd_T60 bt116.1 1).f1.f1) == bt136.2)) = true then (if 0 < (bt116.1.length : Int) then (if (((rd_T60 bt116.1 0).f1.f0) == 67 && (((rd_T60 bt116.1 0).f1.f1) == 2)) = true then ((parolelaw42_premium.f kj1 y101 0 0 0).bind fun bt139 => (if bt139.2.2 = 1 then ((paroleref42_Whole.f 1).bind fun bt142 => ((parolelaw42_settle.f kj1 t107 0 2 0 0 0 bt142.1 bt142.2).bind fun bt144 => (some (bt144.2.2.2 == 4)))) else (some false))) else (some false)) else (none)) else (some false))) else (none)) else (some false)) else (some false)) else (some false)) else (some false))) else (none)) else (some false))) else (some false)))) else (none)))) = some r := by rw [if_neg (show ¬ (false = true) by decide)] at H; exact H
    clear H; have H := H1; clear H1; replace H := Option.bind_eq_some_iff.mp H
    obtain ⟨⟨t114, t115⟩, A170, H⟩ := H
    replace H : ((parolelaw42_settle.f kj1 t107 0 1 0 0 0 t114 t115).bind fun bt116 => (if 0 < (y104.length : Int) then ((parolelaw42_premium.f kj1 y101 ((rd_T47 y104 0).f0) ((rd_T47 y104 0).f1) ((rd_T47 y104 0).f2)).bind fun bt124 => ((paroleref42_Whole.f 20).bind fun bt127 => (if ((bt124.1 == bt127.1 && (bt124.2.1 == bt127.2)) && (bt124.2.2 == 0)) = true then ((parolelaw42_bond.f kj1 y101 y104 1 5).bind fun bt129 => (if ((bt129.1 == 57 && (bt129.2.1 == 2)) && (bt129.2.2 == 0)) = true then (if 0 < (t107.length : Int) then ((paroleref42_Whole.f 5).bind fun bt133 => (if (((rd_T60 t107 0).f1.f0) == bt133.1 && (((rd_T60 t107 0).f1.f1) == bt133.2)) = true then (if bt116.2.2.2 = 0 then (if (bt116.2.1 == 57 && (bt116.2.2.1 == 2)) = true then (if (bt116.1.length : Int) = 2 then (if 1 < (bt116.1.length : Int) then ((paroleref42_Whole.f 0).bind fun bt136 => (if (((rd_T60 bt116.1 1).f1.f0) == bt136.1 && (((rd_T60 bt116.1 1).f1.f1) == bt136.2)) = true then (if 0 < (bt116.1.length : Int) then (if (((rd_T60 bt116.1 0).f1.f0) == 67 && (((rd_T60 bt116.1 0).f1.f1) == 2)) = true then ((parolelaw42_premium.f kj1 y101 0 0 0).bind fun bt139 => (if bt139.2.2 = 1 then ((paroleref42_Whole.f 1).bind fun bt142 => ((parolelaw42_settle.f kj1 t107 0 2 0 0 0 bt142.1 bt142.2).bind fun bt144 => (some (bt144.2.2.2 == 4)))) else (some false))) else (some false)) else (none)) else (some false))) else (none)) else (some false)) else (some false)) else (some false)) else (some false))) else (none)) else (some false))) else (some false)))) else (none))) = some r := H
    have A17 := aM A170; clear A170; replace H := Option.bind_eq_some_iff.mp H
    obtain ⟨⟨t116, t119, t120, t121⟩, A180, H⟩ := H
    replace H : (if 0 < (y104.length : Int) then ((parolelaw42_premium.f kj1 y101 ((rd_T47 y104 0).f0) ((rd_T47 y104 0).f1) ((rd_T47 y104 0).f2)).bind fun bt124 => ((paroleref42_Whole.f 20).bind fun bt127 => (if ((bt124.1 == bt127.1 && (bt124.2.1 == bt127.2)) && (bt124.2.2 == 0)) = true then ((parolelaw42_bond.f kj1 y101 y104 1 5).bind fun bt129 => (if ((bt129.1 == 57 && (bt129.2.1 == 2)) && (bt129.2.2 == 0)) = true then (if 0 < (t107.length : Int) then ((paroleref42_Whole.f 5).bind fun bt133 => (if (((rd_T60 t107 0).f1.f0) == bt133.1 && (((rd_T60 t107 0).f1.f1) == bt133.2)) = true then (if t121 = 0 then (if (t119 == 57 && (t120 == 2)) = true then (if (t116.length : Int) = 2 then (if 1 < (t116.length : Int) then ((paroleref42_Whole.f 0).bind fun bt136 => (if (((rd_T60 t116 1).f1.f0) == bt136.1 && (((rd_T60 t116 1).f1.f1) == bt136.2)) = true then (if 0 < (t116.length : Int) then (if (((rd_T60 t116 0).f1.f0) == 67 && (((rd_T60 t116 0).f1.f1) == 2)) = true then ((parolelaw42_premium.f kj1 y101 0 0 0).bind fun bt139 => (if bt139.2.2 = 1 then ((paroleref42_Whole.f 1).bind fun bt142 => ((parolelaw42_settle.f kj1 t107 0 2 0 0 0 bt142.1 bt142.2).bind fun bt144 => (some (bt144.2.2.2 == 4)))) else (some false))) else (some false)) else (none)) else (some false))) else (none)) else (some false)) else (some false)) else (some false)) else (some false))) else (none)) else (some false))) else (some false)))) else (none)) = some r := H
    have A18 := aM A180; clear A180
    by_cases c19 : 0 < (y104.length : Int)
    ·rw [if_pos c19] at H
     have c19b0 : decide (0 < (y104.length : Int)) = true := decide_eq_true c19
     have c19b1 : decide (0 < y104.length) = true := decide_eq_true (by omega)
     clear c19; replace H := Option.bind_eq_some_iff.mp H
     obtain ⟨⟨t124, t125, t126⟩, A200, H⟩ := H
     replace H : ((paroleref42_Whole.f 20).bind fun bt127 => (if ((t124 == bt127.1 && (t125 == bt127.2)) && (t126 == 0)) = true then ((parolelaw42_bond.f kj1 y101 y104 1 5).bind fun bt129 => (if ((bt129.1 == 57 && (bt129.2.1 == 2)) && (bt129.2.2 == 0)) = true then (if 0 < (t107.length : Int) then ((paroleref42_Whole.f 5).bind fun bt133 => (if (((rd_T60 t107 0).f1.f0) == bt133.1 && (((rd_T60 t107 0).f1.f1) == bt133.2)) = true then (if t121 = 0 then (if (t119 == 57 && (t120 == 2)) = true then (if (t116.length : Int) = 2 then (if 1 < (t116.length : Int) then ((paroleref42_Whole.f 0).bind fun bt136 => (if (((rd_T60 t116 1).f1.f0) == bt136.1 && (((rd_T60 t116 1).f1.f1) == bt136.2)) = true then (if 0 < (t116.length : Int) then (if (((rd_T60 t116 0).f1.f0) == 67 && (((rd_T60 t116 0).f1.f1) == 2)) = true then ((parolelaw42_premium.f kj1 y101 0 0 0).bind fun bt139 => (if bt139.2.2 = 1 then ((paroleref42_Whole.f 1).bind fun bt142 => ((parolelaw42_settle.f kj1 t107 0 2 0 0 0 bt142.1 bt142.2).bind fun bt144 => (some (bt144.2.2.2 == 4)))) else (some false))) else (some false)) else (none)) else (some false))) else (none)) else (some false)) else (some false)) else (some false)) else (some false))) else (none)) else (some false))) else (some false))) = some r := H
     have A20 := aM A200; clear A200; replace H := Option.bind_eq_some_iff.mp H
     obtain ⟨⟨t127, t128⟩, A210, H⟩ := H
     replace H : (if ((t124 == t127 && (t125 == t128)) && (t126 == 0)) = true then ((parolelaw42_bond.f kj1 y101 y104 1 5).bind fun bt129 => (if ((bt129.1 == 57 && (bt129.2.1 == 2)) && (bt129.2.2 == 0)) = true then (if 0 < (t107.length : Int) then ((paroleref42_Whole.f 5).bind fun bt133 => (if (((rd_T60 t107 0).f1.f0) == bt133.1 && (((rd_T60 t107 0).f1.f1) == bt133.2)) = true then (if t121 = 0 then (if (t119 == 57 && (t120 == 2)) = true then (if (t116.length : Int) = 2 then (if 1 < (t116.length : Int) then ((paroleref42_Whole.f 0).bind fun bt136 => (if (((rd_T60 t116 1).f1.f0) == bt136.1 && (((rd_T60 t116 1).f1.f1) == bt136.2)) = true then (if 0 < (t116.length : Int) then (if (((rd_T60 t116 0).f1.f0) == 67 && (((rd_T60 t116 0).f1.f1) == 2)) = true then ((parolelaw42_premium.f kj1 y101 0 0 0).bind fun bt139 => (if bt139.2.2 = 1 then ((paroleref42_Whole.f 1).bind fun bt142 => ((parolelaw42_settle.f kj1 t107 0 2 0 0 0 bt142.1 bt142.2).bind fun bt144 => (some (bt144.2.2.2 == 4)))) else (some false))) else (some false)) else (none)) else (some false))) else (none)) else (some false)) else (some false)) else (some false)) else (some false))) else (none)) else (some false))) else (some false)) = some r := H
     have A21 := aM A210; clear A210
     by_cases c22 : ((t124 == t127 && (t125 == t128)) && (t126 == 0)) = true
     ·rw [if_pos c22] at H
      have c22b0 : ((t124 == t127 && (t125 == t128)) && (t126 == 0)) = true := c22
      clear c22; replace H := Option.bind_eq_some_iff.mp H
      obtain ⟨⟨t129, t130, t131⟩, A230, H⟩ := H
      replace H : (if ((t129 == 57 && (t130 == 2)) && (t131 == 0)) = true then (if 0 < (t107.length : Int) then ((paroleref42_Whole.f 5).bind fun bt133 => (if (((rd_T60 t107 0).f1.f0) == bt133.1 && (((rd_T60 t107 0).f1.f1) == bt133.2)) = true then (if t121 = 0 then (if (t119 == 57 && (t120 == 2)) = true then (if (t116.length : Int) = 2 then (if 1 < (t116.length : Int) then ((paroleref42_Whole.f 0).bind fun bt136 => (if (((rd_T60 t116 1).f1.f0) == bt136.1 && (((rd_T60 t116 1).f1.f1) == bt136.2)) = true then (if 0 < (t116.length : Int) then (if (((rd_T60 t116 0).f1.f0) == 67 && (((rd_T60 t116 0).f1.f1) == 2)) = true then ((parolelaw42_premium.f kj1 y101 0 0 0).bind fun bt139 => (if bt139.2.2 = 1 then ((paroleref42_Whole.f 1).bind fun bt142 => ((parolelaw42_settle.f kj1 t107 0 2 0 0 0 bt142.1 bt142.2).bind fun bt144 => (some (bt144.2.2.2 == 4)))) else (some false))) else (some false)) else (none)) else (some false))) else (none)) else (some false)) else (some false)) else (some false)) else (some false))) else (none)) else (some false)) = some r := H
      have A23 := aM A230; clear A230
      by_cases c24 : ((t129 == 57 && (t130 == 2)) && (t131 == 0)) = true
      ·rw [if_pos c24] at H
       have c24b0 : ((t129 == 57 && (t130 == 2)) && (t131 == 0)) = true := c24
       clear c24
       by_cases c25 : 0 < (t107.length : Int)
       ·rw [if_pos c25] at H
        have c25b0 : decide (0 < (t107.length : Int)) = true := decide_eq_true c25
        have c25b1 : decide (0 < t107.length) = true := decide_eq_true (by omega)
        clear c25; replace H := Option.bind_eq_some_iff.mp H
        obtain ⟨⟨t133, t134⟩, A260, H⟩ := H
        replace H : (if (((rd_T60 t107 0).f1.f0) == t133 && (((rd_T60 t107 0).f1.f1) == t134)) = true then (if t121 = 0 then (if (t119 == 57 && (t120 == 2)) = true then (if (t116.length : Int) = 2 then (if 1 < (t116.length : Int) then ((paroleref42_Whole.f 0).bind fun bt136 => (if (((rd_T60 t116 1).f1.f0) == bt136.1 && (((rd_T60 t116 1).f1.f1) == bt136.2)) = true then (if 0 < (t116.length : Int) then (if (((rd_T60 t116 0).f1.f0) == 67 && (((rd_T60 t116 0).f1.f1) == 2)) = true then ((parolelaw42_premium.f kj1 y101 0 0 0).bind fun bt139 => (if bt139.2.2 = 1 then ((paroleref42_Whole.f 1).bind fun bt142 => ((parolelaw42_settle.f kj1 t107 0 2 0 0 0 bt142.1 bt142.2).bind fun bt144 => (some (bt144.2.2.2 == 4)))) else (some false))) else (some false)) else (none)) else (some false))) else (none)) else (some false)) else (some false)) else (some false)) else (some false)) = some r := H
        have A26 := aM A260; clear A260
        by_cases c27 : (((rd_T60 t107 0).f1.f0) == t133 && (((rd_T60 t107 0).f1.f1) == t134)) = true
        ·rw [if_pos c27] at H
         have c27b0 : (((rd_T60 t107 0).f1.f0) == t133 && (((rd_T60 t107 0).f1.f1) == t134)) = true := c27
         (try (have c27b1 : decide (((rd_T60 t107 0).f1.f0) = t133 && (((rd_T60 t107 0).f1.f1) == t134)) = true := by simpa using c27))
         (try (have c27b2 : (((rd_T60 t107 0).f1.f0) == t133 && (((rd_T60 t107 0).f1.f1) == t134)) = true := by simpa using c27))
         clear c27
         by_cases c28 : t121 = 0
         ·rw [if_pos c28] at H
          have c28b0 : (t121 == 0) = true := beq_iff_eq.mpr c28
          have c28b1 : (t121 != 0) = false := bne_eq_false_iff_eq.mpr c28
          clear c28
          by_cases c29 : (t119 == 57 && (t120 == 2)) = true
          ·rw [if_pos c29] at H
           have c29b0 : (t119 == 57 && (t120 == 2)) = true := c29
           (try (have c29b1 : decide (t119 = 57 && (t120 == 2)) = true := by simpa using c29))
           (try (have c29b2 : (t119 == 57 && (t120 == 2)) = true := by simpa using c29))
           clear c29
           by_cases c30 : (t116.length : Int) = 2
           ·rw [if_pos c30] at H
            have c30b0 : ((t116.length : Int) == 2) = true := beq_iff_eq.mpr c30
            have c30b1 : ((t116.length : Int) != 2) = false := bne_eq_false_iff_eq.mpr c30
            clear c30
            by_cases c31 : 1 < (t116.length : Int)
            ·rw [if_pos c31] at H
             have c31b0 : decide (1 < (t116.length : Int)) = true := decide_eq_true c31
             have c31b1 : decide (1 < t116.length) = true := decide_eq_true (by omega)
             clear c31; replace H := Option.bind_eq_some_iff.mp H
             obtain ⟨⟨t136, t137⟩, A320, H⟩ := H
             replace H : (if (((rd_T60 t116 1).f1.f0) == t136 && (((rd_T60 t116 1).f1.f1) == t137)) = true then (if 0 < (t116.length : Int) then (if (((rd_T60 t116 0).f1.f0) == 67 && (((rd_T60 t116 0).f1.f1) == 2)) = true then ((parolelaw42_premium.f kj1 y101 0 0 0).bind fun bt139 => (if bt139.2.2 = 1 then ((paroleref42_Whole.f 1).bind fun bt142 => ((parolelaw42_settle.f kj1 t107 0 2 0 0 0 bt142.1 bt142.2).bind fun bt144 => (some (bt144.2.2.2 == 4)))) else (some false))) else (some false)) else (none)) else (some false)) = some r := H
             have A32 := aM A320; clear A320
             by_cases c33 : (((rd_T60 t116 1).f1.f0) == t136 && (((rd_T60 t116 1).f1.f1) == t137)) = true
             ·rw [if_pos c33] at H
              have c33b0 : (((rd_T60 t116 1).f1.f0) == t136 && (((rd_T60 t116 1).f1.f1) == t137)) = true := c33
              (try (have c33b1 : decide (((rd_T60 t116 1).f1.f0) = t136 && (((rd_T60 t116 1).f1.f1) == t137)) = true := by simpa using c33))
              (try (have c33b2 : (((rd_T60 t116 1).f1.f0) == t136 && (((rd_T60 t116 1).f1.f1) == t137)) = true := by simpa using c33))
              clear c33
              by_cases c34 : 0 < (t116.length : Int)
              ·rw [if_pos c34] at H
               have c34b0 : decide (0 < (t116.length : Int)) = true := decide_eq_true c34
               have c34b1 : decide (0 < t116.length) = true := decide_eq_true (by omega)
               clear c34
               by_cases c35 : (((rd_T60 t116 0).f1.f0) == 67 && (((rd_T60 t116 0).f1.f1) == 2)) = true
               ·rw [if_pos c35] at H
                have c35b0 : (((rd_T60 t116 0).f1.f0) == 67 && (((rd_T60 t116 0).f1.f1) == 2)) = true := c35
                (try (have c35b1 : decide (((rd_T60 t116 0).f1.f0) = 67 && (((rd_T60 t116 0).f1.f1) == 2)) = true := by simpa using c35))
                (try (have c35b2 : (((rd_T60 t116 0).f1.f0) == 67 && (((rd_T60 t116 0).f1.f1) == 2)) = true := by simpa using c35))
                clear c35; replace H := Option.bind_eq_some_iff.mp H
                obtain ⟨⟨t139, t140, t141⟩, A360, H⟩ := H
                replace H : (if t141 = 1 then ((paroleref42_Whole.f 1).bind fun bt142 => ((parolelaw42_settle.f kj1 t107 0 2 0 0 0 bt142.1 bt142.2).bind fun bt144 => (some (bt144.2.2.2 == 4)))) else (some false)) = some r := H
                have A36 := aM A360; clear A360
                by_cases c37 : t141 = 1
                ·rw [if_pos c37] at H
                 have c37b0 : (t141 == 1) = true := beq_iff_eq.mpr c37
                 have c37b1 : (t141 != 1) = false := bne_eq_false_iff_eq.mpr c37
                 clear c37; replace H := Option.bind_eq_some_iff.mp H
                 obtain ⟨⟨t142, t143⟩, A380, H⟩ := H
                 replace H : ((parolelaw42_settle.f kj1 t107 0 2 0 0 0 t142 t143).bind fun bt144 => (some (bt144.2.2.2 == 4))) = some r := H
                 have A38 := aM A380; clear A380; replace H := Option.bind_eq_some_iff.mp H
                 obtain ⟨⟨t144, t147, t148, t149⟩, A390, H⟩ := H
                 replace H : (some (t149 == 4)) = some r := H
                 have A39 := aM A390; clear A390
                 obtain rfl := Option.some.inj H
                 try go_wp2
                 replace HO_1 := aM (Kd.R_drew HO_1.out); replace HO_2 := aM (Kd.R_drew HO_2.out); replace HO_114000 := aM (Kd.R_drew HO_114000.out); replace BK113 := aM (blk_drew BK113.out); replace HB := aM (below_drew1 HB.out)
                 refine start_ (n := 7) (S := fun w' => w'.cell? ⟨gb113, 0, none⟩ = some (.slice Ao11 t107.length co11) ∧ w'.cell? ⟨gb113, 1, none⟩ = some (.int .i64 t110) ∧ w'.cell? ⟨gb113, 2, none⟩ = some (.int .i64 t111) ∧ w'.cell? ⟨gb113, 3, none⟩ = some (.int .i64 t112)) (ds := []) #[false, false, false, false, false, false, false] (by kernel_rfl) rfl rfl ⟨cE BK113 0, cE BK113 1, cE BK113 2, cE BK113 3⟩ (fun hHeld => ?_)
                 generalize wc.drew = w40 at HO_1 HO_2 HO_114000 BK113 HB hHeld ⊢
                 refine pure_ (i := 0) (N := some 22) (v := ?_) (a' := ?_) #[true, false, false, false, false, false, false] rfl rfl (by kernel_rfl) (fun _ _ _ h => h) (Or.inl ⟨by rfl, ?_⟩) ?_ ?_
                 rotate_left
                 ·intro w'
                  go_simp
                  with_reducible rfl
                 rotate_left
                 ·simp only [Act.put, List.setIfInBounds_toArray, List.set_cons_zero, List.set_cons_succ, i64_w, i32_w]
                  rfl
                 refine pure_ (i := 2) (N := some 24) (v := ?_) (a' := ?_) #[true, false, true, false, false, false, false] rfl rfl (by kernel_rfl) (fun _ _ _ h => h) (Or.inl ⟨by rfl, ?_⟩) ?_ ?_
                 rotate_left
                 ·intro w'
                  go_simp
                  with_reducible rfl
                 rotate_left
                 ·simp only [Act.put, List.setIfInBounds_toArray, List.set_cons_zero, List.set_cons_succ, i64_w, i32_w]
                  rfl
                 refine take_ (i := 1) (N := some 23) (v := ?_) (a' := ?_) #[true, true, true, false, false, false, false] rfl rfl (by kernel_rfl) (fun _ _ _ h => h) (Or.inl ⟨by rfl, ?_⟩) hHeld ?_ ?_
                 rotate_left
                 ·rintro w' ⟨s0, s1, s2, s3⟩
                  go_simp
                  with_reducible rfl
                 rotate_left
                 ·simp only [Act.put, List.setIfInBounds_toArray, List.set_cons_zero, List.set_cons_succ, i64_w, i32_w]
                  rfl
                 refine join_ (σ := Value × Nat) 1 #[true, true, true, true, true, true, false] (fun s_ => [(25, .agg #[.int .i64 t114, .int .i64 t115]), (26, .agg #[s_.1, .int .i64 t119, .int .i64 t120, .int .i64 t121]), (4, .pointer (some ⟨s_.2, 0, none⟩))]) (fun s_ w' => (w'.cell? ⟨gb113, 0, none⟩ = some (.slice Ao11 t107.length co11) ∧ w'.cell? ⟨gb113, 1, none⟩ = some (.int .i64 t110) ∧ w'.cell? ⟨gb113, 2, none⟩ = some (.int .i64 t111) ∧ w'.cell? ⟨gb113, 3, none⟩ = some (.int .i64 t112)) ∧ (Kd.R k60 60 w' w.heap.size (fun k_ => some k_ ≠ (.slice Ao11 t107.length co11 : Value).ownBlock) s_.1 t116) ∧ (Kd.R k71 71 w' w.heap.size (fun _ => True) (.slice Ao7 y101.length co7) y101) ∧ (Kd.R k60 60 w' w.heap.size (fun k_ => some k_ ≠ (s_.1 : Value).ownBlock) (.slice Ao11 t107.length co11) t107) ∧ (Kd.R k47 47 w' w.heap.size (fun _ => True) (.slice Ao8 y104.length co8) y104) ∧ (w'.heap[gb113]? = some (.cells #[.slice Ao11 t107.length co11, .int .i64 t110, .int .i64 t111, .int .i64 t112] 56 (0, 0))) ∧ (w'.heap[s_.2]? = some (.cells #[.slice none 0 0, .int .i64 0, .int .i64 0, .int .i64 0] 56 (0, 0))) ∧ (w.heap.size ≤ s_.2) ∧ (w.heap.size ≤ s_.2) ∧ (gb113 ≠ s_.2) ∧ (Below w.heap.size w w')) ?_ ?_
                 rotate_left
                 ·intro hCont
                  refine two_ (i := 3) (j := 5) (Ni := some 25) (Nj := some 4) #[true, true, true, true, false, false, false] #[true, true, true, false, false, true, false] rfl rfl rfl rfl (by kernel_rfl) (by decide) (by decide) (fun K hK => ?_) (fun K hK => ?_)
                  ·refine gS Try.func44 #[.int .i64 40] ?_
                   with_reducible refine (paroleref42_Whole.calls 40 t114 t115 _ A17.out).mono ?_
                   rintro e w41 ⟨rfl, hb⟩
                   refine ⟨_, rfl, ?_⟩
                   replace HO_1 := rB HO_1 hb; replace HO_2 := rB HO_2 hb; replace HO_114000 := rB HO_114000 hb; replace BK113 := bB BK113 hb; replace HB := sB HB hb; (try clear hb); (try clear hb2); (try clear hk); (try clear hi)
                   refine hK.out _ _ ⟨cE BK113 0, cE BK113 1, cE BK113 2, cE BK113 3⟩ (fun hHeld => ?_)
                   clear hK K
                   refine nX (some 25) ?_
                   refine two_ (i := 4) (j := 5) (Ni := some 26) (Nj := some 4) #[true, true, true, true, true, false, false] #[true, true, true, true, false, true, false] rfl rfl rfl rfl (by kernel_rfl) (by decide) (by decide) (fun K hK => ?_) (fun K hK => ?_)
                   ·refine gS Try.func45 #[.slice Ao11 t107.length co11, .agg #[.int .i64 0, .int .i64 1, .int .i64 0, .int .i64 0], .int .i64 0, .agg #[.int .i64 t114, .int .i64 t115]] ?_
                    with_reducible refine (parolelaw42_settle.calls kj1 _ _ t107 0 1 0 0 0 t114 t115 t116 t119 t120 t121 _ ?side1 ?side2 A18.out).mono ?_
                    (case side1 => exact rC HO_114000)
                    (case side2 => exact rN HO_114000)
                    rintro e w42 ⟨v117, rfl, ho0, hb⟩
                    refine ⟨_, rfl, ?_⟩
                    have HO118 := aM (Kd.R_lower (Kd.R_new' ho0 (Kd.R_lt (rD HO_114000))) (below_size (sD HB))); replace HO_1 := rB HO_1 hb; replace HO_2 := rB HO_2 hb; replace HO_114000 := aM (Kd.R_elder' (rD HO_114000) (Kd.R_base ho0) hb); replace BK113 := bB BK113 hb; replace HB := sB HB hb; (try clear hb); (try clear hb2); (try clear hk); (try clear hi); (try clear ho0)
                    refine hK.out _ _ ⟨cE BK113 0, cE BK113 1, cE BK113 2, cE BK113 3⟩ (fun hHeld => ?_)
                    clear hK K
                    refine nX (some 26) ?_
                    refine one_ (i := 5) (N := some 4) #[true, true, true, true, true, true, false] rfl rfl (by kernel_rfl) (by decide) (fun K hK => ?_)
                    refine bS (N := 4) (cs := #[.slice none 0 0, .int .i64 0, .int .i64 0, .int .i64 0]) (t := 56) ?_
                    intro gb122 hg w43 hbox hb
                    have BK122 := aM (hbox); have GW122 := gE hg HB; have GE122 := gE hg HB; have NB113_122 := nL hg BK113; replace HO_1 := rB HO_1 hb; replace HO_2 := rB HO_2 hb; replace HO_114000 := rB HO_114000 hb; replace HO118 := rB HO118 hb; replace BK113 := bB BK113 hb; replace HB := sB HB hb; clear hb hbox hg
                    refine hK.out _ _ ⟨cE BK113 0, cE BK113 1, cE BK113 2, cE BK113 3⟩ (fun hHeld => ?_)
                    clear hK K
                    refine nX (some 4) ?_
                    exact nP (hCont (v117, gb122) _ ⟨hHeld, (rD ⟨Kd.R_mono HO118.out (fun _ hk => hk.2)⟩), rD HO_1, (rD ⟨Kd.R_mono HO_114000.out (fun _ hk => hk.2)⟩), rD HO_2, bD BK113, bD BK122, GW122.out, GE122.out, NB113_122.out, sD HB⟩)
                   ·refine bS (N := 4) (cs := #[.slice none 0 0, .int .i64 0, .int .i64 0, .int .i64 0]) (t := 56) ?_
                    intro gb122 hg w42 hbox hb
                    have BK122 := aM (hbox); have GW122 := gE hg HB; have GE122 := gE hg HB; have NB113_122 := nL hg BK113; replace HO_1 := rB HO_1 hb; replace HO_2 := rB HO_2 hb; replace HO_114000 := rB HO_114000 hb; replace BK113 := bB BK113 hb; replace HB := sB HB hb; clear hb hbox hg
                    refine hK.out _ _ ⟨cE BK113 0, cE BK113 1, cE BK113 2, cE BK113 3⟩ (fun hHeld => ?_)
                    clear hK K
                    refine nX (some 4) ?_
                    refine one_ (i := 4) (N := some 26) #[true, true, true, true, true, true, false] rfl rfl (by kernel_rfl) (by decide) (fun K hK => ?_)
                    refine gS Try.func45 #[.slice Ao11 t107.length co11, .agg #[.int .i64 0, .int .i64 1, .int .i64 0, .int .i64 0], .int .i64 0, .agg #[.int .i64 t114, .int .i64 t115]] ?_
                    with_reducible refine (parolelaw42_settle.calls kj1 _ _ t107 0 1 0 0 0 t114 t115 t116 t119 t120 t121 _ ?side1 ?side2 A18.out).mono ?_
                    (case side1 => exact rC HO_114000)
                    (case side2 => exact rN HO_114000)
                    rintro e w43 ⟨v117, rfl, ho0, hb⟩
                    refine ⟨_, rfl, ?_⟩
                    have HO118 := aM (Kd.R_lower (Kd.R_new' ho0 (Kd.R_lt (rD HO_114000))) (below_size (sD HB))); replace HO_1 := rB HO_1 hb; replace HO_2 := rB HO_2 hb; replace HO_114000 := aM (Kd.R_elder' (rD HO_114000) (Kd.R_base ho0) hb); replace BK113 := bB BK113 hb; replace BK122 := bB BK122 hb; replace HB := sB HB hb; (try clear hb); (try clear hb2); (try clear hk); (try clear hi); (try clear ho0)
                    refine hK.out _ _ ⟨cE BK113 0, cE BK113 1, cE BK113 2, cE BK113 3⟩ (fun hHeld => ?_)
                    clear hK K
                    refine nX (some 26) ?_
                    exact nP (hCont (v117, gb122) _ ⟨hHeld, (rD ⟨Kd.R_mono HO118.out (fun _ hk => hk.2)⟩), rD HO_1, (rD ⟨Kd.R_mono HO_114000.out (fun _ hk => hk.2)⟩), rD HO_2, bD BK113, bD BK122, GW122.out, GE122.out, NB113_122.out, sD HB⟩)
                  ·refine bS (N := 4) (cs := #[.slice none 0 0, .int .i64 0, .int .i64 0, .int .i64 0]) (t := 56) ?_
                   intro gb122 hg w41 hbox hb
                   have BK122 := aM (hbox); have GW122 := gE hg HB; have GE122 := gE hg HB; have NB113_122 := nL hg BK113; replace HO_1 := rB HO_1 hb; replace HO_2 := rB HO_2 hb; replace HO_114000 := rB HO_114000 hb; replace BK113 := bB BK113 hb; replace HB := sB HB hb; clear hb hbox hg
                   refine hK.out _ _ ⟨cE BK113 0, cE BK113 1, cE BK113 2, cE BK113 3⟩ (fun hHeld => ?_)
                   clear hK K
                   refine nX (some 4) ?_
                   refine one_ (i := 3) (N := some 25) #[true, true, true, true, false, true, false] rfl rfl (by kernel_rfl) (by decide) (fun K hK => ?_)
                   refine gS Try.func44 #[.int .i64 40] ?_
                   with_reducible refine (paroleref42_Whole.calls 40 t114 t115 _ A17.out).mono ?_
                   rintro e w42 ⟨rfl, hb⟩
                   refine ⟨_, rfl, ?_⟩
                   replace HO_1 := rB HO_1 hb; replace HO_2 := rB HO_2 hb; replace HO_114000 := rB HO_114000 hb; replace BK113 := bB BK113 hb; replace BK122 := bB BK122 hb; replace HB := sB HB hb; (try clear hb); (try clear hb2); (try clear hk); (try clear hi)
                   refine hK.out _ _ ⟨cE BK113 0, cE BK113 1, cE BK113 2, cE BK113 3⟩ (fun hHeld => ?_)
                   clear hK K
                   refine nX (some 25) ?_
                   refine one_ (i := 4) (N := some 26) #[true, true, true, true, true, true, false] rfl rfl (by kernel_rfl) (by decide) (fun K hK => ?_)
                   refine gS Try.func45 #[.slice Ao11 t107.length co11, .agg #[.int .i64 0, .int .i64 1, .int .i64 0, .int .i64 0], .int .i64 0, .agg #[.int .i64 t114, .int .i64 t115]] ?_
                   with_reducible refine (parolelaw42_settle.calls kj1 _ _ t107 0 1 0 0 0 t114 t115 t116 t119 t120 t121 _ ?side1 ?side2 A18.out).mono ?_
                   (case side1 => exact rC HO_114000)
                   (case side2 => exact rN HO_114000)
                   rintro e w43 ⟨v117, rfl, ho0, hb⟩
                   refine ⟨_, rfl, ?_⟩
                   have HO118 := aM (Kd.R_lower (Kd.R_new' ho0 (Kd.R_lt (rD HO_114000))) (below_size (sD HB))); replace HO_1 := rB HO_1 hb; replace HO_2 := rB HO_2 hb; replace HO_114000 := aM (Kd.R_elder' (rD HO_114000) (Kd.R_base ho0) hb); replace BK113 := bB BK113 hb; replace BK122 := bB BK122 hb; replace HB := sB HB hb; (try clear hb); (try clear hb2); (try clear hk); (try clear hi); (try clear ho0)
                   refine hK.out _ _ ⟨cE BK113 0, cE BK113 1, cE BK113 2, cE BK113 3⟩ (fun hHeld => ?_)
                   clear hK K
                   refine nX (some 26) ?_
                   exact nP (hCont (v117, gb122) _ ⟨hHeld, (rD ⟨Kd.R_mono HO118.out (fun _ hk => hk.2)⟩), rD HO_1, (rD ⟨Kd.R_mono HO_114000.out (fun _ hk => hk.2)⟩), rD HO_2, bD BK113, bD BK122, GW122.out, GE122.out, NB113_122.out, sD HB⟩)
                 rintro ⟨v117, gb122⟩ w44 ⟨hS_, h0_, h1_, h2_, h3_, h4_, h5_, h6_, h7_, h8_, h10_⟩
                 (try dsimp only at h0_ h1_ h2_ h3_ h4_ h5_ h6_ h7_ h8_ h10_)
                 have HO118 := aM h0_; have BK122 := aM h5_; have GW122 := aM h6_; have GE122 := aM h7_; have NB113_122 := aM h8_; replace HO_1 := aM h1_; replace HO_114000 := aM h2_; replace HO_2 := aM h3_; replace BK113 := aM h4_; replace HB := aM h10_; clear h0_ h1_ h2_ h3_ h4_ h5_ h6_ h7_ h8_ h10_
                 (try dsimp only at hS_); have hHeld := hS_; clear hS_
                 obtain ⟨Ao45, co45, eo45⟩ := Kd.R_slice HO118.out
                 (first | subst eo45 | (injection eo45 with f1_ f2_ f3_; have f4_ := f1_.symm; have f5_ := f3_.symm; clear f1_ f2_ f3_; subst f4_; subst f5_))
                 refine nQ ?_
                 refine one_ (i := 6) (N := none) #[true, true, true, true, true, true, true] rfl rfl (by kernel_rfl) (by decide) (fun K hK => ?_)
                 have hs46 : w44.cell? ⟨gb122, 0, none⟩ = some (.slice none 0 0) := (blk_cell BK122.out 0).trans rfl
                 have hfs46 := blk_frozen BK122.out 0; have hns46_0 := NB113_122.out; have hms46_0 := NB113_122.out.symm
                 have hs47 : w44.cell? ⟨gb122, 1, none⟩ = some (.int .i64 0) := (blk_cell BK122.out 1).trans rfl
                 have hfs47 := blk_frozen BK122.out 1; have hns47_0 := NB113_122.out; have hms47_0 := NB113_122.out.symm
                 have hs48 : w44.cell? ⟨gb122, 2, none⟩ = some (.int .i64 0) := (blk_cell BK122.out 2).trans rfl
                 have hfs48 := blk_frozen BK122.out 2; have hns48_0 := NB113_122.out; have hms48_0 := NB113_122.out.symm
                 have hs49 : w44.cell? ⟨gb122, 3, none⟩ = some (.int .i64 0) := (blk_cell BK122.out 3).trans rfl
                 have hfs49 := blk_frozen BK122.out 3; have hns49_0 := NB113_122.out; have hms49_0 := NB113_122.out.symm
                 refine skip_ (w1 := ?_) (by rfl) rfl ?_ ?_
                 rotate_left
                 ·go_simp
                  rfl
                 refine hK.out _ _ ⟨((cell_far (p := ⟨gb122, _, none⟩) NB113_122.out _).trans (((cell_far (p := ⟨gb122, _, none⟩) NB113_122.out _).trans (((cell_far (p := ⟨gb122, _, none⟩) NB113_122.out _).trans (((cell_far (p := ⟨gb122, _, none⟩) NB113_122.out _).trans (hHeld.1)))))))), ((cell_far (p := ⟨gb122, _, none⟩) NB113_122.out _).trans (((cell_far (p := ⟨gb122, _, none⟩) NB113_122.out _).trans (((cell_far (p := ⟨gb122, _, none⟩) NB113_122.out _).trans (((cell_far (p := ⟨gb122, _, none⟩) NB113_122.out _).trans (hHeld.2.1)))))))), ((cell_far (p := ⟨gb122, _, none⟩) NB113_122.out _).trans (((cell_far (p := ⟨gb122, _, none⟩) NB113_122.out _).trans (((cell_far (p := ⟨gb122, _, none⟩) NB113_122.out _).trans (((cell_far (p := ⟨gb122, _, none⟩) NB113_122.out _).trans (hHeld.2.2.1)))))))), ((cell_far (p := ⟨gb122, _, none⟩) NB113_122.out _).trans (((cell_far (p := ⟨gb122, _, none⟩) NB113_122.out _).trans (((cell_far (p := ⟨gb122, _, none⟩) NB113_122.out _).trans (((cell_far (p := ⟨gb122, _, none⟩) NB113_122.out _).trans (hHeld.2.2.2))))))))⟩ (fun hHeld => ?_)
                 clear hK K
                 refine done_ (by kernel_rfl) ?_
                 try go_wp2
                 have n0_ : Aside0 (Kd.R k71 71 ((((w44.setCell ⟨gb122, 0, none⟩ (.slice Ao45 t116.length co45)).setCell ⟨gb122, 1, none⟩ (.int .i64 t119)).setCell ⟨gb122, 2, none⟩ (.int .i64 t120)).setCell ⟨gb122, 3, none⟩ (.int .i64 t121)) w.heap.size (fun _ => True) (.slice Ao7 y101.length co7) y101) := ⟨by (with_reducible repeat (first | apply Kd.R_alloc | apply Kd.R_drewN | apply Kd.R_drew)); exact Kd.R_mono (Kd.R_far (p := ⟨gb122, 3, none⟩) (Kd.R_far (p := ⟨gb122, 2, none⟩) (Kd.R_far (p := ⟨gb122, 1, none⟩) (Kd.R_far (p := ⟨gb122, 0, none⟩) (Kd.R_types HO_1.out BK122.out (by decide)) (fun _ hk => hk.2) (.slice Ao45 t116.length co45)) (fun _ hk => hk.2) (.int .i64 t119)) (fun _ hk => hk.2) (.int .i64 t120)) (fun _ hk => hk.2) (.int .i64 t121)) (fun _ hk => trivial)⟩
                 have n1_ : Aside0 (Kd.R k47 47 ((((w44.setCell ⟨gb122, 0, none⟩ (.slice Ao45 t116.length co45)).setCell ⟨gb122, 1, none⟩ (.int .i64 t119)).setCell ⟨gb122, 2, none⟩ (.int .i64 t120)).setCell ⟨gb122, 3, none⟩ (.int .i64 t121)) w.heap.size (fun _ => True) (.slice Ao8 y104.length co8) y104) := ⟨by (with_reducible repeat (first | apply Kd.R_alloc | apply Kd.R_drewN | apply Kd.R_drew)); exact Kd.R_mono (Kd.R_far (p := ⟨gb122, 3, none⟩) (Kd.R_far (p := ⟨gb122, 2, none⟩) (Kd.R_far (p := ⟨gb122, 1, none⟩) (Kd.R_far (p := ⟨gb122, 0, none⟩) (Kd.R_types HO_2.out BK122.out (by decide)) (fun _ hk => hk.2) (.slice Ao45 t116.length co45)) (fun _ hk => hk.2) (.int .i64 t119)) (fun _ hk => hk.2) (.int .i64 t120)) (fun _ hk => hk.2) (.int .i64 t121)) (fun _ hk => trivial)⟩
                 have n2_ : Aside0 (Kd.R k60 60 ((((w44.setCell ⟨gb122, 0, none⟩ (.slice Ao45 t116.length co45)).setCell ⟨gb122, 1, none⟩ (.int .i64 t119)).setCell ⟨gb122, 2, none⟩ (.int .i64 t120)).setCell ⟨gb122, 3, none⟩ (.int .i64 t121)) w.heap.size (fun k_ => some k_ ≠ (.slice Ao45 t116.length co45 : Value).ownBlock) (.slice Ao11 t107.length co11) t107) := ⟨by (with_reducible repeat (first | apply Kd.R_alloc | apply Kd.R_drewN | apply Kd.R_drew)); exact Kd.R_mono (Kd.R_far (p := ⟨gb122, 3, none⟩) (Kd.R_far (p := ⟨gb122, 2, none⟩) (Kd.R_far (p := ⟨gb122, 1, none⟩) (Kd.R_far (p := ⟨gb122, 0, none⟩) (Kd.R_types HO_114000.out BK122.out (by decide)) (fun _ hk => hk.2) (.slice Ao45 t116.length co45)) (fun _ hk => hk.2) (.int .i64 t119)) (fun _ hk => hk.2) (.int .i64 t120)) (fun _ hk => hk.2) (.int .i64 t121)) (fun _ hk => hk.1)⟩
                 have n3_ : Aside0 (Kd.R k60 60 ((((w44.setCell ⟨gb122, 0, none⟩ (.slice Ao45 t116.length co45)).setCell ⟨gb122, 1, none⟩ (.int .i64 t119)).setCell ⟨gb122, 2, none⟩ (.int .i64 t120)).setCell ⟨gb122, 3, none⟩ (.int .i64 t121)) w.heap.size (fun k_ => some k_ ≠ (.slice Ao11 t107.length co11 : Value).ownBlock) (.slice Ao45 t116.length co45) t116) := ⟨by (with_reducible repeat (first | apply Kd.R_alloc | apply Kd.R_drewN | apply Kd.R_drew)); exact Kd.R_mono (Kd.R_far (p := ⟨gb122, 3, none⟩) (Kd.R_far (p := ⟨gb122, 2, none⟩) (Kd.R_far (p := ⟨gb122, 1, none⟩) (Kd.R_far (p := ⟨gb122, 0, none⟩) (Kd.R_types HO118.out BK122.out (by decide)) (fun _ hk => hk.2) (.slice Ao45 t116.length co45)) (fun _ hk => hk.2) (.int .i64 t119)) (fun _ hk => hk.2) (.int .i64 t120)) (fun _ hk => hk.2) (.int .i64 t121)) (fun _ hk => hk.1)⟩
                 have n4_ : Aside0 (((((w44.setCell ⟨gb122, 0, none⟩ (.slice Ao45 t116.length co45)).setCell ⟨gb122, 1, none⟩ (.int .i64 t119)).setCell ⟨gb122, 2, none⟩ (.int .i64 t120)).setCell ⟨gb122, 3, none⟩ (.int .i64 t121)).heap[gb113]? = some (.cells #[.slice Ao11 t107.length co11, .int .i64 t110, .int .i64 t111, .int .i64 t112] 56 (0, 0))) := ⟨bF BK113⟩
                 have n5_ : Aside0 (((((w44.setCell ⟨gb122, 0, none⟩ (.slice Ao45 t116.length co45)).setCell ⟨gb122, 1, none⟩ (.int .i64 t119)).setCell ⟨gb122, 2, none⟩ (.int .i64 t120)).setCell ⟨gb122, 3, none⟩ (.int .i64 t121)).heap[gb122]? = some (.cells #[.slice Ao45 t116.length co45, .int .i64 t119, .int .i64 t120, .int .i64 t121] 56 (0, 0))) := ⟨by refine bM ?_; refine blk_put (cs := #[.slice Ao45 t116.length co45, .int .i64 t119, .int .i64 t120, .int .i64 0]) ?_ 3 _ rfl; refine bM ?_; refine blk_put (cs := #[.slice Ao45 t116.length co45, .int .i64 t119, .int .i64 0, .int .i64 0]) ?_ 2 _ rfl; refine bM ?_; refine blk_put (cs := #[.slice Ao45 t116.length co45, .int .i64 0, .int .i64 0, .int .i64 0]) ?_ 1 _ rfl; refine bM ?_; refine blk_put (cs := #[.slice none 0 0, .int .i64 0, .int .i64 0, .int .i64 0]) ?_ 0 _ rfl; exact bD BK122⟩
                 have n6_ : Aside0 (Below w.heap.size w ((((w44.setCell ⟨gb122, 0, none⟩ (.slice Ao45 t116.length co45)).setCell ⟨gb122, 1, none⟩ (.int .i64 t119)).setCell ⟨gb122, 2, none⟩ (.int .i64 t120)).setCell ⟨gb122, 3, none⟩ (.int .i64 t121))) := ⟨sD HB⟩
                 (try clear HO_1); (try clear HO_2); (try clear HO_114000); (try clear HO118); (try clear BK113); (try clear BK122); (try clear HB)
                 generalize ((((w44.setCell ⟨gb122, 0, none⟩ (.slice Ao45 t116.length co45)).setCell ⟨gb122, 1, none⟩ (.int .i64 t119)).setCell ⟨gb122, 2, none⟩ (.int .i64 t120)).setCell ⟨gb122, 3, none⟩ (.int .i64 t121)) = w50 at n0_ n1_ n2_ n3_ n4_ n5_ n6_ ⊢
                 have HO_1 := n0_; have HO_2 := n1_; have HO_114000 := n2_; have HO118 := n3_; have BK113 := n4_; have BK122 := n5_; have HB := n6_; clear n0_ n1_ n2_ n3_ n4_ n5_ n6_; replace HO_1 := aM (Kd.R_drew HO_1.out); replace HO_2 := aM (Kd.R_drew HO_2.out); replace HO_114000 := aM (Kd.R_drew HO_114000.out); replace HO118 := aM (Kd.R_drew HO118.out); replace BK113 := aM (blk_drew BK113.out); replace BK122 := aM (blk_drew BK122.out); replace HB := aM (below_drew1 HB.out)
                 have p123 : 0 ≤ (0 : Int) := (by omega)
                 have q123 : 0 < (y104.length : Int) := of_decide_eq_true (by first | (with_reducible assumption) | assumption)
                 obtain ⟨ad123, e123, hx123_0, hx123_1, hx123_2⟩ := at_T47 (Kd.R_reads' HO_2.out).2.2 0 p123 q123
                 cases e123
                 have qi123 : (0 < y104.length) = True := eq_true (by omega)
                 (try rw [show ((0 : Int)).toNat = 0 from rfl] at hx123_0)
                 (try rw [show 0 * 3 = 0 from rfl] at hx123_0)
                 (try rw [Addr.add_zero'] at hx123_0)
                 (try rw [show ((0 : Int)).toNat = 0 from rfl] at hx123_1)
                 (try rw [show 0 * 3 = 0 from rfl] at hx123_1)
                 (try rw [Addr.add_zero'] at hx123_1)
                 (try rw [show ((0 : Int)).toNat = 0 from rfl] at hx123_2)
                 (try rw [show 0 * 3 = 0 from rfl] at hx123_2)
                 (try rw [Addr.add_zero'] at hx123_2)
                 replace p123 := eq_true p123; replace q123 := eq_true q123
                 have p132 : 0 ≤ (0 : Int) := (by omega)
                 have q132 : 0 < (t107.length : Int) := of_decide_eq_true (by first | (with_reducible assumption) | assumption)
                 obtain ⟨ad132, e132, hx132_0, hx132_1, hx132_2⟩ := at_T60 (Kd.R_reads' HO_114000.out).2.2 0 p132 q132
                 cases e132
                 have qi132 : (0 < t107.length) = True := eq_true (by omega)
                 (try rw [show ((0 : Int)).toNat = 0 from rfl] at hx132_0)
                 (try rw [show 0 * 3 = 0 from rfl] at hx132_0)
                 (try rw [Addr.add_zero'] at hx132_0)
                 (try rw [show ((0 : Int)).toNat = 0 from rfl] at hx132_1)
                 (try rw [show 0 * 3 = 0 from rfl] at hx132_1)
                 (try rw [Addr.add_zero'] at hx132_1)
                 (try rw [show ((0 : Int)).toNat = 0 from rfl] at hx132_2)
                 (try rw [show 0 * 3 = 0 from rfl] at hx132_2)
                 (try rw [Addr.add_zero'] at hx132_2)
                 replace p132 := eq_true p132; replace q132 := eq_true q132
                 have p135 : 0 ≤ (1 : Int) := (by omega)
                 have q135 : 1 < (t116.length : Int) := of_decide_eq_true (by first | (with_reducible assumption) | assumption)
                 obtain ⟨ad135, e135, hx135_0, hx135_1, hx135_2⟩ := at_T60 (Kd.R_reads' HO118.out).2.2 1 p135 q135
                 cases e135
                 (try simp only [show (1 : Int).toNat = 1 from rfl, Nat.reduceMul, Nat.reduceEqDiff, Go.Addr.add, ↓reduceIte] at hx135_0)
                 (try simp only [show (1 : Int).toNat = 1 from rfl, Nat.reduceMul, Nat.reduceEqDiff, Go.Addr.add, ↓reduceIte] at hx135_1)
                 (try simp only [show (1 : Int).toNat = 1 from rfl, Nat.reduceMul, Nat.reduceEqDiff, Go.Addr.add, ↓reduceIte] at hx135_2)
                 have qi135 : (1 < t116.length) = True := eq_true (by omega)
                 (try rw [show ((1 : Int)).toNat = 1 from rfl] at hx135_0)
                 (try rw [show 1 * 3 = 3 from rfl] at hx135_0)
                 (try rw [show ((1 : Int)).toNat = 1 from rfl] at hx135_1)
                 (try rw [show 1 * 3 = 3 from rfl] at hx135_1)
                 (try rw [show ((1 : Int)).toNat = 1 from rfl] at hx135_2)
                 (try rw [show 1 * 3 = 3 from rfl] at hx135_2)
                 replace p135 := eq_true p135; replace q135 := eq_true q135
                 have p138 : 0 ≤ (0 : Int) := (by omega)
                 have q138 : 0 < (t116.length : Int) := of_decide_eq_true (by first | (with_reducible assumption) | assumption)
                 obtain ⟨ad138, e138, hx138_0, hx138_1, hx138_2⟩ := at_T60 (Kd.R_reads' HO118.out).2.2 0 p138 q138
                 obtain rfl : ad135 = ad138 := (by injection e138)
                 have qi138 : (0 < t116.length) = True := eq_true (by omega)
                 (try rw [show ((0 : Int)).toNat = 0 from rfl] at hx138_0)
                 (try rw [show 0 * 3 = 0 from rfl] at hx138_0)
                 (try rw [Addr.add_zero'] at hx138_0)
                 (try rw [show ((0 : Int)).toNat = 0 from rfl] at hx138_1)
                 (try rw [show 0 * 3 = 0 from rfl] at hx138_1)
                 (try rw [Addr.add_zero'] at hx138_1)
                 (try rw [show ((0 : Int)).toNat = 0 from rfl] at hx138_2)
                 (try rw [show 0 * 3 = 0 from rfl] at hx138_2)
                 (try rw [Addr.add_zero'] at hx138_2)
                 replace p138 := eq_true p138; replace q138 := eq_true q138
                 refine start_ (n := 77) (S := fun w' => w'.cell? ⟨gb113, 0, none⟩ = some (.slice (some ad132) t107.length co11) ∧ w'.cell? ⟨gb113, 1, none⟩ = some (.int .i64 t110) ∧ w'.cell? ⟨gb113, 2, none⟩ = some (.int .i64 t111) ∧ w'.cell? ⟨gb113, 3, none⟩ = some (.int .i64 t112) ∧ w'.cell? ⟨gb122, 0, none⟩ = some (.slice (some ad135) t116.length co45) ∧ w'.cell? ⟨gb122, 1, none⟩ = some (.int .i64 t119) ∧ w'.cell? ⟨gb122, 2, none⟩ = some (.int .i64 t120) ∧ w'.cell? ⟨gb122, 3, none⟩ = some (.int .i64 t121) ∧ w'.cell? ad123 = some (.int .i64 ((rd_T47 y104 0).f0)) ∧ w'.cell? ⟨ad123.block, ad123.off + 1, none⟩ = some (.int .i64 ((rd_T47 y104 0).f1)) ∧ w'.cell? ⟨ad123.block, ad123.off + 2, none⟩ = some (.int .i64 ((rd_T47 y104 0).f2)) ∧ w'.cell? ad132 = some (.int .i64 ((rd_T60 t107 0).f0)) ∧ w'.cell? ⟨ad132.block, ad132.off + 1, none⟩ = some (.int .i64 ((rd_T60 t107 0).f1.f0)) ∧ w'.cell? ⟨ad132.block, ad132.off + 2, none⟩ = some (.int .i64 ((rd_T60 t107 0).f1.f1)) ∧ w'.cell? ⟨ad135.block, ad135.off + 3, none⟩ = some (.int .i64 ((rd_T60 t116 1).f0)) ∧ w'.cell? ⟨ad135.block, ad135.off + 3 + 1, none⟩ = some (.int .i64 ((rd_T60 t116 1).f1.f0)) ∧ w'.cell? ⟨ad135.block, ad135.off + 3 + 2, none⟩ = some (.int .i64 ((rd_T60 t116 1).f1.f1)) ∧ w'.cell? ad135 = some (.int .i64 ((rd_T60 t116 0).f0)) ∧ w'.cell? ⟨ad135.block, ad135.off + 1, none⟩ = some (.int .i64 ((rd_T60 t116 0).f1.f0)) ∧ w'.cell? ⟨ad135.block, ad135.off + 2, none⟩ = some (.int .i64 ((rd_T60 t116 0).f1.f1))) (ds := []) #[false, false, false, false, false, false, false, false, false, false, false, false, false, false, false, false, false, false, false, false, false, false, false, false, false, false, false, false, false, false, false, false, false, false, false, false, false, false, false, false, false, false, false, false, false, false, false, false, false, false, false, false, false, false, false, false, false, false, false, false, false, false, false, false, false, false, false, false, false, false, false, false, false, false, false, false, false] (by kernel_rfl) rfl rfl ⟨cE BK113 0, cE BK113 1, cE BK113 2, cE BK113 3, cE BK122 0, cE BK122 1, cE BK122 2, cE BK122 3, hx123_0, hx123_1, hx123_2, hx132_0, hx132_1, hx132_2, hx135_0, hx135_1, hx135_2, hx138_0, hx138_1, hx138_2⟩ (fun hHeld => ?_); refine with_tabW parolelaw42_examples0.tab6 parolelaw42_examples0.bits6 (fun HT_ HW_ => ?_)
                 generalize w50.drew = w51 at HO_1 HO_2 HO_114000 HO118 BK113 BK122 HB hx123_0 hx123_1 hx123_2 hx132_0 hx132_1 hx132_2 hx135_0 hx135_1 hx135_2 hx138_0 hx138_1 hx138_2 hHeld ⊢
                 refine pX (i := 0) (N := some 27) rfl rfl HT_ ?_
                 refine pX (i := 1) (N := some 28) rfl rfl HT_ ?_
                 refine pX (i := 2) (N := some 29) rfl rfl HT_ ?_
                 refine tX (i := 3) (N := some 30) rfl rfl HT_ HW_ hHeld (Or.inl ⟨by rfl, by rintro w' ⟨s0, s1, s2, s3, s4, s5, s6, s7, s8, s9, s10, s11, s12, s13, s14, s15, s16, s17, s18, s19⟩; go_simp; with_reducible rfl⟩) ?_
                 refine oX (i := 4) (N := some 31) rfl rfl HT_ (fun K hK => ?_)
                 refine gS Try.func31 #[.slice Ao7 y101.length co7, .agg #[.int .i64 ((rd_T47 y104 0).f0), .int .i64 ((rd_T47 y104 0).f1), .int .i64 ((rd_T47 y104 0).f2)]] ?_
                 with_reducible refine (parolelaw42_premium.calls kj1 _ _ y101 ((rd_T47 y104 0).f0) ((rd_T47 y104 0).f1) ((rd_T47 y104 0).f2) t124 t125 t126 _ ?side1 ?side2 A20.out).mono ?_
                 (case side1 => exact rC HO_1)
                 (case side2 => exact rN HO_1)
                 rintro e w52 ⟨rfl, hb⟩
                 have HS8_ := (hb.cell (World.block_lt_of_cell? _ _ (hHeld.2.2.2.2.2.2.2.2.1))).trans (hHeld.2.2.2.2.2.2.2.2.1); have HS9_ := (hb.cell (World.block_lt_of_cell? _ _ (hHeld.2.2.2.2.2.2.2.2.2.1))).trans (hHeld.2.2.2.2.2.2.2.2.2.1); have HS10_ := (hb.cell (World.block_lt_of_cell? _ _ (hHeld.2.2.2.2.2.2.2.2.2.2.1))).trans (hHeld.2.2.2.2.2.2.2.2.2.2.1); have HS11_ := (hb.cell (World.block_lt_of_cell? _ _ (hHeld.2.2.2.2.2.2.2.2.2.2.2.1))).trans (hHeld.2.2.2.2.2.2.2.2.2.2.2.1); have HS12_ := (hb.cell (World.block_lt_of_cell? _ _ (hHeld.2.2.2.2.2.2.2.2.2.2.2.2.1))).trans (hHeld.2.2.2.2.2.2.2.2.2.2.2.2.1); have HS13_ := (hb.cell (World.block_lt_of_cell? _ _ (hHeld.2.2.2.2.2.2.2.2.2.2.2.2.2.1))).trans (hHeld.2.2.2.2.2.2.2.2.2.2.2.2.2.1)
                 have HS14_ := (hb.cell (World.block_lt_of_cell? _ _ (hHeld.2.2.2.2.2.2.2.2.2.2.2.2.2.2.1))).trans (hHeld.2.2.2.2.2.2.2.2.2.2.2.2.2.2.1); have HS15_ := (hb.cell (World.block_lt_of_cell? _ _ (hHeld.2.2.2.2.2.2.2.2.2.2.2.2.2.2.2.1))).trans (hHeld.2.2.2.2.2.2.2.2.2.2.2.2.2.2.2.1); have HS16_ := (hb.cell (World.block_lt_of_cell? _ _ (hHeld.2.2.2.2.2.2.2.2.2.2.2.2.2.2.2.2.1))).trans (hHeld.2.2.2.2.2.2.2.2.2.2.2.2.2.2.2.2.1); have HS17_ := (hb.cell (World.block_lt_of_cell? _ _ (hHeld.2.2.2.2.2.2.2.2.2.2.2.2.2.2.2.2.2.1))).trans (hHeld.2.2.2.2.2.2.2.2.2.2.2.2.2.2.2.2.2.1); have HS18_ := (hb.cell (World.block_lt_of_cell? _ _ (hHeld.2.2.2.2.2.2.2.2.2.2.2.2.2.2.2.2.2.2.1))).trans (hHeld.2.2.2.2.2.2.2.2.2.2.2.2.2.2.2.2.2.2.1)
                 have HS19_ := (hb.cell (World.block_lt_of_cell? _ _ (hHeld.2.2.2.2.2.2.2.2.2.2.2.2.2.2.2.2.2.2.2))).trans (hHeld.2.2.2.2.2.2.2.2.2.2.2.2.2.2.2.2.2.2.2)
                 refine ⟨_, rfl, ?_⟩
                 replace HO_1 := rB HO_1 hb; replace HO_2 := rB HO_2 hb; replace HO_114000 := rB HO_114000 hb; replace HO118 := rB HO118 hb; replace BK113 := bB BK113 hb; replace BK122 := bB BK122 hb; replace HB := sB HB hb; (try clear hb); (try clear hb2); (try clear hk); (try clear hi)
                 refine hK.out _ _ ⟨cE BK113 0, cE BK113 1, cE BK113 2, cE BK113 3, cE BK122 0, cE BK122 1, cE BK122 2, cE BK122 3, HS8_, HS9_, HS10_, HS11_, HS12_, HS13_, HS14_, HS15_, HS16_, HS17_, HS18_, HS19_⟩ (fun hHeld => ?_)
                 clear hK K
                 refine nX (some 31) ?_
                 refine oX (i := 5) (N := some 32) rfl rfl HT_ (fun K hK => ?_)
                 refine gS Try.func44 #[.int .i64 20] ?_
                 with_reducible refine (paroleref42_Whole.calls 20 t127 t128 _ A21.out).mono ?_
                 rintro e w53 ⟨rfl, hb⟩
                 have HS8_ := (hb.cell (World.block_lt_of_cell? _ _ (hHeld.2.2.2.2.2.2.2.2.1))).trans (hHeld.2.2.2.2.2.2.2.2.1); have HS9_ := (hb.cell (World.block_lt_of_cell? _ _ (hHeld.2.2.2.2.2.2.2.2.2.1))).trans (hHeld.2.2.2.2.2.2.2.2.2.1); have HS10_ := (hb.cell (World.block_lt_of_cell? _ _ (hHeld.2.2.2.2.2.2.2.2.2.2.1))).trans (hHeld.2.2.2.2.2.2.2.2.2.2.1); have HS11_ := (hb.cell (World.block_lt_of_cell? _ _ (hHeld.2.2.2.2.2.2.2.2.2.2.2.1))).trans (hHeld.2.2.2.2.2.2.2.2.2.2.2.1); have HS12_ := (hb.cell (World.block_lt_of_cell? _ _ (hHeld.2.2.2.2.2.2.2.2.2.2.2.2.1))).trans (hHeld.2.2.2.2.2.2.2.2.2.2.2.2.1); have HS13_ := (hb.cell (World.block_lt_of_cell? _ _ (hHeld.2.2.2.2.2.2.2.2.2.2.2.2.2.1))).trans (hHeld.2.2.2.2.2.2.2.2.2.2.2.2.2.1)
                 have HS14_ := (hb.cell (World.block_lt_of_cell? _ _ (hHeld.2.2.2.2.2.2.2.2.2.2.2.2.2.2.1))).trans (hHeld.2.2.2.2.2.2.2.2.2.2.2.2.2.2.1); have HS15_ := (hb.cell (World.block_lt_of_cell? _ _ (hHeld.2.2.2.2.2.2.2.2.2.2.2.2.2.2.2.1))).trans (hHeld.2.2.2.2.2.2.2.2.2.2.2.2.2.2.2.1); have HS16_ := (hb.cell (World.block_lt_of_cell? _ _ (hHeld.2.2.2.2.2.2.2.2.2.2.2.2.2.2.2.2.1))).trans (hHeld.2.2.2.2.2.2.2.2.2.2.2.2.2.2.2.2.1); have HS17_ := (hb.cell (World.block_lt_of_cell? _ _ (hHeld.2.2.2.2.2.2.2.2.2.2.2.2.2.2.2.2.2.1))).trans (hHeld.2.2.2.2.2.2.2.2.2.2.2.2.2.2.2.2.2.1); have HS18_ := (hb.cell (World.block_lt_of_cell? _ _ (hHeld.2.2.2.2.2.2.2.2.2.2.2.2.2.2.2.2.2.2.1))).trans (hHeld.2.2.2.2.2.2.2.2.2.2.2.2.2.2.2.2.2.2.1)
                 have HS19_ := (hb.cell (World.block_lt_of_cell? _ _ (hHeld.2.2.2.2.2.2.2.2.2.2.2.2.2.2.2.2.2.2.2))).trans (hHeld.2.2.2.2.2.2.2.2.2.2.2.2.2.2.2.2.2.2.2)
                 refine ⟨_, rfl, ?_⟩
                 replace HO_1 := rB HO_1 hb; replace HO_2 := rB HO_2 hb; replace HO_114000 := rB HO_114000 hb; replace HO118 := rB HO118 hb; replace BK113 := bB BK113 hb; replace BK122 := bB BK122 hb; replace HB := sB HB hb; (try clear hb); (try clear hb2); (try clear hk); (try clear hi)
                 refine hK.out _ _ ⟨cE BK113 0, cE BK113 1, cE BK113 2, cE BK113 3, cE BK122 0, cE BK122 1, cE BK122 2, cE BK122 3, HS8_, HS9_, HS10_, HS11_, HS12_, HS13_, HS14_, HS15_, HS16_, HS17_, HS18_, HS19_⟩ (fun hHeld => ?_)
                 clear hK K
                 refine nX (some 32) ?_
                 refine pX (i := 6) (N := some 33) rfl rfl HT_ ?_
                 refine pX (i := 7) (N := some 34) rfl rfl HT_ ?_
                 refine pX (i := 8) (N := some 35) rfl rfl HT_ ?_
                 refine pX (i := 9) (N := some 36) rfl rfl HT_ ?_
                 refine pX (i := 10) (N := some 37) rfl rfl HT_ ?_
                 refine pX (i := 12) (N := some 39) rfl rfl HT_ ?_
                 refine pX (i := 13) (N := some 40) rfl rfl HT_ ?_
                 refine oX (i := 11) (N := some 38) rfl rfl HT_ (fun K hK => ?_)
                 refine gS Try.func33 #[.slice Ao7 y101.length co7, .slice (some ad123) y104.length co8, .int .i64 1, .int .i64 5] ?_
                 with_reducible refine (parolelaw42_bond.calls kj1 _ _ y101 _ _ y104 1 5 t129 t130 t131 _ ?side1 ?side2 ?side3 ?side4 A23.out).mono ?_
                 (case side1 => exact rC HO_1)
                 (case side2 => exact rN HO_1)
                 (case side3 => exact rC HO_2)
                 (case side4 => exact rN HO_2)
                 rintro e w54 ⟨rfl, hb⟩
                 have HS8_ := (hb.cell (World.block_lt_of_cell? _ _ (hHeld.2.2.2.2.2.2.2.2.1))).trans (hHeld.2.2.2.2.2.2.2.2.1); have HS9_ := (hb.cell (World.block_lt_of_cell? _ _ (hHeld.2.2.2.2.2.2.2.2.2.1))).trans (hHeld.2.2.2.2.2.2.2.2.2.1); have HS10_ := (hb.cell (World.block_lt_of_cell? _ _ (hHeld.2.2.2.2.2.2.2.2.2.2.1))).trans (hHeld.2.2.2.2.2.2.2.2.2.2.1); have HS11_ := (hb.cell (World.block_lt_of_cell? _ _ (hHeld.2.2.2.2.2.2.2.2.2.2.2.1))).trans (hHeld.2.2.2.2.2.2.2.2.2.2.2.1); have HS12_ := (hb.cell (World.block_lt_of_cell? _ _ (hHeld.2.2.2.2.2.2.2.2.2.2.2.2.1))).trans (hHeld.2.2.2.2.2.2.2.2.2.2.2.2.1); have HS13_ := (hb.cell (World.block_lt_of_cell? _ _ (hHeld.2.2.2.2.2.2.2.2.2.2.2.2.2.1))).trans (hHeld.2.2.2.2.2.2.2.2.2.2.2.2.2.1)
                 have HS14_ := (hb.cell (World.block_lt_of_cell? _ _ (hHeld.2.2.2.2.2.2.2.2.2.2.2.2.2.2.1))).trans (hHeld.2.2.2.2.2.2.2.2.2.2.2.2.2.2.1); have HS15_ := (hb.cell (World.block_lt_of_cell? _ _ (hHeld.2.2.2.2.2.2.2.2.2.2.2.2.2.2.2.1))).trans (hHeld.2.2.2.2.2.2.2.2.2.2.2.2.2.2.2.1); have HS16_ := (hb.cell (World.block_lt_of_cell? _ _ (hHeld.2.2.2.2.2.2.2.2.2.2.2.2.2.2.2.2.1))).trans (hHeld.2.2.2.2.2.2.2.2.2.2.2.2.2.2.2.2.1); have HS17_ := (hb.cell (World.block_lt_of_cell? _ _ (hHeld.2.2.2.2.2.2.2.2.2.2.2.2.2.2.2.2.2.1))).trans (hHeld.2.2.2.2.2.2.2.2.2.2.2.2.2.2.2.2.2.1); have HS18_ := (hb.cell (World.block_lt_of_cell? _ _ (hHeld.2.2.2.2.2.2.2.2.2.2.2.2.2.2.2.2.2.2.1))).trans (hHeld.2.2.2.2.2.2.2.2.2.2.2.2.2.2.2.2.2.2.1)
                 have HS19_ := (hb.cell (World.block_lt_of_cell? _ _ (hHeld.2.2.2.2.2.2.2.2.2.2.2.2.2.2.2.2.2.2.2))).trans (hHeld.2.2.2.2.2.2.2.2.2.2.2.2.2.2.2.2.2.2.2)
                 refine ⟨_, rfl, ?_⟩
                 replace HO_1 := rB HO_1 hb; replace HO_2 := rB HO_2 hb; replace HO_114000 := rB HO_114000 hb; replace HO118 := rB HO118 hb; replace BK113 := bB BK113 hb; replace BK122 := bB BK122 hb; replace HB := sB HB hb; (try clear hb); (try clear hb2); (try clear hk); (try clear hi)
                 refine hK.out _ _ ⟨cE BK113 0, cE BK113 1, cE BK113 2, cE BK113 3, cE BK122 0, cE BK122 1, cE BK122 2, cE BK122 3, HS8_, HS9_, HS10_, HS11_, HS12_, HS13_, HS14_, HS15_, HS16_, HS17_, HS18_, HS19_⟩ (fun hHeld => ?_)
                 clear hK K
                 refine nX (some 38) ?_
                 refine pX (i := 14) (N := some 41) rfl rfl HT_ ?_
                 refine pX (i := 15) (N := some 42) rfl rfl HT_ ?_
                 refine pX (i := 16) (N := some 43) rfl rfl HT_ ?_
                 refine pX (i := 17) (N := some 44) rfl rfl HT_ ?_
                 refine tX (i := 18) (N := some 45) rfl rfl HT_ HW_ hHeld (Or.inl ⟨by rfl, by rintro w' ⟨s0, s1, s2, s3, s4, s5, s6, s7, s8, s9, s10, s11, s12, s13, s14, s15, s16, s17, s18, s19⟩; go_simp; with_reducible rfl⟩) ?_
                 refine pX (i := 19) (N := some 46) rfl rfl HT_ ?_
                 refine pX (i := 20) (N := some 47) rfl rfl HT_ ?_
                 refine tX (i := 21) (N := some 48) rfl rfl HT_ HW_ hHeld (Or.inl ⟨by rfl, by rintro w' ⟨s0, s1, s2, s3, s4, s5, s6, s7, s8, s9, s10, s11, s12, s13, s14, s15, s16, s17, s18, s19⟩; go_simp; with_reducible rfl⟩) ?_
                 refine oX (i := 22) (N := some 49) rfl rfl HT_ (fun K hK => ?_)
                 refine gS Try.func44 #[.int .i64 5] ?_
                 with_reducible refine (paroleref42_Whole.calls 5 t133 t134 _ A26.out).mono ?_
                 rintro e w55 ⟨rfl, hb⟩
                 have HS8_ := (hb.cell (World.block_lt_of_cell? _ _ (hHeld.2.2.2.2.2.2.2.2.1))).trans (hHeld.2.2.2.2.2.2.2.2.1); have HS9_ := (hb.cell (World.block_lt_of_cell? _ _ (hHeld.2.2.2.2.2.2.2.2.2.1))).trans (hHeld.2.2.2.2.2.2.2.2.2.1); have HS10_ := (hb.cell (World.block_lt_of_cell? _ _ (hHeld.2.2.2.2.2.2.2.2.2.2.1))).trans (hHeld.2.2.2.2.2.2.2.2.2.2.1); have HS11_ := (hb.cell (World.block_lt_of_cell? _ _ (hHeld.2.2.2.2.2.2.2.2.2.2.2.1))).trans (hHeld.2.2.2.2.2.2.2.2.2.2.2.1); have HS12_ := (hb.cell (World.block_lt_of_cell? _ _ (hHeld.2.2.2.2.2.2.2.2.2.2.2.2.1))).trans (hHeld.2.2.2.2.2.2.2.2.2.2.2.2.1); have HS13_ := (hb.cell (World.block_lt_of_cell? _ _ (hHeld.2.2.2.2.2.2.2.2.2.2.2.2.2.1))).trans (hHeld.2.2.2.2.2.2.2.2.2.2.2.2.2.1)
                 have HS14_ := (hb.cell (World.block_lt_of_cell? _ _ (hHeld.2.2.2.2.2.2.2.2.2.2.2.2.2.2.1))).trans (hHeld.2.2.2.2.2.2.2.2.2.2.2.2.2.2.1); have HS15_ := (hb.cell (World.block_lt_of_cell? _ _ (hHeld.2.2.2.2.2.2.2.2.2.2.2.2.2.2.2.1))).trans (hHeld.2.2.2.2.2.2.2.2.2.2.2.2.2.2.2.1); have HS16_ := (hb.cell (World.block_lt_of_cell? _ _ (hHeld.2.2.2.2.2.2.2.2.2.2.2.2.2.2.2.2.1))).trans (hHeld.2.2.2.2.2.2.2.2.2.2.2.2.2.2.2.2.1); have HS17_ := (hb.cell (World.block_lt_of_cell? _ _ (hHeld.2.2.2.2.2.2.2.2.2.2.2.2.2.2.2.2.2.1))).trans (hHeld.2.2.2.2.2.2.2.2.2.2.2.2.2.2.2.2.2.1); have HS18_ := (hb.cell (World.block_lt_of_cell? _ _ (hHeld.2.2.2.2.2.2.2.2.2.2.2.2.2.2.2.2.2.2.1))).trans (hHeld.2.2.2.2.2.2.2.2.2.2.2.2.2.2.2.2.2.2.1)
                 have HS19_ := (hb.cell (World.block_lt_of_cell? _ _ (hHeld.2.2.2.2.2.2.2.2.2.2.2.2.2.2.2.2.2.2.2))).trans (hHeld.2.2.2.2.2.2.2.2.2.2.2.2.2.2.2.2.2.2.2)
                 refine ⟨_, rfl, ?_⟩
                 replace HO_1 := rB HO_1 hb; replace HO_2 := rB HO_2 hb; replace HO_114000 := rB HO_114000 hb; replace HO118 := rB HO118 hb; replace BK113 := bB BK113 hb; replace BK122 := bB BK122 hb; replace HB := sB HB hb; (try clear hb); (try clear hb2); (try clear hk); (try clear hi)
                 refine hK.out _ _ ⟨cE BK113 0, cE BK113 1, cE BK113 2, cE BK113 3, cE BK122 0, cE BK122 1, cE BK122 2, cE BK122 3, HS8_, HS9_, HS10_, HS11_, HS12_, HS13_, HS14_, HS15_, HS16_, HS17_, HS18_, HS19_⟩ (fun hHeld => ?_)
                 clear hK K
                 refine nX (some 49) ?_
                 refine pX (i := 23) (N := some 50) rfl rfl HT_ ?_
                 refine pX (i := 24) (N := some 51) rfl rfl HT_ ?_
                 refine pX (i := 25) (N := some 52) rfl rfl HT_ ?_
                 refine pX (i := 26) (N := some 53) rfl rfl HT_ ?_
                 refine tX (i := 27) (N := some 54) rfl rfl HT_ HW_ hHeld (Or.inl ⟨by rfl, by rintro w' ⟨s0, s1, s2, s3, s4, s5, s6, s7, s8, s9, s10, s11, s12, s13, s14, s15, s16, s17, s18, s19⟩; go_simp; with_reducible rfl⟩) ?_
                 refine pX (i := 28) (N := some 55) rfl rfl HT_ ?_
                 refine pX (i := 29) (N := some 56) rfl rfl HT_ ?_
                 refine pX (i := 30) (N := some 57) rfl rfl HT_ ?_
                 refine pX (i := 31) (N := some 58) rfl rfl HT_ ?_
                 refine pX (i := 33) (N := some 60) rfl rfl HT_ ?_
                 refine tX (i := 32) (N := some 59) rfl rfl HT_ HW_ hHeld (Or.inl ⟨by rfl, by rintro w' ⟨s0, s1, s2, s3, s4, s5, s6, s7, s8, s9, s10, s11, s12, s13, s14, s15, s16, s17, s18, s19⟩; go_simp; with_reducible rfl⟩) ?_
                 refine pX (i := 34) (N := some 61) rfl rfl HT_ ?_
                 refine pX (i := 35) (N := some 62) rfl rfl HT_ ?_
                 refine pX (i := 36) (N := some 63) rfl rfl HT_ ?_
                 refine pX (i := 37) (N := some 64) rfl rfl HT_ ?_
                 refine tX (i := 38) (N := some 65) rfl rfl HT_ HW_ hHeld (Or.inl ⟨by rfl, by rintro w' ⟨s0, s1, s2, s3, s4, s5, s6, s7, s8, s9, s10, s11, s12, s13, s14, s15, s16, s17, s18, s19⟩; go_simp; with_reducible rfl⟩) ?_
                 refine pX (i := 39) (N := some 66) rfl rfl HT_ ?_
                 refine pX (i := 40) (N := some 67) rfl rfl HT_ ?_
                 refine pX (i := 41) (N := some 68) rfl rfl HT_ ?_
                 refine pX (i := 42) (N := some 69) rfl rfl HT_ ?_
                 refine pX (i := 43) (N := some 70) rfl rfl HT_ ?_
                 refine tX (i := 44) (N := some 71) rfl rfl HT_ HW_ hHeld (Or.inl ⟨by rfl, by rintro w' ⟨s0, s1, s2, s3, s4, s5, s6, s7, s8, s9, s10, s11, s12, s13, s14, s15, s16, s17, s18, s19⟩; go_simp; with_reducible rfl⟩) ?_
                 refine pX (i := 45) (N := some 72) rfl rfl HT_ ?_
                 refine pX (i := 46) (N := some 73) rfl rfl HT_ ?_
                 refine tX (i := 47) (N := some 74) rfl rfl HT_ HW_ hHeld (Or.inl ⟨by rfl, by rintro w' ⟨s0, s1, s2, s3, s4, s5, s6, s7, s8, s9, s10, s11, s12, s13, s14, s15, s16, s17, s18, s19⟩; go_simp; with_reducible rfl⟩) ?_
                 refine oX (i := 48) (N := some 75) rfl rfl HT_ (fun K hK => ?_)
                 refine gS Try.func44 #[.int .i64 0] ?_
                 with_reducible refine (paroleref42_Whole.calls 0 t136 t137 _ A32.out).mono ?_
                 rintro e w56 ⟨rfl, hb⟩
                 have HS8_ := (hb.cell (World.block_lt_of_cell? _ _ (hHeld.2.2.2.2.2.2.2.2.1))).trans (hHeld.2.2.2.2.2.2.2.2.1); have HS9_ := (hb.cell (World.block_lt_of_cell? _ _ (hHeld.2.2.2.2.2.2.2.2.2.1))).trans (hHeld.2.2.2.2.2.2.2.2.2.1); have HS10_ := (hb.cell (World.block_lt_of_cell? _ _ (hHeld.2.2.2.2.2.2.2.2.2.2.1))).trans (hHeld.2.2.2.2.2.2.2.2.2.2.1); have HS11_ := (hb.cell (World.block_lt_of_cell? _ _ (hHeld.2.2.2.2.2.2.2.2.2.2.2.1))).trans (hHeld.2.2.2.2.2.2.2.2.2.2.2.1); have HS12_ := (hb.cell (World.block_lt_of_cell? _ _ (hHeld.2.2.2.2.2.2.2.2.2.2.2.2.1))).trans (hHeld.2.2.2.2.2.2.2.2.2.2.2.2.1); have HS13_ := (hb.cell (World.block_lt_of_cell? _ _ (hHeld.2.2.2.2.2.2.2.2.2.2.2.2.2.1))).trans (hHeld.2.2.2.2.2.2.2.2.2.2.2.2.2.1)
                 have HS14_ := (hb.cell (World.block_lt_of_cell? _ _ (hHeld.2.2.2.2.2.2.2.2.2.2.2.2.2.2.1))).trans (hHeld.2.2.2.2.2.2.2.2.2.2.2.2.2.2.1); have HS15_ := (hb.cell (World.block_lt_of_cell? _ _ (hHeld.2.2.2.2.2.2.2.2.2.2.2.2.2.2.2.1))).trans (hHeld.2.2.2.2.2.2.2.2.2.2.2.2.2.2.2.1); have HS16_ := (hb.cell (World.block_lt_of_cell? _ _ (hHeld.2.2.2.2.2.2.2.2.2.2.2.2.2.2.2.2.1))).trans (hHeld.2.2.2.2.2.2.2.2.2.2.2.2.2.2.2.2.1); have HS17_ := (hb.cell (World.block_lt_of_cell? _ _ (hHeld.2.2.2.2.2.2.2.2.2.2.2.2.2.2.2.2.2.1))).trans (hHeld.2.2.2.2.2.2.2.2.2.2.2.2.2.2.2.2.2.1); have HS18_ := (hb.cell (World.block_lt_of_cell? _ _ (hHeld.2.2.2.2.2.2.2.2.2.2.2.2.2.2.2.2.2.2.1))).trans (hHeld.2.2.2.2.2.2.2.2.2.2.2.2.2.2.2.2.2.2.1)
                 have HS19_ := (hb.cell (World.block_lt_of_cell? _ _ (hHeld.2.2.2.2.2.2.2.2.2.2.2.2.2.2.2.2.2.2.2))).trans (hHeld.2.2.2.2.2.2.2.2.2.2.2.2.2.2.2.2.2.2.2)
                 refine ⟨_, rfl, ?_⟩
                 replace HO_1 := rB HO_1 hb; replace HO_2 := rB HO_2 hb; replace HO_114000 := rB HO_114000 hb; replace HO118 := rB HO118 hb; replace BK113 := bB BK113 hb; replace BK122 := bB BK122 hb; replace HB := sB HB hb; (try clear hb); (try clear hb2); (try clear hk); (try clear hi)
                 refine hK.out _ _ ⟨cE BK113 0, cE BK113 1, cE BK113 2, cE BK113 3, cE BK122 0, cE BK122 1, cE BK122 2, cE BK122 3, HS8_, HS9_, HS10_, HS11_, HS12_, HS13_, HS14_, HS15_, HS16_, HS17_, HS18_, HS19_⟩ (fun hHeld => ?_)
                 clear hK K
                 refine nX (some 75) ?_
                 refine pX (i := 49) (N := some 76) rfl rfl HT_ ?_
                 refine pX (i := 50) (N := some 77) rfl rfl HT_ ?_
                 refine pX (i := 51) (N := some 78) rfl rfl HT_ ?_
                 refine pX (i := 52) (N := some 79) rfl rfl HT_ ?_
                 refine pX (i := 57) (N := some 84) rfl rfl HT_ ?_
                 refine tX (i := 53) (N := some 80) rfl rfl HT_ HW_ hHeld (Or.inl ⟨by rfl, by rintro w' ⟨s0, s1, s2, s3, s4, s5, s6, s7, s8, s9, s10, s11, s12, s13, s14, s15, s16, s17, s18, s19⟩; go_simp; with_reducible rfl⟩) ?_
                 refine pX (i := 54) (N := some 81) rfl rfl HT_ ?_
                 refine pX (i := 55) (N := some 82) rfl rfl HT_ ?_
                 refine tX (i := 56) (N := some 83) rfl rfl HT_ HW_ hHeld (Or.inl ⟨by rfl, by rintro w' ⟨s0, s1, s2, s3, s4, s5, s6, s7, s8, s9, s10, s11, s12, s13, s14, s15, s16, s17, s18, s19⟩; go_simp; with_reducible rfl⟩) ?_
                 refine pX (i := 58) (N := some 85) rfl rfl HT_ ?_
                 refine pX (i := 59) (N := some 86) rfl rfl HT_ ?_
                 refine pX (i := 60) (N := some 87) rfl rfl HT_ ?_
                 refine pX (i := 61) (N := some 88) rfl rfl HT_ ?_
                 refine pX (i := 62) (N := some 89) rfl rfl HT_ ?_
                 refine oX (i := 63) (N := some 90) rfl rfl HT_ (fun K hK => ?_)
                 refine gS Try.func31 #[.slice Ao7 y101.length co7, .agg #[.int .i64 0, .int .i64 0, .int .i64 0]] ?_
                 with_reducible refine (parolelaw42_premium.calls kj1 _ _ y101 0 0 0 t139 t140 t141 _ ?side1 ?side2 A36.out).mono ?_
                 (case side1 => exact rC HO_1)
                 (case side2 => exact rN HO_1)
                 rintro e w57 ⟨rfl, hb⟩
                 have HS8_ := (hb.cell (World.block_lt_of_cell? _ _ (hHeld.2.2.2.2.2.2.2.2.1))).trans (hHeld.2.2.2.2.2.2.2.2.1); have HS9_ := (hb.cell (World.block_lt_of_cell? _ _ (hHeld.2.2.2.2.2.2.2.2.2.1))).trans (hHeld.2.2.2.2.2.2.2.2.2.1); have HS10_ := (hb.cell (World.block_lt_of_cell? _ _ (hHeld.2.2.2.2.2.2.2.2.2.2.1))).trans (hHeld.2.2.2.2.2.2.2.2.2.2.1); have HS11_ := (hb.cell (World.block_lt_of_cell? _ _ (hHeld.2.2.2.2.2.2.2.2.2.2.2.1))).trans (hHeld.2.2.2.2.2.2.2.2.2.2.2.1); have HS12_ := (hb.cell (World.block_lt_of_cell? _ _ (hHeld.2.2.2.2.2.2.2.2.2.2.2.2.1))).trans (hHeld.2.2.2.2.2.2.2.2.2.2.2.2.1); have HS13_ := (hb.cell (World.block_lt_of_cell? _ _ (hHeld.2.2.2.2.2.2.2.2.2.2.2.2.2.1))).trans (hHeld.2.2.2.2.2.2.2.2.2.2.2.2.2.1)
                 have HS14_ := (hb.cell (World.block_lt_of_cell? _ _ (hHeld.2.2.2.2.2.2.2.2.2.2.2.2.2.2.1))).trans (hHeld.2.2.2.2.2.2.2.2.2.2.2.2.2.2.1); have HS15_ := (hb.cell (World.block_lt_of_cell? _ _ (hHeld.2.2.2.2.2.2.2.2.2.2.2.2.2.2.2.1))).trans (hHeld.2.2.2.2.2.2.2.2.2.2.2.2.2.2.2.1); have HS16_ := (hb.cell (World.block_lt_of_cell? _ _ (hHeld.2.2.2.2.2.2.2.2.2.2.2.2.2.2.2.2.1))).trans (hHeld.2.2.2.2.2.2.2.2.2.2.2.2.2.2.2.2.1); have HS17_ := (hb.cell (World.block_lt_of_cell? _ _ (hHeld.2.2.2.2.2.2.2.2.2.2.2.2.2.2.2.2.2.1))).trans (hHeld.2.2.2.2.2.2.2.2.2.2.2.2.2.2.2.2.2.1); have HS18_ := (hb.cell (World.block_lt_of_cell? _ _ (hHeld.2.2.2.2.2.2.2.2.2.2.2.2.2.2.2.2.2.2.1))).trans (hHeld.2.2.2.2.2.2.2.2.2.2.2.2.2.2.2.2.2.2.1)
                 have HS19_ := (hb.cell (World.block_lt_of_cell? _ _ (hHeld.2.2.2.2.2.2.2.2.2.2.2.2.2.2.2.2.2.2.2))).trans (hHeld.2.2.2.2.2.2.2.2.2.2.2.2.2.2.2.2.2.2.2)
                 refine ⟨_, rfl, ?_⟩
                 replace HO_1 := rB HO_1 hb; replace HO_2 := rB HO_2 hb; replace HO_114000 := rB HO_114000 hb; replace HO118 := rB HO118 hb; replace BK113 := bB BK113 hb; replace BK122 := bB BK122 hb; replace HB := sB HB hb; (try clear hb); (try clear hb2); (try clear hk); (try clear hi)
                 refine hK.out _ _ ⟨cE BK113 0, cE BK113 1, cE BK113 2, cE BK113 3, cE BK122 0, cE BK122 1, cE BK122 2, cE BK122 3, HS8_, HS9_, HS10_, HS11_, HS12_, HS13_, HS14_, HS15_, HS16_, HS17_, HS18_, HS19_⟩ (fun hHeld => ?_)
                 clear hK K
                 refine nX (some 90) ?_
                 refine pX (i := 64) (N := some 91) rfl rfl HT_ ?_
                 refine pX (i := 65) (N := some 92) rfl rfl HT_ ?_
                 refine pX (i := 66) (N := some 93) rfl rfl HT_ ?_
                 refine pX (i := 67) (N := some 94) rfl rfl HT_ ?_
                 refine pX (i := 68) (N := some 95) rfl rfl HT_ ?_
                 refine pX (i := 70) (N := some 97) rfl rfl HT_ ?_
                 refine tX (i := 69) (N := some 96) rfl rfl HT_ HW_ hHeld (Or.inl ⟨by rfl, by rintro w' ⟨s0, s1, s2, s3, s4, s5, s6, s7, s8, s9, s10, s11, s12, s13, s14, s15, s16, s17, s18, s19⟩; go_simp; with_reducible rfl⟩) ?_
                 refine oX (i := 71) (N := some 98) rfl rfl HT_ (fun K hK => ?_)
                 refine gS Try.func44 #[.int .i64 1] ?_
                 with_reducible refine (paroleref42_Whole.calls 1 t142 t143 _ A38.out).mono ?_
                 rintro e w58 ⟨rfl, hb⟩
                 have HS8_ := (hb.cell (World.block_lt_of_cell? _ _ (hHeld.2.2.2.2.2.2.2.2.1))).trans (hHeld.2.2.2.2.2.2.2.2.1); have HS9_ := (hb.cell (World.block_lt_of_cell? _ _ (hHeld.2.2.2.2.2.2.2.2.2.1))).trans (hHeld.2.2.2.2.2.2.2.2.2.1); have HS10_ := (hb.cell (World.block_lt_of_cell? _ _ (hHeld.2.2.2.2.2.2.2.2.2.2.1))).trans (hHeld.2.2.2.2.2.2.2.2.2.2.1); have HS11_ := (hb.cell (World.block_lt_of_cell? _ _ (hHeld.2.2.2.2.2.2.2.2.2.2.2.1))).trans (hHeld.2.2.2.2.2.2.2.2.2.2.2.1); have HS12_ := (hb.cell (World.block_lt_of_cell? _ _ (hHeld.2.2.2.2.2.2.2.2.2.2.2.2.1))).trans (hHeld.2.2.2.2.2.2.2.2.2.2.2.2.1); have HS13_ := (hb.cell (World.block_lt_of_cell? _ _ (hHeld.2.2.2.2.2.2.2.2.2.2.2.2.2.1))).trans (hHeld.2.2.2.2.2.2.2.2.2.2.2.2.2.1)
                 have HS14_ := (hb.cell (World.block_lt_of_cell? _ _ (hHeld.2.2.2.2.2.2.2.2.2.2.2.2.2.2.1))).trans (hHeld.2.2.2.2.2.2.2.2.2.2.2.2.2.2.1); have HS15_ := (hb.cell (World.block_lt_of_cell? _ _ (hHeld.2.2.2.2.2.2.2.2.2.2.2.2.2.2.2.1))).trans (hHeld.2.2.2.2.2.2.2.2.2.2.2.2.2.2.2.1); have HS16_ := (hb.cell (World.block_lt_of_cell? _ _ (hHeld.2.2.2.2.2.2.2.2.2.2.2.2.2.2.2.2.1))).trans (hHeld.2.2.2.2.2.2.2.2.2.2.2.2.2.2.2.2.1); have HS17_ := (hb.cell (World.block_lt_of_cell? _ _ (hHeld.2.2.2.2.2.2.2.2.2.2.2.2.2.2.2.2.2.1))).trans (hHeld.2.2.2.2.2.2.2.2.2.2.2.2.2.2.2.2.2.1); have HS18_ := (hb.cell (World.block_lt_of_cell? _ _ (hHeld.2.2.2.2.2.2.2.2.2.2.2.2.2.2.2.2.2.2.1))).trans (hHeld.2.2.2.2.2.2.2.2.2.2.2.2.2.2.2.2.2.2.1)
                 have HS19_ := (hb.cell (World.block_lt_of_cell? _ _ (hHeld.2.2.2.2.2.2.2.2.2.2.2.2.2.2.2.2.2.2.2))).trans (hHeld.2.2.2.2.2.2.2.2.2.2.2.2.2.2.2.2.2.2.2)
                 refine ⟨_, rfl, ?_⟩
                 replace HO_1 := rB HO_1 hb; replace HO_2 := rB HO_2 hb; replace HO_114000 := rB HO_114000 hb; replace HO118 := rB HO118 hb; replace BK113 := bB BK113 hb; replace BK122 := bB BK122 hb; replace HB := sB HB hb; (try clear hb); (try clear hb2); (try clear hk); (try clear hi)
                 refine hK.out _ _ ⟨cE BK113 0, cE BK113 1, cE BK113 2, cE BK113 3, cE BK122 0, cE BK122 1, cE BK122 2, cE BK122 3, HS8_, HS9_, HS10_, HS11_, HS12_, HS13_, HS14_, HS15_, HS16_, HS17_, HS18_, HS19_⟩ (fun hHeld => ?_)
                 clear hK K
                 refine nX (some 98) ?_
                 refine oX (i := 72) (N := some 99) rfl rfl HT_ (fun K hK => ?_)
                 refine gS Try.func45 #[.slice (some ad132) t107.length co11, .agg #[.int .i64 0, .int .i64 2, .int .i64 0, .int .i64 0], .int .i64 0, .agg #[.int .i64 t142, .int .i64 t143]] ?_
                 with_reducible refine (parolelaw42_settle.calls kj1 _ _ t107 0 2 0 0 0 t142 t143 t144 t147 t148 t149 _ ?side1 ?side2 A39.out).mono ?_
                 (case side1 => exact rC HO_114000)
                 (case side2 => exact rN HO_114000)
                 rintro e w59 ⟨v145, rfl, ho0, hb⟩
                 have HS8_ := (hb.cell (World.block_lt_of_cell? _ _ (hHeld.2.2.2.2.2.2.2.2.1))).trans (hHeld.2.2.2.2.2.2.2.2.1); have HS9_ := (hb.cell (World.block_lt_of_cell? _ _ (hHeld.2.2.2.2.2.2.2.2.2.1))).trans (hHeld.2.2.2.2.2.2.2.2.2.1); have HS10_ := (hb.cell (World.block_lt_of_cell? _ _ (hHeld.2.2.2.2.2.2.2.2.2.2.1))).trans (hHeld.2.2.2.2.2.2.2.2.2.2.1); have HS11_ := (hb.cell (World.block_lt_of_cell? _ _ (hHeld.2.2.2.2.2.2.2.2.2.2.2.1))).trans (hHeld.2.2.2.2.2.2.2.2.2.2.2.1); have HS12_ := (hb.cell (World.block_lt_of_cell? _ _ (hHeld.2.2.2.2.2.2.2.2.2.2.2.2.1))).trans (hHeld.2.2.2.2.2.2.2.2.2.2.2.2.1); have HS13_ := (hb.cell (World.block_lt_of_cell? _ _ (hHeld.2.2.2.2.2.2.2.2.2.2.2.2.2.1))).trans (hHeld.2.2.2.2.2.2.2.2.2.2.2.2.2.1)
                 have HS14_ := (hb.cell (World.block_lt_of_cell? _ _ (hHeld.2.2.2.2.2.2.2.2.2.2.2.2.2.2.1))).trans (hHeld.2.2.2.2.2.2.2.2.2.2.2.2.2.2.1); have HS15_ := (hb.cell (World.block_lt_of_cell? _ _ (hHeld.2.2.2.2.2.2.2.2.2.2.2.2.2.2.2.1))).trans (hHeld.2.2.2.2.2.2.2.2.2.2.2.2.2.2.2.1); have HS16_ := (hb.cell (World.block_lt_of_cell? _ _ (hHeld.2.2.2.2.2.2.2.2.2.2.2.2.2.2.2.2.1))).trans (hHeld.2.2.2.2.2.2.2.2.2.2.2.2.2.2.2.2.1); have HS17_ := (hb.cell (World.block_lt_of_cell? _ _ (hHeld.2.2.2.2.2.2.2.2.2.2.2.2.2.2.2.2.2.1))).trans (hHeld.2.2.2.2.2.2.2.2.2.2.2.2.2.2.2.2.2.1); have HS18_ := (hb.cell (World.block_lt_of_cell? _ _ (hHeld.2.2.2.2.2.2.2.2.2.2.2.2.2.2.2.2.2.2.1))).trans (hHeld.2.2.2.2.2.2.2.2.2.2.2.2.2.2.2.2.2.2.1)
                 have HS19_ := (hb.cell (World.block_lt_of_cell? _ _ (hHeld.2.2.2.2.2.2.2.2.2.2.2.2.2.2.2.2.2.2.2))).trans (hHeld.2.2.2.2.2.2.2.2.2.2.2.2.2.2.2.2.2.2.2)
                 refine ⟨_, rfl, ?_⟩
                 have HO146 := aM (Kd.R_lower (Kd.R_new' (Kd.R_new' ho0 (Kd.R_lt (rD HO_114000))) (Kd.R_lt (rD HO118))) (below_size (sD HB))); replace HO_1 := rB HO_1 hb; replace HO_2 := rB HO_2 hb; replace HO_114000 := aM (Kd.R_elder' (rD HO_114000) (Kd.R_base ho0) hb); replace HO118 := aM (Kd.R_elder' (rD HO118) (Kd.R_base ho0) hb); replace BK113 := bB BK113 hb; replace BK122 := bB BK122 hb; replace HB := sB HB hb; (try clear hb); (try clear hb2); (try clear hk); (try clear hi); (try clear ho0)
                 refine hK.out _ _ ⟨cE BK113 0, cE BK113 1, cE BK113 2, cE BK113 3, cE BK122 0, cE BK122 1, cE BK122 2, cE BK122 3, HS8_, HS9_, HS10_, HS11_, HS12_, HS13_, HS14_, HS15_, HS16_, HS17_, HS18_, HS19_⟩ (fun hHeld => ?_)
                 clear hK K
                 refine nX (some 99) ?_
                 refine pX (i := 73) (N := some 100) rfl rfl HT_ ?_
                 refine pX (i := 74) (N := some 101) rfl rfl HT_ ?_
                 refine pX (i := 75) (N := some 102) rfl rfl HT_ ?_
                 refine pX (i := 76) (N := some 0) rfl rfl HT_ ?_
                 refine done_ (done_of HT_.out (by kernel_rfl)) ?_
                 try go_wp2
                 go_ret
                 exact ⟨by first | rfl | (simp [errW_none, errW_some] <;> rfl) | (simp [*, errW_none, errW_some] <;> rfl), sD HB⟩
                ·rw [if_neg c37] at H
                 have c37b0 : (t141 == 1) = false := beq_eq_false_iff_ne.mpr c37
                 have c37b1 : (t141 != 1) = true := bne_iff_ne.mpr c37
                 exact absurd ((Option.some.inj H).trans HT.out) (by decide)
               ·rw [if_neg c35] at H
                have c35b0 : (((rd_T60 t116 0).f1.f0) == 67 && (((rd_T60 t116 0).f1.f1) == 2)) = false := by simpa using c35
                (try (have c35b1 : decide (((rd_T60 t116 0).f1.f0) = 67 && (((rd_T60 t116 0).f1.f1) == 2)) = false := by simpa using c35))
                (try (have c35b2 : (((rd_T60 t116 0).f1.f0) == 67 && (((rd_T60 t116 0).f1.f1) == 2)) = false := by simpa using c35))
                (try (have c35b3 : ¬ (((rd_T60 t116 0).f1.f0) = 67 && (((rd_T60 t116 0).f1.f1) == 2)) := by simpa using c35))
                clear c35
                exact absurd ((Option.some.inj H).trans HT.out) (by decide)
              ·rw [if_neg c34] at H
               exact absurd H (by simp)
             ·rw [if_neg c33] at H
              have c33b0 : (((rd_T60 t116 1).f1.f0) == t136 && (((rd_T60 t116 1).f1.f1) == t137)) = false := by simpa using c33
              (try (have c33b1 : decide (((rd_T60 t116 1).f1.f0) = t136 && (((rd_T60 t116 1).f1.f1) == t137)) = false := by simpa using c33))
              (try (have c33b2 : (((rd_T60 t116 1).f1.f0) == t136 && (((rd_T60 t116 1).f1.f1) == t137)) = false := by simpa using c33))
              (try (have c33b3 : ¬ (((rd_T60 t116 1).f1.f0) = t136 && (((rd_T60 t116 1).f1.f1) == t137)) := by simpa using c33))
              clear c33
              exact absurd ((Option.some.inj H).trans HT.out) (by decide)
            ·rw [if_neg c31] at H
             exact absurd H (by simp)
           ·rw [if_neg c30] at H
            have c30b0 : ((t116.length : Int) == 2) = false := beq_eq_false_iff_ne.mpr c30
            have c30b1 : ((t116.length : Int) != 2) = true := bne_iff_ne.mpr c30
            exact absurd ((Option.some.inj H).trans HT.out) (by decide)
          ·rw [if_neg c29] at H
           have c29b0 : (t119 == 57 && (t120 == 2)) = false := by simpa using c29
           (try (have c29b1 : decide (t119 = 57 && (t120 == 2)) = false := by simpa using c29))
           (try (have c29b2 : (t119 == 57 && (t120 == 2)) = false := by simpa using c29))
           (try (have c29b3 : ¬ (t119 = 57 && (t120 == 2)) := by simpa using c29))
           clear c29
           exact absurd ((Option.some.inj H).trans HT.out) (by decide)
         ·rw [if_neg c28] at H
          have c28b0 : (t121 == 0) = false := beq_eq_false_iff_ne.mpr c28
          have c28b1 : (t121 != 0) = true := bne_iff_ne.mpr c28
          exact absurd ((Option.some.inj H).trans HT.out) (by decide)
        ·rw [if_neg c27] at H
         have c27b0 : (((rd_T60 t107 0).f1.f0) == t133 && (((rd_T60 t107 0).f1.f1) == t134)) = false := by simpa using c27
         (try (have c27b1 : decide (((rd_T60 t107 0).f1.f0) = t133 && (((rd_T60 t107 0).f1.f1) == t134)) = false := by simpa using c27))
         (try (have c27b2 : (((rd_T60 t107 0).f1.f0) == t133 && (((rd_T60 t107 0).f1.f1) == t134)) = false := by simpa using c27))
         (try (have c27b3 : ¬ (((rd_T60 t107 0).f1.f0) = t133 && (((rd_T60 t107 0).f1.f1) == t134)) := by simpa using c27))
         clear c27
         exact absurd ((Option.some.inj H).trans HT.out) (by decide)
       ·rw [if_neg c25] at H
        exact absurd H (by simp)
      ·rw [if_neg c24] at H
       have c24b0 : ((t129 == 57 && (t130 == 2)) && (t131 == 0)) = false := by simpa using c24
       clear c24
       exact absurd ((Option.some.inj H).trans HT.out) (by decide)
     ·rw [if_neg c22] at H
      have c22b0 : ((t124 == t127 && (t125 == t128)) && (t126 == 0)) = false := by simpa using c22
      clear c22
      exact absurd ((Option.some.inj H).trans HT.out) (by decide)
    ·rw [if_neg c19] at H
     exact absurd H (by simp)
def parolelaw42_examples.f : Option (Bool) := some true
theorem parolelaw42_examples.calls (r : Bool) (w : World) (h : parolelaw42_examples.f = some r) :
  Calls Try.prog 28 #[] w fun e w' => e = .returned (.bool r) ∧ Below w.heap.size w w' := by
 obtain rfl := Option.some.inj h
 exact (parolelaw42_examples0.calls 200 true w rfl (by kernel_rfl))
end Go.Proofs.Ytohnkcmbogcfhaa.P
namespace Go.Proofs.Ytohnkcmbogcfhaa.P
open Go.Proofs.YtohnkcmbogcfhaaH Go.RowKit Go.Proofs.YtohnkcmbogcfhaaW.PrintWords Go.Proofs.YtohnkcmbogcfhaaW.PrintLast Go.Proofs.YtohnkcmbogcfhaaW.PrintMore
attribute [local go_sem] max2_int min2_int max_two min_two max_three min_three max_four min_four   -- for this text's walks alone
def paroleref42_Book.l0 : Nat → List Int → List (S71) → Int → Option ((List (S71)))
 | 0, _, _, _ => none
 | k + 1, x0, x3, x4 => if x4 ≤ 14 then (if (wrap64 (2 * x4)) ≤ (x0.length : Int) then (if 0 ≤ (wrap64 ((wrap64 (2 * x4)) - 2)) then (if (wrap64 ((wrap64 (2 * x4)) - 2)) < (x0.length : Int) then (if 0 ≤ (wrap64 ((wrap64 (2 * x4)) - 1)) then (if (wrap64 ((wrap64 (2 * x4)) - 1)) < (x0.length : Int) then (if x3.length < 5864062014805 then (paroleref42_Book.l0 k x0 (x3 ++ [(⟨x4, wrap64 (Int.tmod (rd x0 (wrap64 ((wrap64 (2 * x4)) - 2))) 8), wrap64 (Int.tmod (rd x0 (wrap64 ((wrap64 (2 * x4)) - 1))) 8)⟩ : S71)]) (wrap64 (x4 + 1))) else (none)) else (none)) else (none)) else (none)) else (none)) else (some x3)) else (some x3)
def paroleref42_Book.f (k : Nat) (l0 : List Int) : Option ((List (S71))) := paroleref42_Book.l0 k l0 (([] : List (S71))) 1
def paroleref42_Book.T5 : Bool × List (List Nat × List Nat) := (true, [([], []), ([], []), ([], []), ([], []), ([3], [3]), ([4], [4]), ([2, 5], [2, 5]), ([6], [6]), ([7], [7]), ([8], [8]), ([], []), ([], []), ([11], [11]), ([12], [12]), ([10, 13], [10, 13]), ([14], [14]), ([15], [15]), ([16], [16]), ([1, 9, 17], [1, 9, 17]), ([18], [18]), ([0, 19], [0, 19]), ([20, 20, 0, 1, 2, 3, 4, 5, 6, 7, 8, 9, 10, 11, 12, 13, 14, 15, 16, 17, 18, 19, 20], [0, 20])])
def paroleref42_Book.B5 : List Nat := [0, 0, 0, 0, 8, 24, 60, 124, 252, 508, 0, 0, 2048, 6144, 15360, 31744, 64512, 130048, 262142, 524286, 1048575, 2097151]
theorem paroleref42_Book.tab5 : rtab .any (opsOf Try.f29 5) = paroleref42_Book.T5 := by kernel_rfl
theorem paroleref42_Book.bits5 : waitsOk paroleref42_Book.T5.2 paroleref42_Book.B5 = true := by kernel_rfl
set_option maxHeartbeats 40000000 in
set_option maxRecDepth 100000 in
theorem paroleref42_Book.calls (k : Nat) (A0 : Option Addr) (c0 : Nat) (l0 : List Int) (r : List (S71)) (w : World) (hr0 : Kd.C (Kd.int .u8) w A0 l0.length l0) (hc0 : l0.length ≤ c0) (h : paroleref42_Book.f k l0 = some r) :
  Calls Try.prog 29 #[.slice A0 l0.length c0] w fun e w' => ∃ v0_ : Value, e = .returned (v0_) ∧ Kd.R k71 71 w' w.heap.size (fun _ => True) v0_ r ∧ Below w.heap.size w w' := by
 have hu71 := Try.underlying71; have HR0 := aM hr0; have HC0 := aM hc0; clear hr0 hc0; have HB := aM (Below.refl w.heap.size w)
 have H : (paroleref42_Book.l0 k l0 (([] : List (S71))) 1) = some r := h
 clear h
 obtain ⟨y101, hy101⟩ : ∃ y_ : List (S71), y_ = (([] : List (S71))) := ⟨_, rfl⟩
 replace H : (paroleref42_Book.l0 k l0 y101 1) = some r := by first | (rw [hy101]; with_reducible exact H) | (have H2_ := (Option.bind_some _ _).symm.trans H; rw [hy101]; with_reducible exact H2_) | (have H2_ := (Option.bind_some _ _).symm.trans H; with_reducible exact H2_) | with_reducible exact H | (rw [hy101]; exact H) | exact H
 have Ny101 := aM hy101; clear hy101; have H' := aM H; clear H
 go_enter Try.func29, Try.ntmps29
 go_wp2_with (first | ((with_reducible refine gate_dst (N := 5) rfl ?_); (try (refine gate_guard (by rfl) ?_; dsimp only)); refine Kd.R_lit k71 _ 71 ?hg (N := 5) ?hd (xs := ([] : List (S71))) (inner := []) (ok := fun _ => True) (okp := fun _ => True) ?hr ?hp (fun _ hk => hk) trivial (Below.refl _ _) (Nat.le_refl _) (by simp) ?_; (case hd => rfl); (case hg => rfl); (case hr => first | (go_simp; done) | (go_simp; rfl)); (case hp => exact (Reps.none _ _)); intro v102 w2 ho3 hb hg_ hnew_; clear hg_ hnew_; (first | rw [← Ny101.out] at ho3 | (simp only [Int.reduceToNat] at ho3; rw [← Ny101.out] at ho3)); have HO103 := rL (n := 0) ho3 HB; replace HB := sB HB hb; clear hb ho3))
 go_loopg [3, 4] k (fun kq v3 v4 w' => ∃ (x3_1 : List (S71)) (x4_1 : Int), v4 = .int .i64 x4_1 ∧ Aside0 (paroleref42_Book.l0 kq l0 x3_1 x4_1 = some r) ∧ Aside0 (kq ≤ k) ∧ Aside0 (Kd.R k71 71 w' w.heap.size (fun _ => True) v3 x3_1) ∧ Aside0 (Below w.heap.size w w'))
 case atStart => exact ⟨(y101), (1), (by first | rfl | (simp; done) | (simp [*]; done)), H', ⟨Nat.le_refl _⟩, ⟨by (with_reducible repeat (first | apply Kd.R_alloc | apply Kd.R_drewN | apply Kd.R_drew)); exact HO103.out⟩, ⟨sD HB⟩⟩
 case round =>
  clear H'
  try clear c2
  try clear p2
  obtain ⟨x3_1, x4_1, rfl, HA, HK1, HO_3, HB⟩ := hrel
  cases gk with
  | zero => exact absurd HA.out (by simp [paroleref42_Book.l0])
  | succ k1 =>
   have H := HA.out; clear HA
   simp only [paroleref42_Book.l0] at H
   by_cases c4 : x4_1 ≤ 14
   ·rw [if_pos c4] at H
    have c4b0 : decide (x4_1 ≤ 14) = true := decide_eq_true c4
    clear c4
    by_cases c5 : (wrap64 (2 * x4_1)) ≤ (l0.length : Int)
    ·rw [if_pos c5] at H
     have c5b0 : decide ((wrap64 (2 * x4_1)) ≤ (l0.length : Int)) = true := decide_eq_true c5
     clear c5
     obtain ⟨ji6, hji6⟩ : ∃ j_ : Int, (wrap64 ((wrap64 (2 * x4_1)) - 2)) = j_ := ⟨_, rfl⟩
     replace H : (if 0 ≤ (ji6) then (if (ji6) < (l0.length : Int) then (if 0 ≤ (wrap64 ((wrap64 (2 * x4_1)) - 1)) then (if (wrap64 ((wrap64 (2 * x4_1)) - 1)) < (l0.length : Int) then (if x3_1.length < 5864062014805 then (paroleref42_Book.l0 k1 l0 (x3_1 ++ [(⟨x4_1, wrap64 (Int.tmod (rd l0 (ji6)) 8), wrap64 (Int.tmod (rd l0 (wrap64 ((wrap64 (2 * x4_1)) - 1))) 8)⟩ : S71)]) (wrap64 (x4_1 + 1))) else (none)) else (none)) else (none)) else (none)) else (none)) = some r := by first | (rw [hji6] at H; exact H) | (simp only [hji6] at H ⊢; exact H)
     have hji6w : (IntKind.i64.wrap ((wrap64 (2 * x4_1)) - 2)) = ji6 := (i64_w _).trans hji6
     by_cases c7 : 0 ≤ (ji6)
     ·rw [if_pos c7] at H
      have c7b0 : decide (0 ≤ (ji6)) = true := decide_eq_true c7
      clear c7
      by_cases c8 : (ji6) < (l0.length : Int)
      ·rw [if_pos c8] at H
       have c8b0 : decide ((ji6) < (l0.length : Int)) = true := decide_eq_true c8
       clear c8
       obtain ⟨ji9, hji9⟩ : ∃ j_ : Int, (wrap64 ((wrap64 (2 * x4_1)) - 1)) = j_ := ⟨_, rfl⟩
       replace H : (if 0 ≤ (ji9) then (if (ji9) < (l0.length : Int) then (if x3_1.length < 5864062014805 then (paroleref42_Book.l0 k1 l0 (x3_1 ++ [(⟨x4_1, wrap64 (Int.tmod (rd l0 (ji6)) 8), wrap64 (Int.tmod (rd l0 (ji9)) 8)⟩ : S71)]) (wrap64 (x4_1 + 1))) else (none)) else (none)) else (none)) = some r := by first | (rw [hji9] at H; exact H) | (simp only [hji9] at H ⊢; exact H)
       have hji9w : (IntKind.i64.wrap ((wrap64 (2 * x4_1)) - 1)) = ji9 := (i64_w _).trans hji9
       by_cases c10 : 0 ≤ (ji9)
       ·rw [if_pos c10] at H
        have c10b0 : decide (0 ≤ (ji9)) = true := decide_eq_true c10
        clear c10
        by_cases c11 : (ji9) < (l0.length : Int)
        ·rw [if_pos c11] at H
         have c11b0 : decide ((ji9) < (l0.length : Int)) = true := decide_eq_true c11
         clear c11
         by_cases c12 : x3_1.length < 5864062014805
         ·rw [if_pos c12] at H
          have LMc12 := aM c12; clear c12
          obtain ⟨y106, hy106⟩ : ∃ y_ : List (S71), y_ = (x3_1 ++ [(⟨x4_1, wrap64 (Int.tmod (rd l0 (ji6)) 8), wrap64 (Int.tmod (rd l0 (ji9)) 8)⟩ : S71)]) := ⟨_, rfl⟩
          replace H : (paroleref42_Book.l0 k1 l0 y106 (wrap64 (x4_1 + 1))) = some r := by first | (rw [hy106]; with_reducible exact H) | (have H2_ := (Option.bind_some _ _).symm.trans H; rw [hy106]; with_reducible exact H2_) | (have H2_ := (Option.bind_some _ _).symm.trans H; with_reducible exact H2_) | with_reducible exact H | (rw [hy106]; exact H) | exact H
          have Ny106 := aM hy106; clear hy106; have H' := aM H; clear H
          try go_wp2
          replace HO_3 := aM (Kd.R_drew HO_3.out); replace HB := aM (below_drew1 HB.out)
          have p104 : 0 ≤ ((ji6) : Int) := of_decide_eq_true (by first | (with_reducible assumption) | assumption)
          have q104 : (ji6) < (l0.length : Int) := of_decide_eq_true (by first | (with_reducible assumption) | assumption)
          obtain ⟨ad104, e104, hx104_0⟩ := Kd.at_int HR0.out (ji6) p104 q104
          have hw104_0 := hx104_0
          cases e104
          replace hx104_0 := (HB.out.cell (World.block_lt_of_cell? w _ hx104_0)).trans hx104_0; replace p104 := eq_true p104; replace q104 := eq_true q104
          have p105 : 0 ≤ ((ji9) : Int) := of_decide_eq_true (by first | (with_reducible assumption) | assumption)
          have q105 : (ji9) < (l0.length : Int) := of_decide_eq_true (by first | (with_reducible assumption) | assumption)
          obtain ⟨ad105, e105, hx105_0⟩ := Kd.at_int HR0.out (ji9) p105 q105
          have hw105_0 := hx105_0
          obtain rfl : ad104 = ad105 := (by injection e105)
          replace hx105_0 := (HB.out.cell (World.block_lt_of_cell? w _ hx105_0)).trans hx105_0; replace p105 := eq_true p105; replace q105 := eq_true q105
          refine start_ (n := 22) (S := fun w' => w'.cell? (ad104.add ((ji6)).toNat) = some (.int .u8 (rd l0 (ji6))) ∧ w'.cell? (ad104.add ((ji9)).toNat) = some (.int .u8 (rd l0 (ji9)))) (ds := []) #[false, false, false, false, false, false, false, false, false, false, false, false, false, false, false, false, false, false, false, false, false, false] (by kernel_rfl) rfl rfl ⟨((HB.out.cell (World.block_lt_of_cell? w _ hw104_0)).trans hw104_0), ((HB.out.cell (World.block_lt_of_cell? w _ hw105_0)).trans hw105_0)⟩ (fun hHeld => ?_); refine with_tabW paroleref42_Book.tab5 paroleref42_Book.bits5 (fun HT_ HW_ => ?_)
          generalize wr.drew = w13 at HO_3 HB hx104_0 hx105_0 hHeld ⊢
          refine pX (i := 0) (N := some 17) rfl rfl HT_ ?_
          refine pX (i := 1) (N := some 18) rfl rfl HT_ ?_
          refine pX (i := 2) (N := some 19) rfl rfl HT_ ?_
          refine pX (i := 3) (N := some 20) rfl rfl HT_ ?_
          refine pX (i := 4) (N := some 21) rfl rfl HT_ ?_
          refine pX (i := 5) (N := some 22) rfl rfl HT_ ?_
          refine pX (i := 6) (N := some 23) rfl rfl HT_ ?_
          refine pX (i := 10) (N := some 27) rfl rfl HT_ ?_
          refine pX (i := 11) (N := some 28) rfl rfl HT_ ?_
          refine pX (i := 12) (N := some 29) rfl rfl HT_ ?_
          refine pX (i := 13) (N := some 30) rfl rfl HT_ ?_
          refine pX (i := 14) (N := some 31) rfl rfl HT_ ?_
          refine tX (i := 7) (N := some 24) rfl rfl HT_ HW_ hHeld (Or.inl ⟨by rfl, by rintro w' ⟨s0, s1⟩; go_simp; with_reducible rfl⟩) ?_
          refine pX (i := 8) (N := some 25) rfl rfl HT_ ?_
          refine pX (i := 9) (N := some 26) rfl rfl HT_ ?_
          refine tX (i := 15) (N := some 32) rfl rfl HT_ HW_ hHeld (Or.inl ⟨by rfl, by rintro w' ⟨s0, s1⟩; go_simp; with_reducible rfl⟩) ?_
          refine pX (i := 16) (N := some 33) rfl rfl HT_ ?_
          refine pX (i := 17) (N := some 34) rfl rfl HT_ ?_
          refine pX (i := 18) (N := some 35) rfl rfl HT_ ?_
          refine oX (i := 19) (N := some 36) rfl rfl HT_ (fun K hK => ?_)
          refine value_ (w1 := ?_) (v := ?_) (by rfl) rfl ?_ ?_
          rotate_left 2
          ·go_simp
           constructor
           ·rfl
           ·rfl
          refine hK.out _ _ ⟨(World.cell?_alloc_lt _ _ _ (World.block_lt_of_cell? _ _ (((HB.out.cell (World.block_lt_of_cell? w _ hw104_0)).trans hw104_0)))).trans (((HB.out.cell (World.block_lt_of_cell? w _ hw104_0)).trans hw104_0)), (World.cell?_alloc_lt _ _ _ (World.block_lt_of_cell? _ _ (((HB.out.cell (World.block_lt_of_cell? w _ hw105_0)).trans hw105_0)))).trans (((HB.out.cell (World.block_lt_of_cell? w _ hw105_0)).trans hw105_0))⟩ (fun hHeld => ?_)
          clear hK K
          refine nX (some 36) ?_
          refine oX (i := 20) (N := some 37) rfl rfl HT_ (fun K hK => ?_)
          refine Kd.R_append_step k71 (w0 := w) w.heap.size (by rfl) (.tmp 17) (.tmp 36) 22 71 (.agg #[(.int .i64 0), (.int .i64 0), (.int .i64 0)]) 24 rfl Try.underlying22 info71 rfl (by decide) (by omega) u3 x3_1 (⟨x4_1, wrap64 (Int.tmod (rd l0 (ji6)) 8), wrap64 (Int.tmod (rd l0 (ji9)) 8)⟩ : S71) [.int .i64 x4_1, .int .i64 (wrap64 (Int.tmod (rd l0 (ji6)) 8)), .int .i64 (wrap64 (Int.tmod (rd l0 (ji9)) 8))] (fun _ => True) (fun _ => False) rfl rfl ?aP (fun _ hk => hk.elim) ?aF ?aO ?aB ?aS ?aL ?_
          (case aP => exact k71_mkM _ _ _ (⟨x4_1, wrap64 (Int.tmod (rd l0 (ji6)) 8), wrap64 (Int.tmod (rd l0 (ji9)) 8)⟩ : S71))
          (case aB => exact (sD HB))
          (case aF => exact (fun _ _ => trivial))
          (case aO => exact (rD HO_3))
          (case aS => exact (below_size (sD HB)))
          (case aL => have := LMc12.out; omega)
          intro v107 w14 ho hb hg hat
          rw [← Ny106.out] at ho
          have HO108 := aM (ho); replace HB := aM (hb); clear HO_3 ho hb hg hat
          refine hK.out _ _ ⟨((HB.out.cell (World.block_lt_of_cell? w _ hw104_0)).trans hw104_0), ((HB.out.cell (World.block_lt_of_cell? w _ hw105_0)).trans hw105_0)⟩ (fun hHeld => ?_)
          clear hK K
          refine nX (some 37) ?_
          refine pX (i := 21) (N := some 3) rfl rfl HT_ ?_
          refine done_ (done_of HT_.out (by kernel_rfl)) ?_
          try go_wp2
          go_roundg k1
          case measure => have := HK1.out; omega
          case rel => exact ⟨(y106), (wrap64 (x4_1 + 1)), (by first | rfl | (simp; done) | (simp [*]; done)), H', ⟨by have := HK1.out; omega⟩, ⟨by (with_reducible repeat (first | apply Kd.R_alloc | apply Kd.R_drewN | apply Kd.R_drew)); exact HO108.out⟩, ⟨sD HB⟩⟩
         ·rw [if_neg c12] at H
          exact absurd H (by simp)
        ·rw [if_neg c11] at H
         exact absurd H (by simp)
       ·rw [if_neg c10] at H
        exact absurd H (by simp)
      ·rw [if_neg c8] at H
       exact absurd H (by simp)
     ·rw [if_neg c7] at H
      exact absurd H (by simp)
    ·rw [if_neg c5] at H
     have c5b0 : decide ((wrap64 (2 * x4_1)) ≤ (l0.length : Int)) = false := decide_eq_false c5
     clear c5
     obtain rfl := Option.some.inj H
     go_wp2
     go_ret
     exact ⟨_, by first | rfl | (simp [errW_none, errW_some] <;> rfl) | (simp [*, errW_none, errW_some] <;> rfl), by (with_reducible repeat (first | apply Kd.R_alloc | apply Kd.R_drewN | apply Kd.R_drew)); exact HO_3.out, sD HB⟩
   ·rw [if_neg c4] at H
    have c4b0 : decide (x4_1 ≤ 14) = false := decide_eq_false c4
    clear c4
    obtain rfl := Option.some.inj H
    go_wp2
    go_ret
    exact ⟨_, by first | rfl | (simp [errW_none, errW_some] <;> rfl) | (simp [*, errW_none, errW_some] <;> rfl), by (with_reducible repeat (first | apply Kd.R_alloc | apply Kd.R_drewN | apply Kd.R_drew)); exact HO_3.out, sD HB⟩
end Go.Proofs.Ytohnkcmbogcfhaa.P
namespace Go.Proofs.Ytohnkcmbogcfhaa.P
open Go.Proofs.YtohnkcmbogcfhaaH Go.RowKit Go.Proofs.YtohnkcmbogcfhaaW.PrintWords Go.Proofs.YtohnkcmbogcfhaaW.PrintLast Go.Proofs.YtohnkcmbogcfhaaW.PrintMore
attribute [local go_sem] max2_int min2_int max_two min_two max_three min_three max_four min_four   -- for this text's walks alone
def paroleref42_Risks.l0 : Nat → List Int → List (S47) → Int → Option ((List (S47)))
 | 0, _, _, _ => none
 | k + 1, x0, x3, x4 => if (wrap64 ((wrap64 (3 * x4)) + 2)) < (x0.length : Int) then (if x4 < 12 then (if 0 ≤ (wrap64 (3 * x4)) then (if (wrap64 (3 * x4)) < (x0.length : Int) then (if 0 ≤ (wrap64 ((wrap64 (3 * x4)) + 1)) then (if (wrap64 ((wrap64 (3 * x4)) + 1)) < (x0.length : Int) then (if 0 ≤ (wrap64 ((wrap64 (3 * x4)) + 2)) then (if x3.length < 5864062014805 then (paroleref42_Risks.l0 k x0 (x3 ++ [(⟨wrap64 (Int.tmod (rd x0 (wrap64 (3 * x4))) 4), wrap64 (1 + (wrap64 (Int.tmod (rd x0 (wrap64 ((wrap64 (3 * x4)) + 1))) 14))), wrap64 (rd x0 (wrap64 ((wrap64 (3 * x4)) + 2)))⟩ : S47)]) (wrap64 (x4 + 1))) else (none)) else (none)) else (none)) else (none)) else (none)) else (none)) else (some x3)) else (some x3)
def paroleref42_Risks.f (k : Nat) (l0 : List Int) : Option ((List (S47))) := paroleref42_Risks.l0 k l0 (([] : List (S47))) 0
def paroleref42_Risks.T5 : Bool × List (List Nat × List Nat) := (true, [([], []), ([], []), ([], []), ([2], [2]), ([1, 3], [1, 3]), ([4], [4]), ([5], [5]), ([6], [6]), ([], []), ([], []), ([9], [9]), ([10], [10]), ([8, 11], [8, 11]), ([12], [12]), ([13], [13]), ([14], [14]), ([15], [15]), ([], []), ([], []), ([18], [18]), ([19], [19]), ([17, 20], [17, 20]), ([21], [21]), ([22], [22]), ([7, 16, 23], [7, 16, 23]), ([24], [24]), ([0, 25], [0, 25]), ([26, 26, 0, 1, 2, 3, 4, 5, 6, 7, 8, 9, 10, 11, 12, 13, 14, 15, 16, 17, 18, 19, 20, 21, 22, 23, 24, 25, 26], [0, 26])])
def paroleref42_Risks.B5 : List Nat := [0, 0, 0, 4, 14, 30, 62, 126, 0, 0, 512, 1536, 3840, 7936, 16128, 32512, 65280, 0, 0, 262144, 786432, 1966080, 4063232, 8257536, 16777214, 33554430, 67108863, 134217727]
theorem paroleref42_Risks.tab5 : rtab .any (opsOf Try.f30 5) = paroleref42_Risks.T5 := by kernel_rfl
theorem paroleref42_Risks.bits5 : waitsOk paroleref42_Risks.T5.2 paroleref42_Risks.B5 = true := by kernel_rfl
set_option maxHeartbeats 40000000 in
set_option maxRecDepth 100000 in
theorem paroleref42_Risks.calls (k : Nat) (A0 : Option Addr) (c0 : Nat) (l0 : List Int) (r : List (S47)) (w : World) (hr0 : Kd.C (Kd.int .u8) w A0 l0.length l0) (hc0 : l0.length ≤ c0) (h : paroleref42_Risks.f k l0 = some r) :
  Calls Try.prog 30 #[.slice A0 l0.length c0] w fun e w' => ∃ v0_ : Value, e = .returned (v0_) ∧ Kd.R k47 47 w' w.heap.size (fun _ => True) v0_ r ∧ Below w.heap.size w w' := by
 have hu47 := Try.underlying47; have HR0 := aM hr0; have HC0 := aM hc0; clear hr0 hc0; have HB := aM (Below.refl w.heap.size w)
 have H : (paroleref42_Risks.l0 k l0 (([] : List (S47))) 0) = some r := h
 clear h
 obtain ⟨y101, hy101⟩ : ∃ y_ : List (S47), y_ = (([] : List (S47))) := ⟨_, rfl⟩
 replace H : (paroleref42_Risks.l0 k l0 y101 0) = some r := by first | (rw [hy101]; with_reducible exact H) | (have H2_ := (Option.bind_some _ _).symm.trans H; rw [hy101]; with_reducible exact H2_) | (have H2_ := (Option.bind_some _ _).symm.trans H; with_reducible exact H2_) | with_reducible exact H | (rw [hy101]; exact H) | exact H
 have Ny101 := aM hy101; clear hy101; have H' := aM H; clear H
 go_enter Try.func30, Try.ntmps30
 go_wp2_with (first | ((with_reducible refine gate_dst (N := 5) rfl ?_); refine Kd.R_lit k47 _ 47 ?hg (N := 5) ?hd (xs := ([] : List (S47))) (inner := []) (ok := fun _ => True) (okp := fun _ => True) ?hr ?hp (fun _ hk => hk) trivial (Below.refl _ _) (Nat.le_refl _) (by simp) ?_; (case hd => rfl); (case hg => rfl); (case hr => first | (go_simp; done) | (go_simp; rfl)); (case hp => exact (Reps.none _ _)); intro v102 w2 ho3 hb hg_ hnew_; clear hg_ hnew_; (first | rw [← Ny101.out] at ho3 | (simp only [Int.reduceToNat] at ho3; rw [← Ny101.out] at ho3)); have HO103 := rL (n := 0) ho3 HB; replace HB := sB HB hb; clear hb ho3))
 go_loopg [3, 4] k (fun kq v3 v4 w' => ∃ (x3_1 : List (S47)) (x4_1 : Int), v4 = .int .i64 x4_1 ∧ Aside0 (paroleref42_Risks.l0 kq l0 x3_1 x4_1 = some r) ∧ Aside0 (kq ≤ k) ∧ Aside0 (Kd.R k47 47 w' w.heap.size (fun _ => True) v3 x3_1) ∧ Aside0 (Below w.heap.size w w'))
 case atStart => exact ⟨(y101), (0), (by first | rfl | (simp; done) | (simp [*]; done)), H', ⟨Nat.le_refl _⟩, ⟨by (with_reducible repeat (first | apply Kd.R_alloc | apply Kd.R_drewN | apply Kd.R_drew)); exact HO103.out⟩, ⟨sD HB⟩⟩
 case round =>
  clear H'
  try clear p2
  try clear c3
  obtain ⟨x3_1, x4_1, rfl, HA, HK1, HO_3, HB⟩ := hrel
  cases gk with
  | zero => exact absurd HA.out (by simp [paroleref42_Risks.l0])
  | succ k1 =>
   have H := HA.out; clear HA
   simp only [paroleref42_Risks.l0] at H
   by_cases c4 : (wrap64 ((wrap64 (3 * x4_1)) + 2)) < (l0.length : Int)
   ·rw [if_pos c4] at H
    have c4b0 : decide ((wrap64 ((wrap64 (3 * x4_1)) + 2)) < (l0.length : Int)) = true := decide_eq_true c4
    clear c4
    by_cases c5 : x4_1 < 12
    ·rw [if_pos c5] at H
     have c5b0 : decide (x4_1 < 12) = true := decide_eq_true c5
     clear c5
     obtain ⟨ji6, hji6⟩ : ∃ j_ : Int, (wrap64 (3 * x4_1)) = j_ := ⟨_, rfl⟩
     replace H : (if 0 ≤ (ji6) then (if (ji6) < (l0.length : Int) then (if 0 ≤ (wrap64 ((ji6) + 1)) then (if (wrap64 ((ji6) + 1)) < (l0.length : Int) then (if 0 ≤ (wrap64 ((ji6) + 2)) then (if x3_1.length < 5864062014805 then (paroleref42_Risks.l0 k1 l0 (x3_1 ++ [(⟨wrap64 (Int.tmod (rd l0 (ji6)) 4), wrap64 (1 + (wrap64 (Int.tmod (rd l0 (wrap64 ((ji6) + 1))) 14))), wrap64 (rd l0 (wrap64 ((ji6) + 2)))⟩ : S47)]) (wrap64 (x4_1 + 1))) else (none)) else (none)) else (none)) else (none)) else (none)) else (none)) = some r := by first | (rw [hji6] at H; exact H) | (simp only [hji6] at H ⊢; exact H)
     (try rw [hji6] at c4b0)
     have hji6w : (IntKind.i64.wrap (3 * x4_1)) = ji6 := (i64_w _).trans hji6
     by_cases c7 : 0 ≤ (ji6)
     ·rw [if_pos c7] at H
      have c7b0 : decide (0 ≤ (ji6)) = true := decide_eq_true c7
      clear c7
      by_cases c8 : (ji6) < (l0.length : Int)
      ·rw [if_pos c8] at H
       have c8b0 : decide ((ji6) < (l0.length : Int)) = true := decide_eq_true c8
       clear c8
       obtain ⟨ji9, hji9⟩ : ∃ j_ : Int, (wrap64 ((ji6) + 1)) = j_ := ⟨_, rfl⟩
       replace H : (if 0 ≤ (ji9) then (if (ji9) < (l0.length : Int) then (if 0 ≤ (wrap64 ((ji6) + 2)) then (if x3_1.length < 5864062014805 then (paroleref42_Risks.l0 k1 l0 (x3_1 ++ [(⟨wrap64 (Int.tmod (rd l0 (ji6)) 4), wrap64 (1 + (wrap64 (Int.tmod (rd l0 (ji9)) 14))), wrap64 (rd l0 (wrap64 ((ji6) + 2)))⟩ : S47)]) (wrap64 (x4_1 + 1))) else (none)) else (none)) else (none)) else (none)) = some r := by first | (rw [hji9] at H; exact H) | (simp only [hji9] at H ⊢; exact H)
       have hji9w : (IntKind.i64.wrap ((ji6) + 1)) = ji9 := (i64_w _).trans hji9
       by_cases c10 : 0 ≤ (ji9)
       ·rw [if_pos c10] at H
        have c10b0 : decide (0 ≤ (ji9)) = true := decide_eq_true c10
        clear c10
        by_cases c11 : (ji9) < (l0.length : Int)
        ·rw [if_pos c11] at H
         have c11b0 : decide ((ji9) < (l0.length : Int)) = true := decide_eq_true c11
         clear c11
         obtain ⟨ji12, hji12⟩ : ∃ j_ : Int, (wrap64 ((ji6) + 2)) = j_ := ⟨_, rfl⟩
         replace H : (if 0 ≤ (ji12) then (if x3_1.length < 5864062014805 then (paroleref42_Risks.l0 k1 l0 (x3_1 ++ [(⟨wrap64 (Int.tmod (rd l0 (ji6)) 4), wrap64 (1 + (wrap64 (Int.tmod (rd l0 (ji9)) 14))), wrap64 (rd l0 (ji12))⟩ : S47)]) (wrap64 (x4_1 + 1))) else (none)) else (none)) = some r := by first | (rw [hji12] at H; exact H) | (simp only [hji12] at H ⊢; exact H)
         have hji12w : (IntKind.i64.wrap ((ji6) + 2)) = ji12 := (i64_w _).trans hji12
         (try rw [hji12] at c4b0)
         by_cases c13 : 0 ≤ (ji12)
         ·rw [if_pos c13] at H
          have c13b0 : decide (0 ≤ (ji12)) = true := decide_eq_true c13
          clear c13
          by_cases c14 : x3_1.length < 5864062014805
          ·rw [if_pos c14] at H
           have LMc14 := aM c14; clear c14
           obtain ⟨y107, hy107⟩ : ∃ y_ : List (S47), y_ = (x3_1 ++ [(⟨wrap64 (Int.tmod (rd l0 (ji6)) 4), wrap64 (1 + (wrap64 (Int.tmod (rd l0 (ji9)) 14))), wrap64 (rd l0 (ji12))⟩ : S47)]) := ⟨_, rfl⟩
           replace H : (paroleref42_Risks.l0 k1 l0 y107 (wrap64 (x4_1 + 1))) = some r := by first | (rw [hy107]; with_reducible exact H) | (have H2_ := (Option.bind_some _ _).symm.trans H; rw [hy107]; with_reducible exact H2_) | (have H2_ := (Option.bind_some _ _).symm.trans H; with_reducible exact H2_) | with_reducible exact H | (rw [hy107]; exact H) | exact H
           have Ny107 := aM hy107; clear hy107; have H' := aM H; clear H
           try go_wp2
           replace HO_3 := aM (Kd.R_drew HO_3.out); replace HB := aM (below_drew1 HB.out)
           have p104 : 0 ≤ ((ji6) : Int) := of_decide_eq_true (by first | (with_reducible assumption) | assumption | exact decide_eq_true (by assumption))
           have q104 : (ji6) < (l0.length : Int) := of_decide_eq_true (by first | (with_reducible assumption) | assumption | exact decide_eq_true (by assumption))
           obtain ⟨ad104, e104, hx104_0⟩ := Kd.at_int HR0.out (ji6) p104 q104
           have hw104_0 := hx104_0
           cases e104
           replace hx104_0 := (HB.out.cell (World.block_lt_of_cell? w _ hx104_0)).trans hx104_0; replace p104 := eq_true p104; replace q104 := eq_true q104
           have p105 : 0 ≤ ((ji9) : Int) := of_decide_eq_true (by first | (with_reducible assumption) | assumption | exact decide_eq_true (by assumption))
           have q105 : (ji9) < (l0.length : Int) := of_decide_eq_true (by first | (with_reducible assumption) | assumption | exact decide_eq_true (by assumption))
           obtain ⟨ad105, e105, hx105_0⟩ := Kd.at_int HR0.out (ji9) p105 q105
           have hw105_0 := hx105_0
           obtain rfl : ad104 = ad105 := (by injection e105)
           replace hx105_0 := (HB.out.cell (World.block_lt_of_cell? w _ hx105_0)).trans hx105_0; replace p105 := eq_true p105; replace q105 := eq_true q105
           have p106 : 0 ≤ ((ji12) : Int) := of_decide_eq_true (by first | (with_reducible assumption) | assumption | exact decide_eq_true (by assumption))
           have q106 : (ji12) < (l0.length : Int) := of_decide_eq_true (by first | (with_reducible assumption) | assumption | exact decide_eq_true (by assumption))
           obtain ⟨ad106, e106, hx106_0⟩ := Kd.at_int HR0.out (ji12) p106 q106
           have hw106_0 := hx106_0
           obtain rfl : ad104 = ad106 := (by injection e106)
           replace hx106_0 := (HB.out.cell (World.block_lt_of_cell? w _ hx106_0)).trans hx106_0; replace p106 := eq_true p106; replace q106 := eq_true q106
           refine start_ (n := 28) (S := fun w' => w'.cell? (ad104.add ((ji6)).toNat) = some (.int .u8 (rd l0 (ji6))) ∧ w'.cell? (ad104.add ((ji9)).toNat) = some (.int .u8 (rd l0 (ji9))) ∧ w'.cell? (ad104.add ((ji12)).toNat) = some (.int .u8 (rd l0 (ji12)))) (ds := []) #[false, false, false, false, false, false, false, false, false, false, false, false, false, false, false, false, false, false, false, false, false, false, false, false, false, false, false, false] (by kernel_rfl) rfl rfl ⟨((HB.out.cell (World.block_lt_of_cell? w _ hw104_0)).trans hw104_0), ((HB.out.cell (World.block_lt_of_cell? w _ hw105_0)).trans hw105_0), ((HB.out.cell (World.block_lt_of_cell? w _ hw106_0)).trans hw106_0)⟩ (fun hHeld => ?_); refine with_tabW paroleref42_Risks.tab5 paroleref42_Risks.bits5 (fun HT_ HW_ => ?_)
           generalize wr.drew = w15 at HO_3 HB hx104_0 hx105_0 hx106_0 hHeld ⊢
           refine pX (i := 0) (N := some 18) rfl rfl HT_ ?_
           refine pX (i := 1) (N := some 19) rfl rfl HT_ ?_
           refine pX (i := 2) (N := some 20) rfl rfl HT_ ?_
           refine pX (i := 3) (N := some 21) rfl rfl HT_ ?_
           refine pX (i := 4) (N := some 22) rfl rfl HT_ ?_
           refine pX (i := 8) (N := some 26) rfl rfl HT_ ?_
           refine pX (i := 9) (N := some 27) rfl rfl HT_ ?_
           refine pX (i := 10) (N := some 28) rfl rfl HT_ ?_
           refine pX (i := 11) (N := some 29) rfl rfl HT_ ?_
           refine pX (i := 12) (N := some 30) rfl rfl HT_ ?_
           refine pX (i := 17) (N := some 35) rfl rfl HT_ ?_
           refine pX (i := 18) (N := some 36) rfl rfl HT_ ?_
           refine pX (i := 19) (N := some 37) rfl rfl HT_ ?_
           refine pX (i := 20) (N := some 38) rfl rfl HT_ ?_
           refine pX (i := 21) (N := some 39) rfl rfl HT_ ?_
           refine tX (i := 5) (N := some 23) rfl rfl HT_ HW_ hHeld (Or.inl ⟨by rfl, by rintro w' ⟨s0, s1, s2⟩; go_simp; with_reducible rfl⟩) ?_
           refine pX (i := 6) (N := some 24) rfl rfl HT_ ?_
           refine pX (i := 7) (N := some 25) rfl rfl HT_ ?_
           refine tX (i := 13) (N := some 31) rfl rfl HT_ HW_ hHeld (Or.inl ⟨by rfl, by rintro w' ⟨s0, s1, s2⟩; go_simp; with_reducible rfl⟩) ?_
           refine pX (i := 14) (N := some 32) rfl rfl HT_ ?_
           refine pX (i := 15) (N := some 33) rfl rfl HT_ ?_
           refine pX (i := 16) (N := some 34) rfl rfl HT_ ?_
           refine tX (i := 22) (N := some 40) rfl rfl HT_ HW_ hHeld (Or.inl ⟨by rfl, by rintro w' ⟨s0, s1, s2⟩; go_simp; with_reducible rfl⟩) ?_
           refine pX (i := 23) (N := some 41) rfl rfl HT_ ?_
           refine pX (i := 24) (N := some 42) rfl rfl HT_ ?_
           refine oX (i := 25) (N := some 43) rfl rfl HT_ (fun K hK => ?_)
           refine value_ (w1 := ?_) (v := ?_) (by rfl) rfl ?_ ?_
           rotate_left 2
           ·go_simp
            constructor
            ·rfl
            ·rfl
           refine hK.out _ _ ⟨(World.cell?_alloc_lt _ _ _ (World.block_lt_of_cell? _ _ (((HB.out.cell (World.block_lt_of_cell? w _ hw104_0)).trans hw104_0)))).trans (((HB.out.cell (World.block_lt_of_cell? w _ hw104_0)).trans hw104_0)), (World.cell?_alloc_lt _ _ _ (World.block_lt_of_cell? _ _ (((HB.out.cell (World.block_lt_of_cell? w _ hw105_0)).trans hw105_0)))).trans (((HB.out.cell (World.block_lt_of_cell? w _ hw105_0)).trans hw105_0)), (World.cell?_alloc_lt _ _ _ (World.block_lt_of_cell? _ _ (((HB.out.cell (World.block_lt_of_cell? w _ hw106_0)).trans hw106_0)))).trans (((HB.out.cell (World.block_lt_of_cell? w _ hw106_0)).trans hw106_0))⟩ (fun hHeld => ?_)
           clear hK K
           refine nX (some 43) ?_
           refine oX (i := 26) (N := some 44) rfl rfl HT_ (fun K hK => ?_)
           refine Kd.R_append_step k47 (w0 := w) w.heap.size (by rfl) (.tmp 18) (.tmp 43) 50 47 (.agg #[(.int .i64 0), (.int .i64 0), (.int .i64 0)]) 24 rfl Try.underlying50 info47 rfl (by decide) (by omega) u3 x3_1 (⟨wrap64 (Int.tmod (rd l0 (ji6)) 4), wrap64 (1 + (wrap64 (Int.tmod (rd l0 (ji9)) 14))), wrap64 (rd l0 (ji12))⟩ : S47) [.int .i64 (wrap64 (Int.tmod (rd l0 (ji6)) 4)), .int .i64 (wrap64 (1 + (wrap64 (Int.tmod (rd l0 (ji9)) 14)))), .int .i64 (wrap64 (rd l0 (ji12)))] (fun _ => True) (fun _ => False) rfl rfl ?aP (fun _ hk => hk.elim) ?aF ?aO ?aB ?aS ?aL ?_
           (case aP => exact k47_mkM _ _ _ (⟨wrap64 (Int.tmod (rd l0 (ji6)) 4), wrap64 (1 + (wrap64 (Int.tmod (rd l0 (ji9)) 14))), wrap64 (rd l0 (ji12))⟩ : S47))
           (case aB => exact (sD HB))
           (case aF => exact (fun _ _ => trivial))
           (case aO => exact (rD HO_3))
           (case aS => exact (below_size (sD HB)))
           (case aL => have := LMc14.out; omega)
           intro v108 w16 ho hb hg hat
           rw [← Ny107.out] at ho
           have HO109 := aM (ho); replace HB := aM (hb); clear HO_3 ho hb hg hat
           refine hK.out _ _ ⟨((HB.out.cell (World.block_lt_of_cell? w _ hw104_0)).trans hw104_0), ((HB.out.cell (World.block_lt_of_cell? w _ hw105_0)).trans hw105_0), ((HB.out.cell (World.block_lt_of_cell? w _ hw106_0)).trans hw106_0)⟩ (fun hHeld => ?_)
           clear hK K
           refine nX (some 44) ?_
           refine pX (i := 27) (N := some 3) rfl rfl HT_ ?_
           refine done_ (done_of HT_.out (by kernel_rfl)) ?_
           try go_wp2
           go_roundg k1
           case measure => have := HK1.out; omega
           case rel => exact ⟨(y107), (wrap64 (x4_1 + 1)), (by first | rfl | (simp; done) | (simp [*]; done)), H', ⟨by have := HK1.out; omega⟩, ⟨by (with_reducible repeat (first | apply Kd.R_alloc | apply Kd.R_drewN | apply Kd.R_drew)); exact HO109.out⟩, ⟨sD HB⟩⟩
          ·rw [if_neg c14] at H
           exact absurd H (by simp)
         ·rw [if_neg c13] at H
          exact absurd H (by simp)
        ·rw [if_neg c11] at H
         exact absurd H (by simp)
       ·rw [if_neg c10] at H
        exact absurd H (by simp)
      ·rw [if_neg c8] at H
       exact absurd H (by simp)
     ·rw [if_neg c7] at H
      exact absurd H (by simp)
    ·rw [if_neg c5] at H
     have c5b0 : decide (x4_1 < 12) = false := decide_eq_false c5
     clear c5
     obtain rfl := Option.some.inj H
     go_wp2
     go_ret
     exact ⟨_, by first | rfl | (simp [errW_none, errW_some] <;> rfl) | (simp [*, errW_none, errW_some] <;> rfl), by (with_reducible repeat (first | apply Kd.R_alloc | apply Kd.R_drewN | apply Kd.R_drew)); exact HO_3.out, sD HB⟩
   ·rw [if_neg c4] at H
    have c4b0 : decide ((wrap64 ((wrap64 (3 * x4_1)) + 2)) < (l0.length : Int)) = false := decide_eq_false c4
    clear c4
    obtain rfl := Option.some.inj H
    go_wp2
    go_ret
    exact ⟨_, by first | rfl | (simp [errW_none, errW_some] <;> rfl) | (simp [*, errW_none, errW_some] <;> rfl), by (with_reducible repeat (first | apply Kd.R_alloc | apply Kd.R_drewN | apply Kd.R_drew)); exact HO_3.out, sD HB⟩
end Go.Proofs.Ytohnkcmbogcfhaa.P

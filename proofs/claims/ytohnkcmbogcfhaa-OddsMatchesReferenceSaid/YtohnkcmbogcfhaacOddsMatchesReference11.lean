/- OddsMatchesReference: right books, joined and learned ones, odds and losses are as in the reference implementation. The plain law. -/
import Derived.Test.YtohnkcmbogcfhaacOddsMatchesReference10
import Derived.Deep.Slices
import Derived.WideShapes
import Derived.OpenShut
import Derived.ShutString
import Derived.ChangeOld
import Derived.SizedLaws
import Derived.Deep.OwnRows
import Derived.Laws.Rows
import Derived.Test.YtohnkcmbogcfhaaRows
set_option linter.unusedVariables false
set_option linter.unusedSimpArgs false
namespace Go.Proofs.Ytohnkcmbogcfhaa.P
open Go.Proofs.YtohnkcmbogcfhaaH Go.RowKit Go.Proofs.YtohnkcmbogcfhaaW.PrintWords Go.Proofs.YtohnkcmbogcfhaaW.PrintLast Go.Proofs.YtohnkcmbogcfhaaW.PrintMore
attribute [local go_sem] max2_int min2_int max_two min_two max_three min_three max_four min_four   -- for this text's walks alone
def rat_Valid.f (k : Nat) (a0_0 : Int) (a0_1 : Int) : Option (Bool) := if a0_1 ≥ 1 then (if a0_1 ≤ 4611686018427387904 then (if a0_0 ≥ (-4611686018427387904) then (if a0_0 ≤ 4611686018427387904 then ((rat_abs.f a0_0).bind fun t102 => ((rat_gcd.f k (([t102, IntKind.u64.wrap (a0_1)] : List Int))).bind fun t106 => (some (t106 == 1)))) else (some false)) else (some false)) else (some false)) else (some false)
theorem rat_Valid.mono : ∀ a0 a1 k, LeO (rat_Valid.f k a0 a1) (rat_Valid.f (k + 1) a0 a1) := by
 intro a0 a1 k
 unfold rat_Valid.f
 repeat' first
   | (with_reducible exact rat_gcd.mono _ _)
   | (with_reducible exact LeO.refl _)
   | (with_reducible exact LeO.none _)
   | (with_reducible refine LeO.ite ?_ ?_)
   | (with_reducible refine LeO.bind ?_ (fun _ => ?_))
   | exact rat_gcd.mono _ _
   | exact LeO.none _
   | refine LeO.ite ?_ ?_
   | refine LeO.bind ?_ (fun _ => ?_)
def rat_Valid.T1 : Bool × List (List Nat × List Nat) := (true, [([], []), ([0], [0]), ([1], [1]), ([2], [2]), ([3], [3]), ([4, 3], [3, 4]), ([5, 3], [3, 5]), ([3, 6], [3, 6]), ([7, 3], [7]), ([8], [8]), ([9, 8], [8, 9]), ([10, 8], [8, 10]), ([8, 11], [8, 11]), ([12, 8], [12]), ([13], [13]), ([14, 13], [13, 14]), ([15, 13], [13, 15]), ([13, 16], [13, 16]), ([17, 13], [17]), ([18], [18]), ([19, 18], [18, 19]), ([20, 18, 18], [18, 20]), ([18], [18]), ([22, 18], [18, 22]), ([23, 18], [18, 23]), ([21, 24, 18], [18, 21, 24]), ([25, 21, 18], [18, 25]), ([26, 18], [18, 26]), ([18, 27], [18, 27]), ([28, 26, 0, 1, 2, 3, 4, 5, 6, 7, 8, 9, 10, 11, 12, 13, 14, 15, 16, 17, 18, 19, 20, 21, 22, 23, 24, 25, 26, 27, 28], [28])])
def rat_Valid.B1 : List Nat := [0, 1, 3, 7, 15, 31, 63, 127, 255, 511, 1023, 2047, 4095, 8191, 16383, 32767, 65535, 131071, 262143, 524287, 1048575, 2097151, 524287, 4718591, 13107199, 33554431, 67108863, 134217727, 268435455, 536870911]
theorem rat_Valid.tab1 : rtab .any (opsOf Try.f46 1) = rat_Valid.T1 := by kernel_rfl
theorem rat_Valid.bits1 : waitsOk rat_Valid.T1.2 rat_Valid.B1 = true := by kernel_rfl
set_option maxHeartbeats 8000000 in
set_option maxRecDepth 100000 in
theorem rat_Valid.calls (k : Nat) (a0_0 : Int) (a0_1 : Int) (r : Bool) (w : World) (h : rat_Valid.f k a0_0 a0_1 = some r) :
  Calls Try.prog 46 #[.agg #[.int .i64 a0_0, .int .i64 a0_1]] w fun e w' => e = .returned (.bool r) ∧ Below w.heap.size w w' := by
 have hu35 := Try.underlying35
 have HB := Aside0.mk (Below.refl w.heap.size w)
 have H : (if a0_1 ≥ 1 then (if a0_1 ≤ 4611686018427387904 then (if a0_0 ≥ (-4611686018427387904) then (if a0_0 ≤ 4611686018427387904 then ((rat_abs.f a0_0).bind fun t102 => ((rat_gcd.f k (([t102, IntKind.u64.wrap (a0_1)] : List Int))).bind fun t106 => (some (t106 == 1)))) else (some false)) else (some false)) else (some false)) else (some false)) = some r := h
 clear h
 by_cases c2 : a0_1 ≥ 1
 ·rw [if_pos c2] at H
  have c2b0 : decide (1 ≤ a0_1) = true := decide_eq_true c2
  clear c2
  by_cases c3 : a0_1 ≤ 4611686018427387904
  ·rw [if_pos c3] at H
   have c3b0 : decide (a0_1 ≤ 4611686018427387904) = true := decide_eq_true c3
   clear c3
   by_cases c4 : a0_0 ≥ (-4611686018427387904)
   ·rw [if_pos c4] at H
    have c4b0 : decide ((-4611686018427387904) ≤ a0_0) = true := decide_eq_true c4
    clear c4
    by_cases c5 : a0_0 ≤ 4611686018427387904
    ·rw [if_pos c5] at H
     have c5b0 : decide (a0_0 ≤ 4611686018427387904) = true := decide_eq_true c5
     clear c5
     replace H := Option.bind_eq_some_iff.mp H
     obtain ⟨t102, A60, H⟩ := H
     replace H : ((rat_gcd.f k (([t102, IntKind.u64.wrap (a0_1)] : List Int))).bind fun t106 => (some (t106 == 1))) = some r := H
     have A6 := Aside0.mk A60
     clear A60
     obtain ⟨y103, hy103⟩ : ∃ y_ : List Int, y_ = (([t102, IntKind.u64.wrap (a0_1)] : List Int)) := ⟨_, rfl⟩
     replace H : ((rat_gcd.f k y103).bind fun t106 => (some (t106 == 1))) = some r := by first | (rw [hy103]; with_reducible exact H) | (have H2_ := (Option.bind_some _ _).symm.trans H; rw [hy103]; with_reducible exact H2_) | (have H2_ := (Option.bind_some _ _).symm.trans H; with_reducible exact H2_) | with_reducible exact H | (rw [hy103]; exact H) | exact H
     have Ny103 := Aside0.mk hy103
     clear hy103
     replace H := Option.bind_eq_some_iff.mp H
     obtain ⟨t106, A70, H⟩ := H
     replace H : (some (t106 == 1)) = some r := H
     have A7 := Aside0.mk A70
     clear A70
     obtain rfl := Option.some.inj H
     go_enter Try.func46, Try.ntmps46
     try go_wp2_with (first | ((with_reducible refine gate_dst (N := 1) rfl ?_); (try (refine gate_guard (by rfl) ?_; dsimp only)); refine box_event ?hg (N := 1) ?hd (cs := #[.int .i64 a0_0, .int .i64 a0_1]) (t := 35) ?hr ?_; (case hd => rfl); (case hg => rfl); (case hr => first | (go_simp; done) | (go_simp; rfl)); intro gb101 hg w8 hbox hb; have n0_ := Aside0.mk (below_step (by repeat (first | (with_reducible first | exact HB.out | apply below_alloc | apply pw_below_drewN | apply below_drew1) | exact HB.out)) hb); have n1_ := Aside0.mk (hbox); have n2_ := Aside0.mk ((by rw [hg]; exact (below_size (by repeat (first | (with_reducible first | exact HB.out | apply below_alloc | apply pw_below_drewN | apply below_drew1) | exact HB.out))) : w.heap.size ≤ gb101)); have n3_ := Aside0.mk ((by rw [hg]; exact (below_size (by repeat (first | (with_reducible first | exact HB.out | apply below_alloc | apply pw_below_drewN | apply below_drew1) | exact HB.out))) : w.heap.size ≤ gb101)); clear HB; have HB := n0_; have BK101 := n1_; have GW101 := n2_; have GE101 := n3_; clear n0_ n1_ n2_ n3_; clear hb hbox hg))
     have n0_ := Aside0.mk (blk_drew BK101.out)
     have n1_ := Aside0.mk (below_drew1 HB.out)
     clear BK101 HB; have BK101 := n0_; have HB := n1_; clear n0_ n1_
     refine start_ (n := 30) (S := fun w' => w'.cell? ⟨gb101, 0, none⟩ = some (.int .i64 a0_0) ∧ w'.cell? ⟨gb101, 1, none⟩ = some (.int .i64 a0_1)) (ds := []) #[false, false, false, false, false, false, false, false, false, false, false, false, false, false, false, false, false, false, false, false, false, false, false, false, false, false, false, false, false, false] (by kernel_rfl) rfl rfl ⟨(blk_cell BK101.out 0).trans rfl, (blk_cell BK101.out 1).trans rfl⟩ (fun hHeld => ?_); refine with_tabW rat_Valid.tab1 rat_Valid.bits1 (fun HT_ HW_ => ?_)
     generalize w8.drew = w9 at BK101 HB hHeld ⊢
     refine pX (i := 0) (N := some 3) rfl rfl HT_ ?_
     refine tX (i := 1) (N := some 4) rfl rfl HT_ HW_ hHeld (Or.inl ⟨by rfl, by rintro w' ⟨s0, s1⟩; go_simp; with_reducible rfl⟩) ?_
     refine pX (i := 2) (N := some 5) rfl rfl HT_ ?_
     refine pX (i := 3) (N := some 6) rfl rfl HT_ ?_
     refine pX (i := 4) (N := some 7) rfl rfl HT_ ?_
     refine tX (i := 5) (N := some 8) rfl rfl HT_ HW_ hHeld (Or.inl ⟨by rfl, by rintro w' ⟨s0, s1⟩; go_simp; with_reducible rfl⟩) ?_
     refine pX (i := 6) (N := some 9) rfl rfl HT_ ?_
     refine pX (i := 7) (N := some 10) rfl rfl HT_ ?_
     refine pX (i := 8) (N := some 11) rfl rfl HT_ ?_
     refine pX (i := 9) (N := some 12) rfl rfl HT_ ?_
     refine tX (i := 10) (N := some 13) rfl rfl HT_ HW_ hHeld (Or.inl ⟨by rfl, by rintro w' ⟨s0, s1⟩; go_simp; with_reducible rfl⟩) ?_
     refine pX (i := 11) (N := some 14) rfl rfl HT_ ?_
     refine pX (i := 12) (N := some 15) rfl rfl HT_ ?_
     refine pX (i := 13) (N := some 16) rfl rfl HT_ ?_
     refine pX (i := 14) (N := some 17) rfl rfl HT_ ?_
     refine tX (i := 15) (N := some 18) rfl rfl HT_ HW_ hHeld (Or.inl ⟨by rfl, by rintro w' ⟨s0, s1⟩; go_simp; with_reducible rfl⟩) ?_
     refine pX (i := 16) (N := some 19) rfl rfl HT_ ?_
     refine pX (i := 17) (N := some 20) rfl rfl HT_ ?_
     refine pX (i := 18) (N := some 21) rfl rfl HT_ ?_
     refine pX (i := 19) (N := some 22) rfl rfl HT_ ?_
     refine pX (i := 22) (N := some 25) rfl rfl HT_ ?_
     refine tX (i := 20) (N := some 23) rfl rfl HT_ HW_ hHeld (Or.inl ⟨by rfl, by rintro w' ⟨s0, s1⟩; go_simp; with_reducible rfl⟩) ?_
     refine tX (i := 23) (N := some 26) rfl rfl HT_ HW_ hHeld (Or.inl ⟨by rfl, by rintro w' ⟨s0, s1⟩; go_simp; with_reducible rfl⟩) ?_
     refine pX (i := 24) (N := some 27) rfl rfl HT_ ?_
     refine oX (i := 21) (N := some 24) rfl rfl HT_ (fun K hK => ?_)
     refine goes_ Try.func72 (by kernel_rfl) rfl #[.int .i64 a0_0] (by rfl) rfl rfl (by (try simp only [List.map_toArray, List.map_cons, List.map_nil]); first | done | rfl | (simp only [List.length_drop, List.length_take]; rfl)) ?_
     with_reducible refine (rat_abs.calls a0_0 t102 _ A6.out).mono ?_
     rintro e w' ⟨rfl, ⟨nd, rfl⟩⟩
     refine ⟨_, rfl, ?_⟩
     refine hK.out _ _ ⟨(blk_cell BK101.out 0).trans rfl, (blk_cell BK101.out 1).trans rfl⟩ (fun hHeld => ?_)
     clear hK K
     refine nX (some 24) ?_
     refine oX (i := 25) (N := some 28) rfl rfl HT_ (fun K hK => ?_)
     refine Kd.R_lit_step (Kd.int .u64) _ 119 ?hg (N := 28) ?hd (xs := ([t102, IntKind.u64.wrap (a0_1)] : List Int)) (inner := [.int .u64 t102, .int .u64 (IntKind.u64.wrap (a0_1))]) (ok := fun _ => True) (okp := fun _ => True) ?hr ?hp (fun _ hk => hk) trivial (Below.refl _ _) (Nat.le_refl _) (by simp) ?_; (case hd => rfl); (case hg => rfl); (case hr => first | (go_simp; done) | (go_simp; rfl)); (case hp => exact (Reps.one (show Kd.M (Kd.int .u64) _ _ _ t102 [.int .u64 t102] from rfl) (Reps.one (show Kd.M (Kd.int .u64) _ _ _ (IntKind.u64.wrap (a0_1)) [.int .u64 (IntKind.u64.wrap (a0_1))] from rfl) (Reps.none _ _))))
     intro v104 w10 ho11 hb hg_ hnew_
     clear hg_ hnew_
     (first | rw [← Ny103.out] at ho11 | (simp only [Int.reduceToNat] at ho11; rw [← Ny103.out] at ho11))
     have n0_ := Aside0.mk (Kd.R_lower ho11 (below_size (by repeat (first | (with_reducible first | exact HB.out | apply below_alloc | apply pw_below_drewN | apply below_drew1 | refine below_set ?_ GE101.out) | exact HB.out))))
     have n1_ := Aside0.mk (blk_below (g := gb101) (o := .cells #[.int .i64 a0_0, .int .i64 a0_1] 35 (0, 0)) (by (with_reducible repeat (first | refine blk_drewN ?_ _ | refine blk_drew ?_ | refine blk_alloc ?_ _)); exact BK101.out) hb)
     have n2_ := Aside0.mk (below_step (by repeat (first | (with_reducible first | exact HB.out | apply below_alloc | apply pw_below_drewN | apply below_drew1 | refine below_set ?_ GE101.out) | exact HB.out)) hb)
     clear BK101 HB; have HO105 := n0_; have BK101 := n1_; have HB := n2_; clear n0_ n1_ n2_ hb ho11
     obtain ⟨Ao12, co12, eo12⟩ := Kd.R_slice HO105.out
     (first | subst eo12 | (injection eo12 with f1_ f2_ f3_; have f4_ := f1_.symm; have f5_ := f3_.symm; clear f1_ f2_ f3_; subst f4_; subst f5_))
     refine hK.out _ _ ⟨(blk_cell BK101.out 0).trans rfl, (blk_cell BK101.out 1).trans rfl⟩ (fun hHeld => ?_)
     clear hK K
     refine nX (some 28) ?_
     refine oX (i := 26) (N := some 29) rfl rfl HT_ (fun K hK => ?_)
     refine goes_ Try.func71 (by kernel_rfl) rfl #[.slice Ao12 y103.length co12] (by rfl) rfl rfl (by (try simp only [List.map_toArray, List.map_cons, List.map_nil]); first | done | rfl | (simp only [List.length_drop, List.length_take]; rfl)) ?_
     with_reducible refine (rat_gcd.calls k _ _ y103 t106 _ ?side1 ?side2 A7.out).mono ?_
     (case side1 => repeat (first | exact (Kd.R_reads' HO105.out).2.2 | (with_reducible refine Kd.C_alloc ?_ _) | (with_reducible refine Kd.C_drewN ?_ _) | (with_reducible refine Kd.C_drew ?_)))
     (case side2 => exact (Kd.R_reads' HO105.out).2.1)
     rintro e w' ⟨rfl, ⟨nd, rfl⟩⟩
     refine ⟨_, rfl, ?_⟩
     refine hK.out _ _ ⟨(blk_cell BK101.out 0).trans rfl, (blk_cell BK101.out 1).trans rfl⟩ (fun hHeld => ?_)
     clear hK K
     refine nX (some 29) ?_
     refine pX (i := 27) (N := some 30) rfl rfl HT_ ?_
     refine pX (i := 28) (N := some 31) rfl rfl HT_ ?_
     refine pX (i := 29) (N := some 2) rfl rfl HT_ ?_
     refine done_ (done_of HT_.out (by kernel_rfl)) ?_
     try go_wp2
     go_ret
     exact ⟨by first | rfl | (simp [errW_none, errW_some] <;> rfl) | (simp [*, errW_none, errW_some] <;> rfl), by repeat (first | (with_reducible first | exact HB.out | apply below_alloc | apply pw_below_drewN | apply below_drew1 | refine below_set ?_ GE101.out) | exact HB.out)⟩
    ·rw [if_neg c5] at H
     have c5b0 : decide (a0_0 ≤ 4611686018427387904) = false := decide_eq_false c5
     clear c5
     obtain rfl := Option.some.inj H
     go_enter Try.func46, Try.ntmps46
     try go_wp2_with (first | ((with_reducible refine gate_dst (N := 1) rfl ?_); (try (refine gate_guard (by rfl) ?_; dsimp only)); refine box_event ?hg (N := 1) ?hd (cs := #[.int .i64 a0_0, .int .i64 a0_1]) (t := 35) ?hr ?_; (case hd => rfl); (case hg => rfl); (case hr => first | (go_simp; done) | (go_simp; rfl)); intro gb101 hg w13 hbox hb; have n0_ := Aside0.mk (below_step (by repeat (first | (with_reducible first | exact HB.out | apply below_alloc | apply pw_below_drewN | apply below_drew1) | exact HB.out)) hb); have n1_ := Aside0.mk (hbox); have n2_ := Aside0.mk ((by rw [hg]; exact (below_size (by repeat (first | (with_reducible first | exact HB.out | apply below_alloc | apply pw_below_drewN | apply below_drew1) | exact HB.out))) : w.heap.size ≤ gb101)); have n3_ := Aside0.mk ((by rw [hg]; exact (below_size (by repeat (first | (with_reducible first | exact HB.out | apply below_alloc | apply pw_below_drewN | apply below_drew1) | exact HB.out))) : w.heap.size ≤ gb101)); clear HB; have HB := n0_; have BK101 := n1_; have GW101 := n2_; have GE101 := n3_; clear n0_ n1_ n2_ n3_; clear hb hbox hg))
     have n0_ := Aside0.mk (blk_drew BK101.out)
     have n1_ := Aside0.mk (below_drew1 HB.out)
     clear BK101 HB; have BK101 := n0_; have HB := n1_; clear n0_ n1_
     refine start_ (n := 30) (S := fun w' => w'.cell? ⟨gb101, 0, none⟩ = some (.int .i64 a0_0) ∧ w'.cell? ⟨gb101, 1, none⟩ = some (.int .i64 a0_1)) (ds := []) #[false, false, false, false, false, false, false, false, false, false, false, false, false, false, false, false, false, false, false, false, false, false, false, false, false, false, false, false, false, false] (by kernel_rfl) rfl rfl ⟨(blk_cell BK101.out 0).trans rfl, (blk_cell BK101.out 1).trans rfl⟩ (fun hHeld => ?_); refine with_tabW rat_Valid.tab1 rat_Valid.bits1 (fun HT_ HW_ => ?_)
     generalize w13.drew = w14 at BK101 HB hHeld ⊢
     refine pX (i := 0) (N := some 3) rfl rfl HT_ ?_
     refine tX (i := 1) (N := some 4) rfl rfl HT_ HW_ hHeld (Or.inl ⟨by rfl, by rintro w' ⟨s0, s1⟩; go_simp; with_reducible rfl⟩) ?_
     refine pX (i := 2) (N := some 5) rfl rfl HT_ ?_
     refine pX (i := 3) (N := some 6) rfl rfl HT_ ?_
     refine pX (i := 4) (N := some 7) rfl rfl HT_ ?_
     refine tX (i := 5) (N := some 8) rfl rfl HT_ HW_ hHeld (Or.inl ⟨by rfl, by rintro w' ⟨s0, s1⟩; go_simp; with_reducible rfl⟩) ?_
     refine pX (i := 6) (N := some 9) rfl rfl HT_ ?_
     refine pX (i := 7) (N := some 10) rfl rfl HT_ ?_
     refine pX (i := 8) (N := some 11) rfl rfl HT_ ?_
     refine pX (i := 9) (N := some 12) rfl rfl HT_ ?_
     refine tX (i := 10) (N := some 13) rfl rfl HT_ HW_ hHeld (Or.inl ⟨by rfl, by rintro w' ⟨s0, s1⟩; go_simp; with_reducible rfl⟩) ?_
     refine pX (i := 11) (N := some 14) rfl rfl HT_ ?_
     refine pX (i := 12) (N := some 15) rfl rfl HT_ ?_
     refine pX (i := 13) (N := some 16) rfl rfl HT_ ?_
     refine pX (i := 14) (N := some 17) rfl rfl HT_ ?_
     refine tX (i := 15) (N := some 18) rfl rfl HT_ HW_ hHeld (Or.inl ⟨by rfl, by rintro w' ⟨s0, s1⟩; go_simp; with_reducible rfl⟩) ?_
     refine pX (i := 16) (N := some 19) rfl rfl HT_ ?_
     refine pX (i := 17) (N := some 20) rfl rfl HT_ ?_
     refine pX (i := 18) (N := some 21) rfl rfl HT_ ?_
     refine pU (i := 19) (N := some 22) rfl rfl HT_ ?_
     refine pU (i := 20) (N := some 23) rfl rfl HT_ ?_
     refine pU (i := 21) (N := some 24) rfl rfl HT_ ?_
     refine pU (i := 22) (N := some 25) rfl rfl HT_ ?_
     refine pU (i := 23) (N := some 26) rfl rfl HT_ ?_
     refine pU (i := 24) (N := some 27) rfl rfl HT_ ?_
     refine pU (i := 25) (N := some 28) rfl rfl HT_ ?_
     refine pU (i := 26) (N := some 29) rfl rfl HT_ ?_
     refine pU (i := 27) (N := some 30) rfl rfl HT_ ?_
     refine pX (i := 28) (N := some 31) rfl rfl HT_ ?_
     refine pX (i := 29) (N := some 2) rfl rfl HT_ ?_
     refine done_ (done_of HT_.out (by kernel_rfl)) ?_
     try go_wp2
     go_ret
     exact ⟨by first | rfl | (simp [errW_none, errW_some] <;> rfl) | (simp [*, errW_none, errW_some] <;> rfl), by repeat (first | (with_reducible first | exact HB.out | apply below_alloc | apply pw_below_drewN | apply below_drew1 | refine below_set ?_ GE101.out) | exact HB.out)⟩
   ·rw [if_neg c4] at H
    have c4b0 : decide ((-4611686018427387904) ≤ a0_0) = false := decide_eq_false c4
    clear c4
    obtain rfl := Option.some.inj H
    go_enter Try.func46, Try.ntmps46
    try go_wp2_with (first | ((with_reducible refine gate_dst (N := 1) rfl ?_); (try (refine gate_guard (by rfl) ?_; dsimp only)); refine box_event ?hg (N := 1) ?hd (cs := #[.int .i64 a0_0, .int .i64 a0_1]) (t := 35) ?hr ?_; (case hd => rfl); (case hg => rfl); (case hr => first | (go_simp; done) | (go_simp; rfl)); intro gb101 hg w15 hbox hb; have n0_ := Aside0.mk (below_step (by repeat (first | (with_reducible first | exact HB.out | apply below_alloc | apply pw_below_drewN | apply below_drew1) | exact HB.out)) hb); have n1_ := Aside0.mk (hbox); have n2_ := Aside0.mk ((by rw [hg]; exact (below_size (by repeat (first | (with_reducible first | exact HB.out | apply below_alloc | apply pw_below_drewN | apply below_drew1) | exact HB.out))) : w.heap.size ≤ gb101)); have n3_ := Aside0.mk ((by rw [hg]; exact (below_size (by repeat (first | (with_reducible first | exact HB.out | apply below_alloc | apply pw_below_drewN | apply below_drew1) | exact HB.out))) : w.heap.size ≤ gb101)); clear HB; have HB := n0_; have BK101 := n1_; have GW101 := n2_; have GE101 := n3_; clear n0_ n1_ n2_ n3_; clear hb hbox hg))
    have n0_ := Aside0.mk (blk_drew BK101.out)
    have n1_ := Aside0.mk (below_drew1 HB.out)
    clear BK101 HB; have BK101 := n0_; have HB := n1_; clear n0_ n1_
    refine start_ (n := 30) (S := fun w' => w'.cell? ⟨gb101, 0, none⟩ = some (.int .i64 a0_0) ∧ w'.cell? ⟨gb101, 1, none⟩ = some (.int .i64 a0_1)) (ds := []) #[false, false, false, false, false, false, false, false, false, false, false, false, false, false, false, false, false, false, false, false, false, false, false, false, false, false, false, false, false, false] (by kernel_rfl) rfl rfl ⟨(blk_cell BK101.out 0).trans rfl, (blk_cell BK101.out 1).trans rfl⟩ (fun hHeld => ?_); refine with_tabW rat_Valid.tab1 rat_Valid.bits1 (fun HT_ HW_ => ?_)
    generalize w15.drew = w16 at BK101 HB hHeld ⊢
    refine pX (i := 0) (N := some 3) rfl rfl HT_ ?_
    refine tX (i := 1) (N := some 4) rfl rfl HT_ HW_ hHeld (Or.inl ⟨by rfl, by rintro w' ⟨s0, s1⟩; go_simp; with_reducible rfl⟩) ?_
    refine pX (i := 2) (N := some 5) rfl rfl HT_ ?_
    refine pX (i := 3) (N := some 6) rfl rfl HT_ ?_
    refine pX (i := 4) (N := some 7) rfl rfl HT_ ?_
    refine tX (i := 5) (N := some 8) rfl rfl HT_ HW_ hHeld (Or.inl ⟨by rfl, by rintro w' ⟨s0, s1⟩; go_simp; with_reducible rfl⟩) ?_
    refine pX (i := 6) (N := some 9) rfl rfl HT_ ?_
    refine pX (i := 7) (N := some 10) rfl rfl HT_ ?_
    refine pX (i := 8) (N := some 11) rfl rfl HT_ ?_
    refine pX (i := 9) (N := some 12) rfl rfl HT_ ?_
    refine tX (i := 10) (N := some 13) rfl rfl HT_ HW_ hHeld (Or.inl ⟨by rfl, by rintro w' ⟨s0, s1⟩; go_simp; with_reducible rfl⟩) ?_
    refine pX (i := 11) (N := some 14) rfl rfl HT_ ?_
    refine pX (i := 12) (N := some 15) rfl rfl HT_ ?_
    refine pX (i := 13) (N := some 16) rfl rfl HT_ ?_
    refine pU (i := 14) (N := some 17) rfl rfl HT_ ?_
    refine pU (i := 15) (N := some 18) rfl rfl HT_ ?_
    refine pU (i := 16) (N := some 19) rfl rfl HT_ ?_
    refine pX (i := 17) (N := some 20) rfl rfl HT_ ?_
    refine pX (i := 18) (N := some 21) rfl rfl HT_ ?_
    refine pU (i := 19) (N := some 22) rfl rfl HT_ ?_
    refine pU (i := 20) (N := some 23) rfl rfl HT_ ?_
    refine pU (i := 21) (N := some 24) rfl rfl HT_ ?_
    refine pU (i := 22) (N := some 25) rfl rfl HT_ ?_
    refine pU (i := 23) (N := some 26) rfl rfl HT_ ?_
    refine pU (i := 24) (N := some 27) rfl rfl HT_ ?_
    refine pU (i := 25) (N := some 28) rfl rfl HT_ ?_
    refine pU (i := 26) (N := some 29) rfl rfl HT_ ?_
    refine pU (i := 27) (N := some 30) rfl rfl HT_ ?_
    refine pX (i := 28) (N := some 31) rfl rfl HT_ ?_
    refine pX (i := 29) (N := some 2) rfl rfl HT_ ?_
    refine done_ (done_of HT_.out (by kernel_rfl)) ?_
    try go_wp2
    go_ret
    exact ⟨by first | rfl | (simp [errW_none, errW_some] <;> rfl) | (simp [*, errW_none, errW_some] <;> rfl), by repeat (first | (with_reducible first | exact HB.out | apply below_alloc | apply pw_below_drewN | apply below_drew1 | refine below_set ?_ GE101.out) | exact HB.out)⟩
  ·rw [if_neg c3] at H
   have c3b0 : decide (a0_1 ≤ 4611686018427387904) = false := decide_eq_false c3
   clear c3
   obtain rfl := Option.some.inj H
   go_enter Try.func46, Try.ntmps46
   try go_wp2_with (first | ((with_reducible refine gate_dst (N := 1) rfl ?_); (try (refine gate_guard (by rfl) ?_; dsimp only)); refine box_event ?hg (N := 1) ?hd (cs := #[.int .i64 a0_0, .int .i64 a0_1]) (t := 35) ?hr ?_; (case hd => rfl); (case hg => rfl); (case hr => first | (go_simp; done) | (go_simp; rfl)); intro gb101 hg w17 hbox hb; have n0_ := Aside0.mk (below_step (by repeat (first | (with_reducible first | exact HB.out | apply below_alloc | apply pw_below_drewN | apply below_drew1) | exact HB.out)) hb); have n1_ := Aside0.mk (hbox); have n2_ := Aside0.mk ((by rw [hg]; exact (below_size (by repeat (first | (with_reducible first | exact HB.out | apply below_alloc | apply pw_below_drewN | apply below_drew1) | exact HB.out))) : w.heap.size ≤ gb101)); have n3_ := Aside0.mk ((by rw [hg]; exact (below_size (by repeat (first | (with_reducible first | exact HB.out | apply below_alloc | apply pw_below_drewN | apply below_drew1) | exact HB.out))) : w.heap.size ≤ gb101)); clear HB; have HB := n0_; have BK101 := n1_; have GW101 := n2_; have GE101 := n3_; clear n0_ n1_ n2_ n3_; clear hb hbox hg))
   have n0_ := Aside0.mk (blk_drew BK101.out)
   have n1_ := Aside0.mk (below_drew1 HB.out)
   clear BK101 HB; have BK101 := n0_; have HB := n1_; clear n0_ n1_
   refine start_ (n := 30) (S := fun w' => w'.cell? ⟨gb101, 0, none⟩ = some (.int .i64 a0_0) ∧ w'.cell? ⟨gb101, 1, none⟩ = some (.int .i64 a0_1)) (ds := []) #[false, false, false, false, false, false, false, false, false, false, false, false, false, false, false, false, false, false, false, false, false, false, false, false, false, false, false, false, false, false] (by kernel_rfl) rfl rfl ⟨(blk_cell BK101.out 0).trans rfl, (blk_cell BK101.out 1).trans rfl⟩ (fun hHeld => ?_); refine with_tabW rat_Valid.tab1 rat_Valid.bits1 (fun HT_ HW_ => ?_)
   generalize w17.drew = w18 at BK101 HB hHeld ⊢
   refine pX (i := 0) (N := some 3) rfl rfl HT_ ?_
   refine tX (i := 1) (N := some 4) rfl rfl HT_ HW_ hHeld (Or.inl ⟨by rfl, by rintro w' ⟨s0, s1⟩; go_simp; with_reducible rfl⟩) ?_
   refine pX (i := 2) (N := some 5) rfl rfl HT_ ?_
   refine pX (i := 3) (N := some 6) rfl rfl HT_ ?_
   refine pX (i := 4) (N := some 7) rfl rfl HT_ ?_
   refine tX (i := 5) (N := some 8) rfl rfl HT_ HW_ hHeld (Or.inl ⟨by rfl, by rintro w' ⟨s0, s1⟩; go_simp; with_reducible rfl⟩) ?_
   refine pX (i := 6) (N := some 9) rfl rfl HT_ ?_
   refine pX (i := 7) (N := some 10) rfl rfl HT_ ?_
   refine pX (i := 8) (N := some 11) rfl rfl HT_ ?_
   refine pU (i := 9) (N := some 12) rfl rfl HT_ ?_
   refine pU (i := 10) (N := some 13) rfl rfl HT_ ?_
   refine pU (i := 11) (N := some 14) rfl rfl HT_ ?_
   refine pX (i := 12) (N := some 15) rfl rfl HT_ ?_
   refine pX (i := 13) (N := some 16) rfl rfl HT_ ?_
   refine pU (i := 14) (N := some 17) rfl rfl HT_ ?_
   refine pU (i := 15) (N := some 18) rfl rfl HT_ ?_
   refine pU (i := 16) (N := some 19) rfl rfl HT_ ?_
   refine pX (i := 17) (N := some 20) rfl rfl HT_ ?_
   refine pX (i := 18) (N := some 21) rfl rfl HT_ ?_
   refine pU (i := 19) (N := some 22) rfl rfl HT_ ?_
   refine pU (i := 20) (N := some 23) rfl rfl HT_ ?_
   refine pU (i := 21) (N := some 24) rfl rfl HT_ ?_
   refine pU (i := 22) (N := some 25) rfl rfl HT_ ?_
   refine pU (i := 23) (N := some 26) rfl rfl HT_ ?_
   refine pU (i := 24) (N := some 27) rfl rfl HT_ ?_
   refine pU (i := 25) (N := some 28) rfl rfl HT_ ?_
   refine pU (i := 26) (N := some 29) rfl rfl HT_ ?_
   refine pU (i := 27) (N := some 30) rfl rfl HT_ ?_
   refine pX (i := 28) (N := some 31) rfl rfl HT_ ?_
   refine pX (i := 29) (N := some 2) rfl rfl HT_ ?_
   refine done_ (done_of HT_.out (by kernel_rfl)) ?_
   try go_wp2
   go_ret
   exact ⟨by first | rfl | (simp [errW_none, errW_some] <;> rfl) | (simp [*, errW_none, errW_some] <;> rfl), by repeat (first | (with_reducible first | exact HB.out | apply below_alloc | apply pw_below_drewN | apply below_drew1 | refine below_set ?_ GE101.out) | exact HB.out)⟩
 ·rw [if_neg c2] at H
  have c2b0 : decide (1 ≤ a0_1) = false := decide_eq_false c2
  clear c2
  obtain rfl := Option.some.inj H
  go_enter Try.func46, Try.ntmps46
  try go_wp2_with (first | ((with_reducible refine gate_dst (N := 1) rfl ?_); (try (refine gate_guard (by rfl) ?_; dsimp only)); refine box_event ?hg (N := 1) ?hd (cs := #[.int .i64 a0_0, .int .i64 a0_1]) (t := 35) ?hr ?_; (case hd => rfl); (case hg => rfl); (case hr => first | (go_simp; done) | (go_simp; rfl)); intro gb101 hg w19 hbox hb; have n0_ := Aside0.mk (below_step (by repeat (first | (with_reducible first | exact HB.out | apply below_alloc | apply pw_below_drewN | apply below_drew1) | exact HB.out)) hb); have n1_ := Aside0.mk (hbox); have n2_ := Aside0.mk ((by rw [hg]; exact (below_size (by repeat (first | (with_reducible first | exact HB.out | apply below_alloc | apply pw_below_drewN | apply below_drew1) | exact HB.out))) : w.heap.size ≤ gb101)); have n3_ := Aside0.mk ((by rw [hg]; exact (below_size (by repeat (first | (with_reducible first | exact HB.out | apply below_alloc | apply pw_below_drewN | apply below_drew1) | exact HB.out))) : w.heap.size ≤ gb101)); clear HB; have HB := n0_; have BK101 := n1_; have GW101 := n2_; have GE101 := n3_; clear n0_ n1_ n2_ n3_; clear hb hbox hg))
  have n0_ := Aside0.mk (blk_drew BK101.out)
  have n1_ := Aside0.mk (below_drew1 HB.out)
  clear BK101 HB; have BK101 := n0_; have HB := n1_; clear n0_ n1_
  refine start_ (n := 30) (S := fun w' => w'.cell? ⟨gb101, 0, none⟩ = some (.int .i64 a0_0) ∧ w'.cell? ⟨gb101, 1, none⟩ = some (.int .i64 a0_1)) (ds := []) #[false, false, false, false, false, false, false, false, false, false, false, false, false, false, false, false, false, false, false, false, false, false, false, false, false, false, false, false, false, false] (by kernel_rfl) rfl rfl ⟨(blk_cell BK101.out 0).trans rfl, (blk_cell BK101.out 1).trans rfl⟩ (fun hHeld => ?_); refine with_tabW rat_Valid.tab1 rat_Valid.bits1 (fun HT_ HW_ => ?_)
  generalize w19.drew = w20 at BK101 HB hHeld ⊢
  refine pX (i := 0) (N := some 3) rfl rfl HT_ ?_
  refine tX (i := 1) (N := some 4) rfl rfl HT_ HW_ hHeld (Or.inl ⟨by rfl, by rintro w' ⟨s0, s1⟩; go_simp; with_reducible rfl⟩) ?_
  refine pX (i := 2) (N := some 5) rfl rfl HT_ ?_
  refine pX (i := 3) (N := some 6) rfl rfl HT_ ?_
  refine pU (i := 4) (N := some 7) rfl rfl HT_ ?_
  refine pU (i := 5) (N := some 8) rfl rfl HT_ ?_
  refine pU (i := 6) (N := some 9) rfl rfl HT_ ?_
  refine pX (i := 7) (N := some 10) rfl rfl HT_ ?_
  refine pX (i := 8) (N := some 11) rfl rfl HT_ ?_
  refine pU (i := 9) (N := some 12) rfl rfl HT_ ?_
  refine pU (i := 10) (N := some 13) rfl rfl HT_ ?_
  refine pU (i := 11) (N := some 14) rfl rfl HT_ ?_
  refine pX (i := 12) (N := some 15) rfl rfl HT_ ?_
  refine pX (i := 13) (N := some 16) rfl rfl HT_ ?_
  refine pU (i := 14) (N := some 17) rfl rfl HT_ ?_
  refine pU (i := 15) (N := some 18) rfl rfl HT_ ?_
  refine pU (i := 16) (N := some 19) rfl rfl HT_ ?_
  refine pX (i := 17) (N := some 20) rfl rfl HT_ ?_
  refine pX (i := 18) (N := some 21) rfl rfl HT_ ?_
  refine pU (i := 19) (N := some 22) rfl rfl HT_ ?_
  refine pU (i := 20) (N := some 23) rfl rfl HT_ ?_
  refine pU (i := 21) (N := some 24) rfl rfl HT_ ?_
  refine pU (i := 22) (N := some 25) rfl rfl HT_ ?_
  refine pU (i := 23) (N := some 26) rfl rfl HT_ ?_
  refine pU (i := 24) (N := some 27) rfl rfl HT_ ?_
  refine pU (i := 25) (N := some 28) rfl rfl HT_ ?_
  refine pU (i := 26) (N := some 29) rfl rfl HT_ ?_
  refine pU (i := 27) (N := some 30) rfl rfl HT_ ?_
  refine pX (i := 28) (N := some 31) rfl rfl HT_ ?_
  refine pX (i := 29) (N := some 2) rfl rfl HT_ ?_
  refine done_ (done_of HT_.out (by kernel_rfl)) ?_
  try go_wp2
  go_ret
  exact ⟨by first | rfl | (simp [errW_none, errW_some] <;> rfl) | (simp [*, errW_none, errW_some] <;> rfl), by repeat (first | (with_reducible first | exact HB.out | apply below_alloc | apply pw_below_drewN | apply below_drew1 | refine below_set ?_ GE101.out) | exact HB.out)⟩
end Go.Proofs.Ytohnkcmbogcfhaa.P
namespace Go.Proofs.Ytohnkcmbogcfhaa.R
open Go.RowKit Go.Proofs.Ytohnkcmbogcfhaa.P Go.Proofs.YtohnkcmbogcfhaaW.PrintWords Go.Proofs.YtohnkcmbogcfhaaW.PrintLast Go.Proofs.YtohnkcmbogcfhaaW.PrintMore
/-- A number of 128 bits: its upper and its lower half. -/
def hi (m : Nat) : Int := ((m / 18446744073709551616 : Nat) : Int)
def lo (m : Nat) : Int := ((m % 18446744073709551616 : Nat) : Int)
end Go.Proofs.Ytohnkcmbogcfhaa.R
namespace Go.Proofs.Ytohnkcmbogcfhaa.R
open Go.RowKit Go.Proofs.Ytohnkcmbogcfhaa.P Go.Proofs.YtohnkcmbogcfhaaW.PrintWords Go.Proofs.YtohnkcmbogcfhaaW.PrintLast Go.Proofs.YtohnkcmbogcfhaaW.PrintMore
/-- What a description's numbers are. -/
def raw (x : S96) : Prop := (0 ≤ x.f0 ∧ x.f0 ≤ 255) ∧ (0 ≤ x.f1 ∧ x.f1 ≤ 255) ∧ (0 ≤ x.f2 ∧ x.f2 ≤ 65535) ∧ 0 ≤ x.f3 ∧ x.f3 ≤ 65535
theorem wf_u8 {n : Int} (h : (Lit.int .u8 n).wf = true) : 0 ≤ n ∧ n ≤ 255 := by
 simp only [Lit.wf, IntKind.min, IntKind.max, IntKind.signed, IntKind.bits, Bool.and_eq_true] at h
 simpa using h
theorem wf_u16 {n : Int} (h : (Lit.int .u16 n).wf = true) : 0 ≤ n ∧ n ≤ 65535 := by
 simp only [Lit.wf, IntKind.min, IntKind.max, IntKind.signed, IntKind.bits, Bool.and_eq_true] at h
 simpa using h
theorem wf_i64 {n : Int} (h : (Lit.int .i64 n).wf = true) : -9223372036854775808 ≤ n ∧ n ≤ 9223372036854775807 := by
 simp only [Lit.wf, IntKind.min, IntKind.max, IntKind.signed, IntKind.bits, Bool.and_eq_true] at h
 simpa using h
theorem raw_of {x : S96} (h : (Lit.int .u8 x.f0).wf = true ∧ (Lit.int .u8 x.f1).wf = true ∧ (Lit.int .u16 x.f2).wf = true ∧ (Lit.int .u16 x.f3).wf = true) : raw x :=
 ⟨wf_u8 h.1, wf_u8 h.2.1, wf_u16 h.2.2.1, wf_u16 h.2.2.2⟩
def mkB (x : S96) (k : Int) : S71 := ⟨k, if x.f1 % 8 = 7 then 1073741824 - x.f2 % 3 else x.f2, x.f3⟩
def pickB (l : List S96) (k : Int) : List S71 := match l.find? (fun x => 1 + x.f0 % 14 == k) with
 | some x => [mkB x k]
 | none => []
def madeFrom (l : List S96) : Nat → Int → List S71
 | 0, _ => []
 | d + 1, k => pickB l k ++ madeFrom l d (k + 1)
def madeL (l : List S96) : List S71 := madeFrom l 14 1
theorem made_l1 (l : List S96) (hl : l.length < 1000000) (hr : ∀ x ∈ l, raw x) (k : Int) (hk : 1 ≤ k ∧ k ≤ 14) (acc rest : List S71) (ha : acc.length < 1000000)
  (hnext : ∀ acc', acc'.length ≤ acc.length + 1 → Ev (fun n => paroleref37_Made.l0 n l acc' (k + 1)) (acc' ++ rest)) :
  ∀ (d i : Nat), i + d = l.length → Ev (fun n => paroleref37_Made.l1 n l acc k (i : Int)) (acc ++ (pickB (l.drop i) k ++ rest)) := by
 have hk1 : wrap64 (k + 1) = k + 1 := wrap64_of (by omega) (by omega)
 intro d
 induction d with
 | zero =>
  intro i h
  refine Ev.succ ?_
  simp only [paroleref37_Made.l1]
  refine Ev.neg (by omega) ?_
  rw [hk1, List.drop_eq_nil_of_le (by omega)]
  simpa [pickB] using hnext acc (by omega)
 | succ d ih =>
  intro i h
  have hi : i < l.length := by omega
  refine Ev.succ ?_
  simp only [paroleref37_Made.l1]
  have e : l.drop i = l[i] :: l.drop (i + 1) := List.drop_eq_getElem_cons hi
  have er : rd_T96 l (i : Int) = l[i] := by unfold rd_T96; simp [hi]
  have hw : wrap64 ((i : Int) + 1) = ((i + 1 : Nat) : Int) := by rw [wrap64_of (by omega) (by omega)]; omega
  have hx := hr l[i] (List.getElem_mem hi)
  have hih := ih (i + 1) (by omega)
  rw [e, er, hw, hk1]
  generalize l[i] = x at hx ⊢
  unfold raw at hx
  have m1 : x.f0.tmod 14 = x.f0 % 14 := Int.tmod_eq_emod_of_nonneg hx.1.1
  have m2 : x.f1.tmod 8 = x.f1 % 8 := Int.tmod_eq_emod_of_nonneg hx.2.1.1
  have m3 : x.f2.tmod 3 = x.f2 % 3 := Int.tmod_eq_emod_of_nonneg hx.2.2.1.1
  have w1 : wrap64 (1 + wrap64 (x.f0 % 14)) = 1 + x.f0 % 14 := by rw [wrap64_of (n := x.f0 % 14) (by omega) (by omega), wrap64_of (by omega) (by omega)]
  have w3 : wrap64 (1073741824 - wrap64 (x.f2 % 3)) = 1073741824 - x.f2 % 3 := by rw [wrap64_of (n := x.f2 % 3) (by omega) (by omega), wrap64_of (by omega) (by omega)]
  have w4 : wrap64 x.f3 = x.f3 := wrap64_of (by omega) (by omega)
  have w5 : wrap64 x.f2 = x.f2 := wrap64_of (by omega) (by omega)
  rw [m1, m2, m3, w1, w3, w4, w5]
  refine Ev.pos (by omega) (Ev.pos (by omega) ?_)
  by_cases c : 1 + x.f0 % 14 = k
  ·refine Ev.pos c ?_
   have ep : pickB (x :: l.drop (i + 1)) k = [mkB x k] := by simp [pickB, c]
   rw [ep]
   unfold mkB
   have go : ∀ y : S71, Ev (fun n => paroleref37_Made.l0 n l (acc ++ [y]) (k + 1)) (acc ++ ([y] ++ rest)) := by
    intro y
    have := hnext (acc ++ [y]) (by simp)
    simpa using this
   by_cases c8 : x.f1 % 8 = 7
   ·rw [if_pos c8]
    exact Ev.pos c8 (Ev.pos (by omega) (go _))
   ·rw [if_neg c8]
    exact Ev.neg c8 (Ev.pos (by omega) (go _))
  ·refine Ev.neg c ?_
   have ep : pickB (x :: l.drop (i + 1)) k = pickB (l.drop (i + 1)) k := by simp [pickB, c]
   rw [ep]
   exact hih
theorem made_l0 (l : List S96) (hl : l.length < 1000000) (hr : ∀ x ∈ l, raw x) : ∀ (d : Nat) (k : Int) (acc : List S71), k + d = 15 → 1 ≤ k → acc.length + d < 100 → Ev (fun n => paroleref37_Made.l0 n l acc k) (acc ++ madeFrom l d k) := by
 intro d
 induction d with
 | zero =>
  intro k acc h1 h2 h3
  refine Ev.succ ?_
  simp only [paroleref37_Made.l0, madeFrom, List.append_nil]
  exact Ev.neg (by omega) (Ev.now _)
 | succ d ih =>
  intro k acc h1 h2 h3
  refine Ev.succ ?_
  simp only [paroleref37_Made.l0, madeFrom]
  refine Ev.pos (by omega) ?_
  have := made_l1 l hl hr k ⟨h2, by omega⟩ acc (madeFrom l d (k + 1)) (by omega) (fun acc' ha' => ih (k + 1) acc' (by omega) (by omega) (by omega)) l.length 0 (by omega)
  simpa using this
theorem ev_Made (l : List S96) (hl : l.length < 1000000) (hr : ∀ x ∈ l, raw x) : Ev (fun n => paroleref37_Made.f n l) (madeL l) := by
 have := made_l0 l hl hr 14 1 [] (by omega) (by omega) (by simp)
 simpa [paroleref37_Made.f, madeL] using this
theorem pickB_mem (l : List S96) (hr : ∀ x ∈ l, raw x) (k : Int) (y : S71) (hy : y ∈ pickB l k) : y.f0 = k ∧ 0 ≤ y.f1 ∧ 0 ≤ y.f2 ∧ small y := by
 unfold pickB at hy
 split at hy
 ·rename_i x hx
  have hm := hr x (List.mem_of_find?_eq_some hx)
  simp only [List.mem_singleton] at hy
  subst hy
  unfold raw at hm
  unfold mkB small
  refine ⟨rfl, ?_, ?_, ?_, ?_⟩
  ·simp only; split <;> omega
  ·simp only; omega
  ·simp only; split <;> omega
  ·simp only; omega
 ·simp at hy
theorem madeFrom_mem (l : List S96) (hr : ∀ x ∈ l, raw x) : ∀ (d : Nat) (k : Int) (y : S71), y ∈ madeFrom l d k → k ≤ y.f0 ∧ y.f0 < k + d ∧ 0 ≤ y.f1 ∧ 0 ≤ y.f2 ∧ small y := by
 intro d
 induction d with
 | zero => intro k y hy; simp [madeFrom] at hy
 | succ d ih =>
  intro k y hy
  simp only [madeFrom, List.mem_append] at hy
  rcases hy with hy | hy
  ·have := pickB_mem l hr k y hy
   exact ⟨by omega, by omega, this.2.1, this.2.2.1, this.2.2.2⟩
  ·have := ih (k + 1) y hy
   exact ⟨by omega, by omega, this.2.2.1, this.2.2.2.1, this.2.2.2.2⟩
theorem madeFrom_sorted (l : List S96) (hr : ∀ x ∈ l, raw x) : ∀ (d : Nat) (k : Int), Sorted (madeFrom l d k) := by
 intro d
 induction d with
 | zero => intro k; exact List.Pairwise.nil
 | succ d ih =>
  intro k
  unfold Sorted
  simp only [madeFrom]
  rw [List.pairwise_append]
  refine ⟨?_, ih (k + 1), ?_⟩
  ·unfold pickB; split <;> simp
  ·intro a ha b hb
   have h1 := pickB_mem l hr k a ha
   have h2 := madeFrom_mem l hr d (k + 1) b hb
   omega
theorem made_book (l : List S96) (hr : ∀ x ∈ l, raw x) : Book (madeL l) := by
 refine ⟨⟨madeFrom_sorted l hr 14 1, fun x hx => ?_⟩, fun x hx => ?_⟩
 ·have := madeFrom_mem l hr 14 1 x hx
  unfold okx
  omega
 ·exact (madeFrom_mem l hr 14 1 x hx).2.2.2.2
def rn (N D : Nat) : Nat := N / Nat.gcd N D
def rd_ (N D : Nat) : Nat := D / Nat.gcd N D
def cr (l : List S71) (k : Int) : Nat := (look l k).f1.toNat
def cw (l : List S71) (k : Int) : Nat := (look l k).f2.toNat
theorem cr_le (l : List S71) (h : Book l) (k : Int) : cr l k ≤ 1073741824 ∧ cw l k ≤ 1073741824 := by
 have := look_small l h.2 k
 unfold small at this
 unfold cr cw
 omega
theorem of_book (l : List S71) (h : Book l) (k : Int) (hk : -9223372036854775808 ≤ k ∧ k ≤ 9223372036854775807) : odds_book_of.f l k = some (k, (cr l k : Int), (cw l k : Int)) := by
 rw [of_spec l h.1 k hk.1 hk.2, look_f0]
 have := look_nn l h.1.2 k
 unfold cr cw
 rw [Int.toNat_of_nonneg this.1, Int.toNat_of_nonneg this.2]
theorem ev_LossB (l : List S71) (h : Book l) (k : Int) (hk : -9223372036854775808 ≤ k ∧ k ≤ 9223372036854775807) (cost : Nat) (hc : cost ≤ 1073741824) : Ev (fun n => odds_Loss.f n l k (cost : Int)) ((rn ((cr l k + 1) * cost) (cr l k + cw l k + 2) : Int), (rd_ ((cr l k + 1) * cost) (cr l k + cw l k + 2) : Int), 0) := by
 have hb := cr_le l h k
 exact ev_Loss l k k (cr l k) (cw l k) cost (of_book l h k hk) hb.1 hb.2 hc
theorem ev_OfB (l : List S71) (h : Book l) (k : Int) (hk : -9223372036854775808 ≤ k ∧ k ≤ 9223372036854775807) : Ev (fun n => odds_Of.f n l k) ((rn (cr l k + 1) (cr l k + cw l k + 2) : Int), (rd_ (cr l k + 1) (cr l k + cw l k + 2) : Int)) := by
 unfold odds_Of.f
 have := ev_LossB l h k hk 1 (by omega)
 rw [Nat.mul_one] at this
 exact Ev.bind this (Ev.now _)
/-- One answer more. -/
def ans (k : Int) (right : Bool) : S71 := if right then ⟨k, 1, 0⟩ else ⟨k, 0, 1⟩
theorem ans_book (k : Int) (hk : 1 ≤ k ∧ k ≤ 14) (right : Bool) : Book [ans k right] := by
 refine ⟨⟨by simp [Sorted], ?_⟩, ?_⟩ <;> intro x hx <;> simp only [List.mem_singleton] at hx <;> subst hx <;> cases right <;> simp [okx, small, ans] <;> omega
theorem learnR_of (l : List S71) (k : Int) (hk : 1 ≤ k ∧ k ≤ 14) (right : Bool) : learnR l k right = joinR l [ans k right] := by
 unfold learnR ans
 rw [if_neg (by omega)]
/-- Joined books: a book again, or too great. -/
theorem joinR_cases (a b : List S71) (ha : Book a) (hb : Book b) : (joinR a b = ([], 2) ∧ ¬ Book (joinL a b)) ∨ (joinR a b = (joinL a b, 0) ∧ Book (joinL a b)) := by
 unfold joinR
 cases h : rightB (joinL a b) with
 | true => exact .inr ⟨rfl, (book_iff _).1 h⟩
 | false => exact .inl ⟨rfl, fun hb => by rw [(book_iff _).2 hb] at h; cases h⟩
end Go.Proofs.Ytohnkcmbogcfhaa.R
namespace Go.Proofs.Ytohnkcmbogcfhaa.R
open Go.RowKit Go.Proofs.Ytohnkcmbogcfhaa.P Go.Proofs.YtohnkcmbogcfhaaW.PrintWords Go.Proofs.YtohnkcmbogcfhaaW.PrintLast Go.Proofs.YtohnkcmbogcfhaaW.PrintMore
theorem rdT_at (l : List S71) (i : Nat) (h : i < l.length) : rd_T71 l (i : Int) = l[i] := by unfold rd_T71; simp [h]
theorem wrap_succ (i n : Nat) (h : i < n) (hn : n < 1000000000000) : wrap64 ((i : Int) + 1) = ((i + 1 : Nat) : Int) := by rw [wrap64_of (by omega) (by omega)]; omega
theorem refRight_l0 (l : List S71) (hl : l.length < 1000000000000) : ∀ (d i : Nat), i + d = l.length → Ev (fun k => paroleref37_Right.l0 k l (i : Int)) (if rightFrom (if i = 0 then none else l[i - 1]?) (l.drop i) then 0 else 1) := by
 intro d
 induction d with
 | zero =>
  intro i h
  refine Ev.succ ?_
  simp only [paroleref37_Right.l0]
  have e : l.drop i = [] := List.drop_eq_nil_of_le (by omega)
  rw [e]
  simp only [rightFrom, if_true]
  exact Ev.neg (by omega) (Ev.now _)
 | succ d ih =>
  intro i h
  have hi : i < l.length := by omega
  refine Ev.succ ?_
  simp only [paroleref37_Right.l0]
  have e : l.drop i = l[i] :: l.drop (i + 1) := List.drop_eq_getElem_cons hi
  have er : rd_T71 l (i : Int) = l[i] := rdT_at l i hi
  have hw : wrap64 ((i : Int) + 1) = ((i + 1 : Nat) : Int) := wrap_succ i _ hi hl
  have hih := ih (i + 1) (by omega)
  rw [e]
  generalize hx : l[i] = x at er ⊢
  have hprev : l[i + 1 - 1]? = some x := by simp [hi, hx]
  rw [hprev] at hih
  simp only [Nat.add_eq_zero_iff, Nat.one_ne_zero, and_false, if_false] at hih
  simp only [er, hw]
  refine Ev.pos (by omega) (Ev.pos (by omega) ?_)
  have bad : ∀ p, okAt p x = false → (if rightFrom p (x :: l.drop (i + 1)) = true then (0 : Int) else 1) = 1 := by
   intro p hp
   simp [rightFrom, hp]
  by_cases c1 : x.f0 < 1
  ·refine Ev.pos c1 ?_
   rw [bad _ (by unfold okAt; simp; omega)]
   exact Ev.now _
  refine Ev.neg c1 ?_
  by_cases c2 : x.f0 > 14
  ·refine Ev.pos c2 ?_
   rw [bad _ (by unfold okAt; simp; omega)]
   exact Ev.now _
  refine Ev.neg c2 ?_
  by_cases c3 : x.f1 < 0
  ·refine Ev.pos c3 ?_
   rw [bad _ (by unfold okAt; simp; omega)]
   exact Ev.now _
  refine Ev.neg c3 ?_
  by_cases c4 : x.f1 > 1073741824
  ·refine Ev.pos c4 ?_
   rw [bad _ (by unfold okAt; simp; omega)]
   exact Ev.now _
  refine Ev.neg c4 ?_
  by_cases c3' : x.f2 < 0
  ·refine Ev.pos c3' ?_
   rw [bad _ (by unfold okAt; simp; omega)]
   exact Ev.now _
  refine Ev.neg c3' ?_
  by_cases c4' : x.f2 > 1073741824
  ·refine Ev.pos c4' ?_
   rw [bad _ (by unfold okAt; simp; omega)]
   exact Ev.now _
  refine Ev.neg c4' ?_
  have hok : okAt none x = true := by
   unfold okAt
   simp
   omega
  by_cases c5 : i = 0
  ·subst c5
   refine Ev.neg (by simp) ?_
   simpa [rightFrom, hok] using hih
  ·refine Ev.pos (by omega) ?_
   have hw2 : wrap64 ((i : Int) - 1) = ((i - 1 : Nat) : Int) := by rw [wrap64_of (by omega) (by omega)]; omega
   rw [hw2]
   have hj : i - 1 < l.length := by omega
   rw [rdT_at l (i - 1) hj]
   refine Ev.pos (by omega) (Ev.pos (by omega) ?_)
   have hq : l[i - 1]? = some l[i - 1] := by simp [hj]
   simp only [c5, if_false]
   rw [hq]
   generalize l[i - 1] = q
   by_cases c6 : q.f0 ≥ x.f0
   ·refine Ev.pos c6 ?_
    rw [bad _ (by unfold okAt; simp; omega)]
    exact Ev.now _
   ·refine Ev.neg c6 ?_
    have hok2 : okAt (some q) x = true := by
     unfold okAt at hok ⊢
     simp at hok ⊢
     omega
    simpa [rightFrom, hok2] using hih
theorem ev_refRight (l : List S71) (hl : l.length < 1000000000000) : Ev (fun k => paroleref37_Right.f k l) (if rightB l then 0 else 1) := by
 have := refRight_l0 l hl l.length 0 (by omega)
 rw [List.drop_zero] at this
 exact this
theorem counts_l0 (l : List S71) (t : Int) (hl : l.length < 1000000000000) : ∀ (d i : Nat), i + d = l.length → Ev (fun k => paroleref37_counts.l0 k l t (i : Int)) ((look (l.drop i) t).f0, (look (l.drop i) t).f1, (look (l.drop i) t).f2, has (l.drop i) t) := by
 intro d
 induction d with
 | zero =>
  intro i h
  refine Ev.succ ?_
  simp only [paroleref37_counts.l0]
  have e : l.drop i = [] := List.drop_eq_nil_of_le (by omega)
  rw [e]
  exact Ev.neg (by omega) (Ev.now _)
 | succ d ih =>
  intro i h
  have hi : i < l.length := by omega
  refine Ev.succ ?_
  simp only [paroleref37_counts.l0]
  have e : l.drop i = l[i] :: l.drop (i + 1) := List.drop_eq_getElem_cons hi
  rw [e, rdT_at l i hi, wrap_succ i _ hi hl, look_cons, has_cons]
  refine Ev.pos (by omega) (Ev.pos (by omega) ?_)
  by_cases c : l[i].f0 = t
  ·refine Ev.pos c ?_
   rw [if_pos c, beq_iff_eq.2 c]
   exact Ev.now _
  ·refine Ev.neg c ?_
   rw [if_neg c, beq_eq_false_iff_ne.2 c]
   exact ih (i + 1) (by omega)
theorem ev_counts (l : List S71) (t : Int) (hl : l.length < 1000000000000) : Ev (fun k => paroleref37_counts.f k l t) ((look l t).f0, (look l t).f1, (look l t).f2, has l t) := by
 have := counts_l0 l t hl l.length 0 (by omega)
 rw [List.drop_zero] at this
 exact this
theorem refGcd : ∀ (b a : Nat), Ev (fun k => paroleref02_Gcd.l0 k (a : Int) (b : Int)) (Nat.gcd a b : Int) := by
 intro b
 induction b using Nat.strongRecOn with
 | _ b ih =>
  intro a
  refine Ev.succ ?_
  simp only [paroleref02_Gcd.l0]
  by_cases hb : b = 0
  ·subst hb
   refine Ev.neg (by simp) ?_
   rw [Nat.gcd_zero_right]
   exact Ev.now _
  ·refine Ev.pos (by omega) (Ev.neg (by omega) ?_)
   have e : Int.tmod (a : Int) (b : Int) = ((a % b : Nat) : Int) := rfl
   rw [e]
   have := ih (a % b) (Nat.mod_lt _ (by omega)) b
   rw [Nat.gcd_comm, ← Nat.gcd_rec, Nat.gcd_comm] at this
   exact this
theorem size_of (n : Nat) : paroleref02_size.f (n : Int) = some (n : Int) := by
 unfold paroleref02_size.f
 rw [if_neg (by omega)]
theorem half_of (n g : Nat) (hg : 0 < g) (hn : n ≤ 4611686018427387904) : paroleref02_half.f (n : Int) (g : Int) = some ((n / g : Nat) : Int) := by
 unfold paroleref02_half.f
 rw [if_neg (by omega)]
 have e : Int.tdiv (n : Int) (g : Int) = ((n / g : Nat) : Int) := rfl
 have h1 := Nat.div_le_self n g
 rw [e]
 generalize n / g = q at h1 ⊢
 rw [wrap64_of (by omega) (by omega), size_of]
 rfl
theorem red_even (n d : Nat) : rn (2 * n) (2 * d) = rn n d ∧ rd_ (2 * n) (2 * d) = rd_ n d := by
 unfold rn rd_
 rw [Nat.gcd_mul_left, Nat.mul_div_mul_left _ _ (by omega), Nat.mul_div_mul_left _ _ (by omega)]
 exact ⟨rfl, rfl⟩
theorem newIn_j1 (n d : Nat) (hn : n ≤ 4611686018427387904) (hd0 : 0 < d) (hd : d ≤ 4611686018427387904) : Ev (fun k => paroleref02_NewIn.j1 k (n : Int) (d : Int)) ((rn n d : Int), (rd_ n d : Int), 0) := by
 refine Ev.succ ?_
 simp only [paroleref02_NewIn.j1]
 by_cases h0 : n = 0
 ·subst h0
  refine Ev.pos rfl ?_
  unfold rn rd_
  rw [Nat.gcd_zero_left, Nat.zero_div, Nat.div_self hd0]
  exact Ev.now _
 ·refine Ev.neg (by omega) (Ev.neg (by omega) (Ev.succ ?_))
  simp only [paroleref02_NewIn.j2]
  have hg : 0 < Nat.gcd n d := Nat.gcd_pos_of_pos_right _ hd0
  refine Ev.neg (by first | (simp; done) | (simp; omega)) (Ev.cbind (size_of n) (Ev.cbind (size_of d) (Ev.bind (refGcd d n) (Ev.cbind (half_of n _ hg hn) (Ev.cbind (half_of d _ hg hd) (Ev.cbind rfl (Ev.neg ?_ (Ev.cbind rfl (Ev.succ ?_)))))))))
  ·have := Nat.div_le_self n (Nat.gcd n d)
   omega
  ·simp only [paroleref02_NewIn.j3]
   refine Ev.neg ?_ (Ev.neg ?_ (Ev.now _))
   ·have := Nat.div_le_self d (Nat.gcd n d)
    simp
    omega
   ·rw [decide_eq_false (by omega), decide_eq_false (by omega)]
    exact fun h => by cases h
theorem newIn_l0 : ∀ (d : Nat), 0 < d → d ≤ 4611686018427387904 → ∀ n : Nat, n ≤ 4611686018427387904 → Ev (fun k => paroleref02_NewIn.l0 k (n : Int) (d : Int)) ((rn n d : Int), (rd_ n d : Int), 0) := by
 intro d
 induction d using Nat.strongRecOn with
 | _ d ih =>
  intro hd0 hd n hn
  refine Ev.succ ?_
  simp only [paroleref02_NewIn.l0]
  have en : Int.tmod (n : Int) 2 = ((n % 2 : Nat) : Int) := rfl
  have ed : Int.tmod (d : Int) 2 = ((d % 2 : Nat) : Int) := rfl
  have fn : Int.tdiv (n : Int) 2 = ((n / 2 : Nat) : Int) := rfl
  have fd : Int.tdiv (d : Int) 2 = ((d / 2 : Nat) : Int) := rfl
  rw [en, ed, fn, fd]
  refine Ev.ite (fun c1 => Ev.ite (fun c2 => Ev.ite (fun c3 => newIn_j1 n d hn hd0 hd) (fun c3 => ?_)) (fun c2 => newIn_j1 n d hn hd0 hd)) (fun c1 => newIn_j1 n d hn hd0 hd)
  rw [wrap64_of (n := ((n / 2 : Nat) : Int)) (by omega) (by omega), wrap64_of (n := ((d / 2 : Nat) : Int)) (by omega) (by omega)]
  have := ih (d / 2) (by omega) (by omega) (by omega) (n / 2) (by omega)
  have r := red_even (n / 2) (d / 2)
  rw [show 2 * (n / 2) = n by omega, show 2 * (d / 2) = d by omega] at r
  rw [r.1, r.2]
  exact this
theorem ev_NewIn (n d : Nat) (hn : n ≤ 4611686018427387904) (hd0 : 0 < d) (hd : d ≤ 4611686018427387904) : Ev (fun k => paroleref02_NewIn.f k (n : Int) (d : Int)) ((rn n d : Int), (rd_ n d : Int), 0) := by
 unfold paroleref02_NewIn.f
 exact Ev.neg (by omega) (newIn_l0 d hd0 hd n hn)
theorem ref_look (l : List S71) (h : Book l) (k : Int) : (look l k).f1 = (cr l k : Int) ∧ (look l k).f2 = (cw l k : Int) := by
 have := look_nn l h.1.2 k
 unfold cr cw
 omega
theorem ev_refLoss (l : List S71) (h : Book l) (k : Int) (cost : Nat) (hc : cost ≤ 1073741824) : Ev (fun n => paroleref37_Loss.f n l k (cost : Int)) ((rn ((cr l k + 1) * cost) (cr l k + cw l k + 2) : Int), (rd_ ((cr l k + 1) * cost) (cr l k + cw l k + 2) : Int), 0) := by
 have hb := cr_le l h k
 have hlen := sorted_length l h.1
 have hlk := ref_look l h k
 unfold paroleref37_Loss.f
 refine Ev.neg (by omega) (Ev.succ ?_)
 simp only [paroleref37_Loss.j0]
 refine Ev.neg (by simp; omega) (Ev.bind (ev_counts l k (by omega)) ?_)
 simp only [hlk.1, hlk.2]
 generalize cr l k = x at *
 generalize cw l k = y at *
 have hm : (x + 1) * cost ≤ 1073741825 * 1073741824 := Nat.mul_le_mul (by omega) hc
 have e1 : wrap64 (wrap64 ((x : Int) + 1) * (cost : Int)) = (((x + 1) * cost : Nat) : Int) := by
  rw [wrap64_of (n := (x : Int) + 1) (by omega) (by omega)]
  have : ((x : Int) + 1) * (cost : Int) = (((x + 1) * cost : Nat) : Int) := by push_cast; rfl
  rw [this, wrap64_of (by omega) (by omega)]
 have e2 : wrap64 (wrap64 ((x : Int) + (y : Int)) + 2) = ((x + y + 2 : Nat) : Int) := by
  rw [wrap64_of (n := (x : Int) + (y : Int)) (by omega) (by omega), wrap64_of (by omega) (by omega)]
  omega
 simp only [e1, e2]
 exact Ev.bind (ev_NewIn _ _ (by omega) (by omega) (by omega)) (Ev.now _)
theorem ev_refLoss_bad (l : List S71) (kind cost : Int) (h : cost < 0 ∨ 1073741824 < cost) : Ev (fun k => paroleref37_Loss.f k l kind cost) (0, 0, 1) := by
 unfold paroleref37_Loss.f
 refine Ev.ite (fun c => ?_) (fun c => ?_)
 ·refine Ev.succ ?_
  simp only [paroleref37_Loss.j0]
  exact Ev.pos trivial (Ev.now _)
 ·refine Ev.succ ?_
  simp only [paroleref37_Loss.j0]
  exact Ev.pos (by simp; omega) (Ev.now _)
theorem ev_refOf (l : List S71) (h : Book l) (k : Int) : Ev (fun n => paroleref37_Of.f n l k) ((rn (cr l k + 1) (cr l k + cw l k + 2) : Int), (rd_ (cr l k + 1) (cr l k + cw l k + 2) : Int)) := by
 have hb := cr_le l h k
 have hlen := sorted_length l h.1
 have hlk := ref_look l h k
 unfold paroleref37_Of.f
 refine Ev.bind (ev_counts l k (by omega)) ?_
 simp only [hlk.1, hlk.2]
 generalize cr l k = x at *
 generalize cw l k = y at *
 have e1 : wrap64 ((x : Int) + 1) = ((x + 1 : Nat) : Int) := by rw [wrap64_of (by omega) (by omega)]; omega
 have e2 : wrap64 (wrap64 ((x : Int) + (y : Int)) + 2) = ((x + y + 2 : Nat) : Int) := by
  rw [wrap64_of (n := (x : Int) + (y : Int)) (by omega) (by omega), wrap64_of (by omega) (by omega)]
  omega
 simp only [e1, e2]
 exact Ev.bind (ev_NewIn _ _ (by omega) (by omega) (by omega)) (Ev.now _)
/-- Loss, of both, at any cost. -/
theorem ev_LossBoth (l : List S71) (h : Book l) (k : Int) (hk : -9223372036854775808 ≤ k ∧ k ≤ 9223372036854775807) (cost : Int) : ∃ p : Int × Int × Int, Ev (fun n => parolelaw37_loss.f n l k cost) p ∧ Ev (fun n => paroleref37_Loss.f n l k cost) p := by
 unfold parolelaw37_loss.f
 by_cases c : cost < 0 ∨ 1073741824 < cost
 ·exact ⟨_, Ev.bind (ev_Loss_bad l k cost c) (Ev.now _), ev_refLoss_bad l k cost c⟩
 ·obtain ⟨n, rfl⟩ := Int.eq_ofNat_of_zero_le (a := cost) (by omega)
  exact ⟨_, Ev.bind (ev_LossB l h k hk n (by omega)) (Ev.now _), ev_refLoss l h k n (by omega)⟩
def sumB (a b : List S71) (k : Int) : S71 := ⟨k, (look a k).f1 + (look b k).f1, (look a k).f2 + (look b k).f2⟩
def refL (a b : List S71) : Nat → Int → List S71
 | 0, _ => []
 | d + 1, k => if has a k || has b k then sumB a b k :: refL a b d (k + 1) else refL a b d (k + 1)
def smallB (x : S71) : Bool := decide (x.f1 ≤ 1073741824) && decide (x.f2 ≤ 1073741824)
theorem refL_mem (a b : List S71) : ∀ (d : Nat) (k : Int) (x : S71), x ∈ refL a b d k → k ≤ x.f0 ∧ x.f0 < k + d := by
 intro d
 induction d with
 | zero => intro k x h; simp [refL] at h
 | succ d ih =>
  intro k x h
  simp only [refL] at h
  have key : x ∈ refL a b d (k + 1) → k ≤ x.f0 ∧ x.f0 < k + ((d + 1 : Nat) : Int) := fun h => by have := ih _ _ h; omega
  split at h
  ·rcases List.mem_cons.1 h with rfl | h
   ·simp only [sumB]; omega
   ·exact key h
  ·exact key h
theorem refL_sorted (a b : List S71) : ∀ (d : Nat) (k : Int), Sorted (refL a b d k) := by
 intro d
 induction d with
 | zero => intro k; exact List.Pairwise.nil
 | succ d ih =>
  intro k
  simp only [refL]
  split
  ·refine List.pairwise_cons.2 ⟨fun x hx => ?_, ih _⟩
   have := refL_mem a b d (k + 1) x hx
   simp only [sumB]
   omega
  ·exact ih _
theorem refL_has (a b : List S71) : ∀ (d : Nat) (k j : Int), has (refL a b d k) j = (decide (k ≤ j ∧ j < k + d) && (has a j || has b j)) := by
 intro d
 induction d with
 | zero => intro k j; rw [decide_eq_false (by omega)]; rfl
 | succ d ih =>
  intro k j
  simp only [refL]
  by_cases hkj : k = j
  ·subst hkj
   rw [decide_eq_true (by omega), Bool.true_and]
   split
   ·rename_i hh
    rw [has_cons, hh]
    simp [sumB]
   ·rename_i hh
    rw [ih, decide_eq_false (by omega), Bool.false_and]
    simpa using hh
  ·have e : decide (k ≤ j ∧ j < k + ((d + 1 : Nat) : Int)) = decide (k + 1 ≤ j ∧ j < k + 1 + d) := by
    rw [decide_eq_decide]; omega
   rw [e, ← ih]
   split
   ·rw [has_cons, show ((sumB a b k).f0 == j) = false from beq_eq_false_iff_ne.2 hkj]; rfl
   ·rfl
theorem refL_look (a b : List S71) : ∀ (d : Nat) (k j : Int), has (refL a b d k) j = true → look (refL a b d k) j = sumB a b j := by
 intro d
 induction d with
 | zero => intro k j h; simp [refL, has] at h
 | succ d ih =>
  intro k j h
  simp only [refL] at h ⊢
  split at h
  ·rename_i hh
   rw [if_pos hh, look_cons]
   by_cases hkj : k = j
   ·subst hkj
    exact if_pos rfl
   ·rw [has_cons, show ((sumB a b k).f0 == j) = false from beq_eq_false_iff_ne.2 hkj, Bool.false_or] at h
    rw [if_neg (show ¬ (sumB a b k).f0 = j from hkj)]
    exact ih _ _ h
  ·rename_i hh
   rw [if_neg hh]
   exact ih _ _ h
theorem refL_joinL (a b : List S71) (ha : Book a) (hb : Book b) : refL a b 14 1 = joinL a b := by
 obtain ⟨hp, hh, hl⟩ := join_spec a b ha hb
 have heq : ∀ j, has (refL a b 14 1) j = has (joinL a b) j := by
  intro j
  rw [refL_has, hh]
  by_cases h : (has a j || has b j) = true
  ·have : 1 ≤ j ∧ j ≤ 14 := by
    rcases (Bool.or_eq_true _ _).mp h with h | h
    ·exact has_range a ha.1.2 j h
    ·exact has_range b hb.1.2 j h
   rw [decide_eq_true (by omega), Bool.true_and]
  ·rw [Bool.not_eq_true] at h
   rw [h, Bool.and_false]
 refine sorted_ext _ _ (refL_sorted _ _ _ _) hp.1 heq (fun j => ?_)
 by_cases h : has (refL a b 14 1) j = true
 ·rw [refL_look _ _ _ _ _ h, hl]; rfl
 ·rw [Bool.not_eq_true] at h
  rw [look_not _ _ h, look_not _ _ (by rw [← heq]; exact h)]
theorem refJoin_l0 (a b : List S71) (ha : Book a) (hb : Book b) : ∀ (d : Nat) (k : Int) (acc : List S71), k + d = 15 → 1 ≤ k → acc.length + d < 1000 →
  Ev (fun n => paroleref37_Join.l0 n a b acc k) (if (refL a b d k).all smallB then (acc ++ refL a b d k, 0) else ([], 2)) := by
 intro d
 induction d with
 | zero =>
  intro k acc h1 h2 h3
  refine Ev.succ ?_
  simp only [paroleref37_Join.l0, refL, List.all_nil, if_true, List.append_nil]
  exact Ev.neg (by omega) (Ev.now _)
 | succ d ih =>
  intro k acc h1 h2 h3
  have la := sorted_length a ha.1
  have lb := sorted_length b hb.1
  refine Ev.succ ?_
  simp only [paroleref37_Join.l0, refL]
  have hw : wrap64 (k + 1) = k + 1 := wrap64_of (by omega) (by omega)
  refine Ev.pos (by omega) (Ev.bind (ev_counts a k (by omega)) (Ev.bind (ev_counts b k (by omega)) ?_))
  have na := look_nn a ha.1.2 k
  have nb := look_nn b hb.1.2 k
  have sa := look_small a ha.2 k
  have sb := look_small b hb.2 k
  unfold small at sa sb
  have go : has a k = true ∨ has b k = true → Ev (fun n => paroleref37_Join.j1 n a b acc k false (look a k).f0 (look a k).f1 (look a k).f2 (look b k).f0 (look b k).f1 (look b k).f2)
    (if (if (has a k || has b k) = true then sumB a b k :: refL a b d (k + 1) else refL a b d (k + 1)).all smallB = true then (acc ++ (if (has a k || has b k) = true then sumB a b k :: refL a b d (k + 1) else refL a b d (k + 1)), 0) else ([], 2)) := by
   intro hor
   rw [if_pos (show (has a k || has b k) = true by simpa using hor)]
   have e1 : wrap64 ((look a k).f1 + (look b k).f1) = (look a k).f1 + (look b k).f1 := wrap64_of (by omega) (by omega)
   have e2 : wrap64 ((look a k).f2 + (look b k).f2) = (look a k).f2 + (look b k).f2 := wrap64_of (by omega) (by omega)
   refine Ev.succ ?_
   simp only [paroleref37_Join.j1, e1, e2, look_f0, hw]
   refine Ev.neg (by simp) ?_
   have hall : (sumB a b k :: refL a b d (k + 1)).all smallB = (smallB (sumB a b k) && (refL a b d (k + 1)).all smallB) := rfl
   by_cases c1 : (look a k).f1 + (look b k).f1 > 1073741824
   ·refine Ev.pos c1 ?_
    have hs : smallB (sumB a b k) = false := by unfold smallB sumB; simp; omega
    rw [if_neg (by rw [hall, hs]; simp)]
    exact Ev.now _
   refine Ev.neg c1 ?_
   by_cases c2 : (look a k).f2 + (look b k).f2 > 1073741824
   ·refine Ev.pos c2 ?_
    have hs : smallB (sumB a b k) = false := by unfold smallB sumB; simp; omega
    rw [if_neg (by rw [hall, hs]; simp)]
    exact Ev.now _
   refine Ev.neg c2 (Ev.pos (by omega) ?_)
   have hs : smallB (sumB a b k) = true := by unfold smallB sumB; simp; omega
   have := ih (k + 1) (acc ++ [sumB a b k]) (by omega) (by omega) (by simp; omega)
   rw [List.append_assoc] at this
   by_cases hq : (refL a b d (k + 1)).all smallB = true
   ·rw [if_pos hq] at this
    rw [if_pos (by rw [hall, hs, hq]; rfl)]
    exact this
   ·rw [if_neg hq] at this
    rw [if_neg (by rw [hall, hs]; simpa using hq)]
    exact this
  refine Ev.ite (fun c => go (.inl c)) (fun c => ?_)
  by_cases c2 : has b k = true
  ·rw [show (!has b k) = false by rw [c2]; rfl]
   exact go (.inr c2)
  ·have c' : has a k = false := by simpa using c
   rw [Bool.not_eq_true] at c2
   refine Ev.succ ?_
   simp only [paroleref37_Join.j1, c2, c', Bool.not_false, Bool.or_self, Bool.false_eq_true, if_false, hw]
   exact Ev.pos trivial (ih (k + 1) acc (by omega) (by omega) (by omega))
theorem ev_refJoin (a b : List S71) (ha : Book a) (hb : Book b) : Ev (fun n => paroleref37_Join.f n a b) (joinR a b) := by
 have := refJoin_l0 a b ha hb 14 1 [] (by omega) (by omega) (by simp)
 rw [refL_joinL a b ha hb, List.nil_append] at this
 unfold joinR
 have e : (joinL a b).all smallB = rightB (joinL a b) := by
  rw [Bool.eq_iff_iff, book_iff]
  unfold Book smallB small
  simp only [List.all_eq_true, Bool.and_eq_true, decide_eq_true_eq]
  exact ⟨fun h => ⟨(join_spec a b ha hb).1, h⟩, fun h => h.2⟩
 rw [e] at this
 exact this
theorem ev_refLearn (l : List S71) (h : Book l) (k : Int) (right : Bool) : Ev (fun n => paroleref37_Learn.f n l k right) (learnR l k right) := by
 unfold paroleref37_Learn.f
 by_cases c : k < 1 ∨ 14 < k
 ·have e : learnR l k right = ([], 1) := by unfold learnR; rw [if_pos c]
  rw [e]
  refine Ev.ite (fun c => ?_) (fun c1 => ?_)
  ·refine Ev.succ ?_
   simp only [paroleref37_Learn.j0]
   exact Ev.pos trivial (Ev.now _)
  ·refine Ev.succ ?_
   simp only [paroleref37_Learn.j0]
   exact Ev.pos (by simp; omega) (Ev.now _)
 ·rw [learnR_of l k (by omega)]
  refine Ev.neg (by omega) (Ev.succ ?_)
  simp only [paroleref37_Learn.j0]
  refine Ev.neg (by simp; omega) ?_
  have := ev_refJoin l [ans k right] h (ans_book k (by omega) right)
  cases right
  ·exact Ev.neg (by simp) (Ev.bind this (Ev.now _))
  ·exact Ev.pos rfl (Ev.bind this (Ev.now _))
theorem same_l0 (l : List S71) (hl : l.length < 1000000000000) : ∀ (d i : Nat), i + d = l.length → Ev (fun k => paroleref37_Same.l0 k l l (i : Int)) true := by
 intro d
 induction d with
 | zero =>
  intro i h
  refine Ev.succ ?_
  simp only [paroleref37_Same.l0]
  exact Ev.neg (by omega) (Ev.now _)
 | succ d ih =>
  intro i h
  have hi : i < l.length := by omega
  refine Ev.succ ?_
  simp only [paroleref37_Same.l0]
  rw [wrap_succ i _ hi hl]
  exact Ev.pos (by omega) (Ev.pos (by omega) (Ev.pos (by omega) (Ev.neg (by simp) (ih (i + 1) (by omega)))))
theorem ev_same (l : List S71) (e : Int) (hl : l.length < 1000000000000) : Ev (fun k => parolelaw37_same.f k l e l e) true := by
 unfold parolelaw37_same.f paroleref37_Same.f
 refine Ev.pos rfl (Ev.bind (g := fun k => if (l.length : Int) = (l.length : Int) then paroleref37_Same.l0 k l l 0 else some false) (a := true) ?_ (Ev.now _))
 exact Ev.pos rfl (same_l0 l hl l.length 0 (by omega))
theorem joinR_length (a b : List S71) (ha : Book a) (hb : Book b) : (joinR a b).1.length ≤ 14 := by
 rcases joinR_cases a b ha hb with ⟨e, _⟩ | ⟨e, h⟩
 ·rw [e]; simp
 ·rw [e]; exact sorted_length _ h.1
theorem learnR_length (l : List S71) (h : Book l) (k : Int) (right : Bool) : (learnR l k right).1.length ≤ 14 := by
 by_cases c : k < 1 ∨ 14 < k
 ·unfold learnR; rw [if_pos c]; simp
 ·rw [learnR_of l k (by omega)]
  exact joinR_length _ _ h (ans_book k (by omega) right)
end Go.Proofs.Ytohnkcmbogcfhaa.R
namespace Go.Proofs.Ytohnkcmbogcfhaa.Pure
open Go.RowKit Go.Proofs.Ytohnkcmbogcfhaa.P Go.Proofs.Ytohnkcmbogcfhaa.R Go.Proofs.YtohnkcmbogcfhaaW.PrintWords Go.Proofs.YtohnkcmbogcfhaaW.PrintLast
theorem ev_learnedM (l : List S71) (h : Book l) (k : Int) (right : Bool) : Ev (fun n => parolelaw37_learned.f n l k right) (learnR l k right) := by
 unfold parolelaw37_learned.f
 have hl := sorted_length l h.1
 exact Ev.bind (ev_Learn l k right (by omega)) (Ev.now _)
theorem ev_loop (a b : List S71) (ha : Book a) (hb : Book b) (n0 n1 : Int) : ∀ (d i : Nat), i + d = 16 → Ev (fun k => parolelaw37_OddsMatchesReference.l0 k true a b (i : Int) n0 n1) true := by
 intro d
 induction d with
 | zero =>
  intro i h
  refine Ev.succ ?_
  simp only [parolelaw37_OddsMatchesReference.l0]
  have := learnR_length a ha n0 true
  refine Ev.neg (by omega) (Ev.bind (ev_learnedM a ha n0 true) (Ev.bind (ev_refLearn a ha n0 true) (Ev.bind (ev_same _ _ (by omega)) (Ev.pos rfl (Ev.now _)))))
 | succ d ih =>
  intro i h
  refine Ev.succ ?_
  simp only [parolelaw37_OddsMatchesReference.l0]
  have l1 := learnR_length a ha (i : Int) true
  have l2 := learnR_length a ha (i : Int) false
  obtain ⟨p, p1, p2⟩ := ev_LossBoth b hb (i : Int) (by omega) n1
  refine Ev.pos (by omega) (Ev.bind (ev_learnedM a ha i true) (Ev.bind (ev_refLearn a ha i true) (Ev.bind (ev_same _ _ (by omega)) (Ev.pos rfl ?_))))
  refine Ev.bind (ev_learnedM a ha i false) (Ev.bind (ev_refLearn a ha i false) (Ev.bind (ev_same _ _ (by omega)) (Ev.pos rfl ?_)))
  refine Ev.bind (ev_OfB a ha i (by omega)) (Ev.bind (ev_refOf a ha i) (Ev.neg (by simp) ?_))
  refine Ev.bind p1 (Ev.bind p2 (Ev.neg (by simp) ?_))
  rw [wrap_succ i 16 (by omega) (by omega)]
  exact ih (i + 1) (by omega)
theorem OddsMatchesReference : parolelaw37_OddsMatchesReference.Pure := by
 intro l0 l1_0 l1_1 a2_0 a2_1 h0 h1 h2
 refine Ev.rounds (g := fun k => parolelaw37_OddsMatchesReference.f k l0 l1_0 l1_1 a2_0 a2_1) ?_
 unfold parolelaw37_OddsMatchesReference.f
 have stop : Ev (fun k => parolelaw37_OddsMatchesReference.j0 k l0 true true l1_0 l1_1 a2_0 a2_1) true := by
  refine Ev.succ ?_
  simp only [parolelaw37_OddsMatchesReference.j0]
  exact Ev.pos trivial (Ev.now _)
 refine Ev.cbind rfl (Ev.pos rfl (Ev.ite (fun _ => stop) (fun c0 => Ev.ite (fun _ => stop) (fun c1 => ?_))))
 by_cases c2 : (l1_1.length : Int) > 40
 ·rw [decide_eq_true c2]
  exact stop
 rw [decide_eq_false c2]
 have hr0 : ∀ x ∈ l1_0, raw x := fun x hx => raw_of (h1.1.2 x hx)
 have hr1 : ∀ x ∈ l1_1, raw x := fun x hx => raw_of (h1.2.2 x hx)
 have ha := made_book l1_0 hr0
 have hb := made_book l1_1 hr1
 have k0 := wf_i64 h2.1
 refine Ev.succ ?_
 simp only [parolelaw37_OddsMatchesReference.j0]
 refine Ev.neg (by simp) (Ev.bind (ev_Made l1_0 (by omega) hr0) (Ev.bind (ev_Made l1_1 (by omega) hr1) ?_))
 generalize madeL l1_0 = a at ha ⊢
 generalize madeL l1_1 = b at hb ⊢
 have la := sorted_length a ha.1
 have lb := sorted_length b hb.1
 refine Ev.bind (ev_Right l0 (by omega)) (Ev.bind (ev_refRight l0 (by omega)) (Ev.pos rfl ?_))
 have hR := ev_Right a (by omega)
 rw [(book_iff a).2 ha] at hR
 refine Ev.bind hR (Ev.pos rfl ?_)
 have hj : Ev (fun k => parolelaw37_joined.f k a b) (joinR a b) := by
  unfold parolelaw37_joined.f
  exact Ev.bind (ev_Join a b (by omega)) (Ev.now _)
 have lj := joinR_length a b ha hb
 obtain ⟨p, p1, p2⟩ := ev_LossBoth a ha a2_0 k0 a2_1
 refine Ev.bind hj (Ev.bind (ev_refJoin a b ha hb) (Ev.bind (ev_same _ _ (by omega)) (Ev.pos rfl ?_)))
 refine Ev.bind (ev_OfB a ha a2_0 k0) (Ev.bind (ev_refOf a ha a2_0) (Ev.neg (by simp) ?_))
 refine Ev.bind p1 (Ev.bind p2 (Ev.succ ?_))
 simp only [parolelaw37_OddsMatchesReference.j1]
 refine Ev.neg (by simp) ?_
 exact ev_loop a b ha hb a2_0 a2_1 16 0 rfl
end Go.Proofs.Ytohnkcmbogcfhaa.Pure
namespace Go.Proofs.YtohnkcmbogcfhaaH
open Go.RowKit Go.Proofs.YtohnkcmbogcfhaaW.PrintWords
variable {P : Program}
/-- What can be read as_ a value of type t is a value of kind d, and g holds of it. -/
def Opens (P : Program) (t : TypeId) {α : Type} (d : Kd α) (g : α → Prop) : Prop :=
 ∀ {H : Type} (enc : TypeId × Value → H) (W : World) (sp : Nat → Bool) (fuel : Nat) (cs : List Value) (x : DataW H × List MemPlace), DataW.trod enc P W 0 sp true fuel t cs = some x → ∃ y, d.K W y cs ∧ g y
theorem opens_int {t : TypeId} {k : IntKind} (ht : P.underlying t = some (.int k)) : Opens P t (Kd.int k) (fun n => (Lit.int k n).wf = true) := by
 intro H enc W sp fuel cs x h
 obtain ⟨n, rfl, _, hw⟩ := DataW.trod_int ht h
 exact ⟨n, rfl, hw⟩
theorem opens_slice {t e : TypeId} {α : Type} {d : Kd α} {g : α → Prop} (ht : P.underlying t = some (.slice e)) (hd : Opens P e d g) (hs : P.cellsOf e = d.sz) :
  Opens P t (Kd.slice e d) (fun l => l.length ≤ maxLen ∧ ∀ x ∈ l, g x) := by
 intro H enc W sp fuel cs x h
 rcases Deep.open_slice ht h with ⟨rfl, _⟩ | ⟨a, len, cap, m, n, D, Pl, rfl, _, hl, hm, hme, _, hel⟩
 ·refine ⟨[], ⟨none, 0, rfl, Nat.le_refl _, rfl, Nat.zero_le _, fun h => absurd h (Nat.lt_irrefl _)⟩, Nat.zero_le _, by simp⟩
 ·have hlm : len ≤ m := by rw [hme]; split <;> omega
  have h1 : ∀ i, ∃ z : Option α, i < len → ∃ y c, z = some y ∧ W.cells? 0 (a.add (i * P.cellsOf e)) (P.cellsOf e) = some c ∧ d.K W y c ∧ g y := by
   intro i
   by_cases hi : i < len
   ·obtain ⟨c, hc, hx⟩ := hel i (by omega)
    obtain ⟨y, hy, hg⟩ := hd enc W sp n c _ hx
    exact ⟨some y, fun _ => ⟨y, c, rfl, hc, hy, hg⟩⟩
   ·exact ⟨none, fun h => absurd h hi⟩
  obtain ⟨f, hf⟩ := Classical.axiomOfChoice h1
  have h2 : ∀ i, i < len → ∃ y c, f i = some y ∧ W.cells? 0 (a.add (i * P.cellsOf e)) (P.cellsOf e) = some c ∧ d.K W y c ∧ g y := fun i hi => hf i hi
  have key : ∀ k, k ≤ len → ∃ l : List α, l.length = k ∧ ∀ i, i < k → l[i]? = f i := by
   intro k
   induction k with
   | zero => intro _; exact ⟨[], rfl, fun i hi => absurd hi (Nat.not_lt_zero _)⟩
   | succ k ih =>
    intro hk
    obtain ⟨l, hll, hli⟩ := ih (by omega)
    obtain ⟨y, c, hy, _⟩ := h2 k (by omega)
    refine ⟨l ++ [y], by simp [hll], fun i hi => ?_⟩
    by_cases hik : i < k
    ·rw [List.getElem?_append_left (by omega)]; exact hli i hik
    ·have : i = k := by omega
     subst this
     rw [List.getElem?_append_right (by omega), hll]
     simp [hy]
  obtain ⟨l, hll, hli⟩ := key len (Nat.le_refl _)
  refine ⟨l, ⟨some a, cap, by rw [hll], by omega, rfl, ?_, fun _ => ⟨a, rfl, ?_⟩⟩, by omega, ?_⟩
  ·rw [hll]; unfold maxLen at hm; omega
  ·intro j p hj
   have hjl : j < len := by rw [← hll]; exact (List.getElem?_eq_some_iff.1 hj).1
   obtain ⟨y, c, hy, hc, hK, _⟩ := h2 j hjl
   have : p = y := by
    rw [hli j hjl, hy] at hj
    exact (Option.some.inj hj).symm
   subst this
   refine ⟨c, d.K_len hK, hK, fun i u hu => ?_⟩
   obtain ⟨_, hcl, hcc⟩ := World.cells?_some hc
   have hi : i < P.cellsOf e := by rw [← hcl]; exact (List.getElem?_eq_some_iff.1 hu).1
   rw [← hs, ← Deep.add_add, hcc i hi, hu]
  ·intro x hx
   obtain ⟨j, hj⟩ := List.getElem?_of_mem hx
   have hjl : j < len := by rw [← hll]; exact (List.getElem?_eq_some_iff.1 hj).1
   obtain ⟨y, c, hy, hc, hK, hg⟩ := h2 j hjl
   rw [hli j hjl, hy] at hj
   rw [← Option.some.inj hj]
   exact hg
/-- The fields from an offset on. -/
def OpensAt (P : Program) (off : Nat) (fs : List (TypeId × Nat)) {α : Type} (d : Kd α) (g : α → Prop) : Prop :=
 ∀ {H : Type} (enc : TypeId × Value → H) (W : World) (sp : Nat → Bool) (fuel : Nat) (cs : List Value), cs.length = off + d.sz → (∀ f ∈ fs, ∃ x, DataW.trod enc P W 0 sp true fuel f.1 ((cs.drop f.2).take (P.cellsOf f.1)) = some x) → ∃ y, d.K W y (cs.drop off) ∧ g y
theorem opens_last {off : Nat} {t : TypeId} {α : Type} {d : Kd α} {g : α → Prop} (ho : Opens P t d g) (hs : P.cellsOf t = d.sz) : OpensAt P off [(t, off)] d g := by
 intro H enc W sp fuel cs hl hf
 obtain ⟨x, hx⟩ := hf (t, off) (by simp)
 have e : (cs.drop off).take (P.cellsOf t) = cs.drop off := List.take_of_length_le (by rw [List.length_drop, hs]; omega)
 rw [e] at hx
 exact ho enc W sp fuel _ x hx
theorem opens_next {off : Nat} {t : TypeId} {fs : List (TypeId × Nat)} {α β : Type} {d : Kd α} {d' : Kd β} {g : α → Prop} {g' : β → Prop} (ho : Opens P t d g) (hs : P.cellsOf t = d.sz) (hr : OpensAt P (off + d.sz) fs d' g') :
  OpensAt P off ((t, off) :: fs) (Kd.pair d d') (fun x => g x.1 ∧ g' x.2) := by
 intro H enc W sp fuel cs hl hf
 have hl' : cs.length = off + d.sz + d'.sz := by have : (Kd.pair d d').sz = d.sz + d'.sz := rfl; omega
 obtain ⟨x, hx⟩ := hf (t, off) (by simp)
 obtain ⟨y, hy, hg⟩ := ho enc W sp fuel _ x hx
 obtain ⟨y', hy', hg'⟩ := hr enc W sp fuel cs hl' (fun f h => hf f (by simp [h]))
 refine ⟨(y, y'), ⟨_, _, ?_, hy, hy'⟩, hg, hg'⟩
 show cs.drop off = (cs.drop off).take (P.cellsOf t) ++ cs.drop (off + d.sz)
 rw [hs, ← List.drop_drop, List.take_append_drop]
theorem opens_struct {t : TypeId} {fs : Array Field} {α : Type} {d : Kd α} {g : α → Prop} (ht : P.underlying t = some (.struct fs)) (ho : OpensAt P 0 (fs.toList.map fun f => (f.type, f.offset)) d g) (hs : P.cellsOf t = d.sz) : Opens P t d g := by
 intro H enc W sp fuel cs x h
 obtain ⟨xs, n, _, _, hl, hlen, hf⟩ := DataW.trod_struct ht h
 have := ho enc W sp n cs (by omega) (fun f hfm => by
  obtain ⟨f0, hm, rfl⟩ := List.mem_map.1 hfm
  obtain ⟨i, hi⟩ := List.getElem?_of_mem hm
  have hi' : fs[i]? = some f0 := by simpa using hi
  have hlt : i < fs.size := (Array.getElem?_eq_some_iff.1 hi').1
  have := hf i f0 hi'
  rw [List.getElem?_eq_getElem (by omega)] at this
  exact ⟨_, this⟩)
 simpa using this
theorem opens_array {t e : TypeId} {n : Nat} {α : Type} {d : Kd α} {g : α → Prop} (ht : P.underlying t = some (.array n e)) (ho : OpensAt P 0 ((List.range n).map fun i => (e, i * P.cellsOf e)) d g) (hs : P.cellsOf t = d.sz) : Opens P t d g := by
 intro H enc W sp fuel cs x h
 obtain ⟨xs, m, _, _, hl, hlen, hf⟩ := DataW.trod_array ht h
 have := ho enc W sp m cs (by omega) (fun f hfm => by
  obtain ⟨i, hm, rfl⟩ := List.mem_map.1 hfm
  have hlt : i < n := by simpa using hm
  have := hf i hlt
  rw [List.getElem?_eq_getElem (by omega)] at this
  exact ⟨_, this⟩)
 simpa using this
theorem opens_iso {t : TypeId} {α β : Type} {d : Kd α} {g : α → Prop} (f : β → α) (mk : α → β) (hf : ∀ a, f (mk a) = a) (ho : Opens P t d g) : Opens P t (Kd.iso d f) (fun b => g (f b)) := by
 intro H enc W sp fuel cs x h
 obtain ⟨y, hy, hg⟩ := ho enc W sp fuel cs x h
 refine ⟨mk y, ?_, ?_⟩
 ·show d.K W (f (mk y)) cs
  rw [hf]
  exact hy
 ·show g (f (mk y))
  rw [hf]
  exact hg
theorem Opens.imp {t : TypeId} {α : Type} {d : Kd α} {g g' : α → Prop} (ho : Opens P t d g) (h : ∀ a, g a → g' a) : Opens P t d g' := by
 intro H enc W sp fuel cs x hx
 obtain ⟨y, hy, hg⟩ := ho enc W sp fuel cs x hx
 exact ⟨y, hy, h y hg⟩
theorem Opens.at_ {H : Type} {enc : TypeId × Value → H} {W : World} {sp : Nat → Bool} {t : TypeId} {v : Value} {x : DataW H} {ps : List MemPlace} {α : Type} {d : Kd α} {g : α → Prop} (ho : Opens P t d g) (h : DataW.Trod enc P W 0 sp true t v x ps) : ∃ y, d.K W y v.cells.toList ∧ g y := by
 obtain ⟨fuel, hf⟩ := h
 exact ho enc W sp fuel _ _ hf
theorem agg_of_array {r : Reach} {b0 : Nat} {W : World} {t e : TypeId} {n : Nat} {v : Value} (ht : P.underlying t = some (.array n e)) (hv : Value.okWide P W r b0 t v) : ∃ cs, v = .agg cs := by
 simp only [Value.okWide, ht] at hv
 obtain ⟨cs, rfl, _⟩ := hv
 exact ⟨cs, rfl⟩
theorem agg_cells {cs : Array Value} {l : List Value} (h : (Value.agg cs).cells.toList = l) : Value.agg cs = .agg l.toArray := by
 simp only [Value.cells] at h
 rw [← h]
end Go.Proofs.YtohnkcmbogcfhaaH
namespace Go.Proofs.Ytohnkcmbogcfhaa.oddsMatchesReference
open Go.ChangeShapes Go.WideShapes Go.ChangeAt Go.RowKit Go.Proofs.YtohnkcmbogcfhaaH Go.Proofs.Ytohnkcmbogcfhaa.P Go.Proofs.YtohnkcmbogcfhaaW.PrintWords
open Go.ChangeMaps (open_string shut_string)
theorem own : ownKnob Try.prog.godebug = none := by kernel_rfl
theorem laidOut : laidOutB Try.prog = true := by kernel_rfl
set_option maxRecDepth 100000 in
set_option maxHeartbeats 4000000 in
theorem lifted (os : Os) (started : os.Started) (H : Type) (enc : TypeId × Value → H) :
  ReturnsInHanded {} Try.checked os 3 .any (Rows.oddsMatchesReferenceSpec.pre6 enc Try.prog Try.f3 Rows.oddsMatchesReferenceRow.domain false) (Rows.oddsMatchesReferenceSpec.post enc Try.prog Try.f3 false true false false) := by
 refine returnsInHanded_of_change_sized (C := Try.checked) own started (by kernel_rfl) Try.func3
  (ChangeSpec.witness6 (enc := enc) (C := Try.checked) false ⟨#[], #[.slice none 0 0, .agg #[(.slice none 0 0), (.slice none 0 0)], .agg #[(.int .i64 0), (.int .i64 0)]], []⟩ 8 (by kernel_rfl) (by kernel_rfl) (by kernel_rfl) (by kernel_rfl)) ?_
 intro W base args ds gs before hval0 hW hcnd hsz0 _
 have hval : ∀ (j : Nat) t v, Try.f3.params[j]? = some t → args[j]? = some v → Value.okWide Try.prog W .any base t v := hval0
 have hW' := hW
 obtain ⟨p, q, hA0, hV, rfl, hfz, hnd⟩ := hW
 have hA : DataW.TrodAll enc Try.prog W 0 (fun _ => true) true Try.f3.params.toList args.toList ds p := hA0
 rw [Try.params3] at hA hval
 obtain ⟨v0, vs0, d0, ds0, p0, q0, hargs, rfl, rfl, h0, r0⟩ := trodAll_cons hA
 obtain ⟨v1, vs1, d1, ds1, p1, q1, rfl, rfl, rfl, h1, r1⟩ := trodAll_cons r0
 obtain ⟨v2, vs2, d2, ds2, p2, q2, rfl, rfl, rfl, h2, r2⟩ := trodAll_cons r1
 obtain ⟨rfl, rfl, rfl⟩ := trodAll_nil r2
 obtain rfl : args = #[v0, v1, v2] := by cases args; simp_all
 obtain ⟨rfl, rfl⟩ := trodVars_none hV
 obtain ⟨a0, n0, c0, rfl⟩ := okWide_slice Try.underlying22 (hval 0 22 v0 rfl rfl)
 have k0 := h0
 have lt0 : ∀ x ∈ p0, x.block < W.heap.size := by obtain ⟨m, hm⟩ := k0; exact DataW.trod_lt m _ _ _ hm
 obtain ⟨y0, K0, g0⟩ := Opens.at_ (opens_slice Try.underlying22 (show Opens Try.prog 71 k71 _ from opens_iso (fun x : S71 => (x.f0, x.f1, x.f2)) (fun y => (⟨y.1, y.2.1, y.2.2⟩ : S71)) (fun _ => rfl) (opens_struct Try.underlying71 (opens_next (opens_int Try.underlying3) (by kernel_rfl) (opens_next (opens_int Try.underlying3) (by kernel_rfl) (opens_last (opens_int Try.underlying3) (by kernel_rfl)))) (by kernel_rfl))) (by kernel_rfl)) h0
 obtain ⟨A0, C0, e0, l0, rr0⟩ := K0
 obtain ⟨rfl, rfl, rfl⟩ : a0 = A0 ∧ n0 = y0.length ∧ c0 = C0 := by simpa [Value.cells] using e0
 obtain ⟨cs1, rfl⟩ := agg_of_array Try.underlying24 (hval 1 24 v1 rfl rfl)
 have k1 := h1
 have lt1 : ∀ x ∈ p1, x.block < W.heap.size := by obtain ⟨m, hm⟩ := k1; exact DataW.trod_lt m _ _ _ hm
 obtain ⟨y1, K1, g1⟩ := Opens.at_ (show Opens Try.prog 24 k24 _ from opens_iso (fun x : S24 => (x.f0, x.f1)) (fun y => (⟨y.1, y.2⟩ : S24)) (fun _ => rfl) (opens_array Try.underlying24 (opens_next (opens_slice Try.underlying23 (show Opens Try.prog 96 k96 _ from opens_iso (fun x : S96 => (x.f0, x.f1, x.f2, x.f3)) (fun y => (⟨y.1, y.2.1, y.2.2.1, y.2.2.2⟩ : S96)) (fun _ => rfl) (opens_struct Try.underlying96 (opens_next (opens_int Try.underlying5) (by kernel_rfl) (opens_next (opens_int Try.underlying5) (by kernel_rfl) (opens_next (opens_int Try.underlying43) (by kernel_rfl) (opens_last (opens_int Try.underlying43) (by kernel_rfl))))) (by kernel_rfl))) (by kernel_rfl)) (by kernel_rfl) (opens_last (opens_slice Try.underlying23 (show Opens Try.prog 96 k96 _ from opens_iso (fun x : S96 => (x.f0, x.f1, x.f2, x.f3)) (fun y => (⟨y.1, y.2.1, y.2.2.1, y.2.2.2⟩ : S96)) (fun _ => rfl) (opens_struct Try.underlying96 (opens_next (opens_int Try.underlying5) (by kernel_rfl) (opens_next (opens_int Try.underlying5) (by kernel_rfl) (opens_next (opens_int Try.underlying43) (by kernel_rfl) (opens_last (opens_int Try.underlying43) (by kernel_rfl))))) (by kernel_rfl))) (by kernel_rfl)) (by kernel_rfl))) (by kernel_rfl))) h1
 obtain ⟨A1_0, C1_0, A1_1, C1_1, e1, l1_0, rr1_0, l1_1, rr1_1⟩ := k24_open K1
 obtain rfl := Value.agg.inj (agg_cells e1)
 obtain ⟨cs2, rfl⟩ := agg_of_array Try.underlying25 (hval 2 25 v2 rfl rfl)
 have k2 := h2
 have lt2 : ∀ x ∈ p2, x.block < W.heap.size := by obtain ⟨m, hm⟩ := k2; exact DataW.trod_lt m _ _ _ hm
 obtain ⟨y2, K2, g2⟩ := Opens.at_ (show Opens Try.prog 25 k25 _ from opens_iso (fun x : S25 => (x.f0, x.f1)) (fun y => (⟨y.1, y.2⟩ : S25)) (fun _ => rfl) (opens_array Try.underlying25 (opens_next (opens_int Try.underlying3) (by kernel_rfl) (opens_last (opens_int Try.underlying3) (by kernel_rfl))) (by kernel_rfl))) h2
 have e2 := k25_open K2
 obtain rfl := Value.agg.inj (agg_cells e2)
 obtain ⟨k, hk⟩ := Pure.OddsMatchesReference y0 y1.f0 y1.f1 y2.f0 y2.f1 g0 g1 g2
 clear hA0 hval0 hsz0
 refine (parolelaw37_OddsMatchesReference.calls k _ _ y0 _ _ y1.f0 _ _ y1.f1 y2.f0 y2.f1 true W rr0 l0 rr1_0 l1_0 rr1_1 l1_1 rfl hk).mono fun e W' hpost => ?_
 obtain ⟨he, bel0⟩ := hpost
 have bel : Below W.heap.size W W' := bel0
 subst he
 exact ⟨_, rfl, _, _, _, [], _, [], hW', trodAll_mk1 (shut_bool Try.underlying4 _), (trodAll_cons_mk (Below.trod laidOut (by kernel_rfl) (of_decide_eq_true (by kernel_rfl)) k0 bel lt0) (trodAll_cons_mk (Below.trod laidOut (by kernel_rfl) (of_decide_eq_true (by kernel_rfl)) k1 bel lt1) (trodAll_cons_mk (Below.trod laidOut (by kernel_rfl) (of_decide_eq_true (by kernel_rfl)) k2 bel lt2) trodAll_mk0))), rfl, bel.frame _, fun h => by cases h⟩
theorem over : Rows.oddsMatchesReferenceRow.holds Try.pinned (OpenSpec.ofChange Rows.oddsMatchesReferenceSpec) :=
 OpenClaim.holds_of_wide 3 Try.f3 rfl rfl rfl rfl rfl rfl rfl ⟨rfl, rfl, rfl, rfl, rfl⟩ rfl rfl rfl rfl rfl (by kernel_rfl) Try.func3 (by kernel_rfl)
  (of_decide_eq_true (by kernel_rfl)) (by unfold Func.isWrapper; first | (rw [if_pos (by decide +kernel)]; kernel_rfl) | (rw [if_neg (by decide +kernel)]; exact ⟨rfl, rfl⟩))
  (fun os started H enc _ => lifted os started H enc)
theorem proved : Rows.OddsMatchesReferenceSaid := over
end Go.Proofs.Ytohnkcmbogcfhaa.oddsMatchesReference
namespace Go.Proofs.Ytohnkcmbogcfhaa
/-- The row, under a short name, for the claim. -/
theorem oddsMatchesReference_holds : Rows.OddsMatchesReferenceSaid := oddsMatchesReference.proved
end Go.Proofs.Ytohnkcmbogcfhaa

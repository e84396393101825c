/- FieldLost: if a machine sends its counts so far again and again, and some reports are lost, the last one that comes says everything; as many are missing as were lost ahead of it: for all lists of numbers, all keys. The plain law. -/
import Derived.Test.YtfdoncgljohndaacFieldLost4
import Derived.Deep.Slices
import Derived.WideShapes
import Derived.OpenShut
import Derived.ShutString
import Derived.ChangeOld
import Derived.SizedLaws
import Derived.Deep.OwnRows
import Derived.Laws.Rows
import Derived.Test.YtfdoncgljohndaaRows
set_option linter.unusedVariables false
set_option linter.unusedSimpArgs false
namespace Go.Proofs.Ytfdoncgljohndaa.P
open Go.Proofs.YtfdoncgljohndaaH Go.RowKit Go.Proofs.YtfdoncgljohndaaW.PrintWords Go.Proofs.YtfdoncgljohndaaW.PrintLast Go.Proofs.YtfdoncgljohndaaW.PrintMore
attribute [local go_sem] max2_int min2_int max_two min_two max_three min_three max_four min_four   -- for this text's walks alone
attribute [local go_sem] Go.Proofs.YtfdoncgljohndaaH.cell_set_map
attribute [local go_sem high] eqA40
mutual
def parolelaw32_FieldLost.j1 : Nat → Int → Int → Bool → List (S28) → Option (Bool)
 | 0, _, _, _, _ => none
 | k + 1, x1, x2, x7, x8 => parolelaw32_FieldLost.l1 k x1 x2 x7 x8 (([] : List (S28))) 0 0 0 0 0 0 0 0
def parolelaw32_FieldLost.l1 : Nat → Int → Int → Bool → List (S28) → List (S28) → Int → Int → Int → Int → Int → Int → Int → Int → Option (Bool)
 | 0, _, _, _, _, _, _, _, _, _, _, _, _, _ => none
 | k + 1, x1, x2, x7, x8, x11, x13, x126000, x126001, x126002, x126003, x126004, x126005, x126006 => if x13 < (x8.length : Int) then (if 0 ≤ (IntKind.u64.wrap (x13)) then (if (Go.bits .and .u32 (shr .u32 x1 (IntKind.u64.wrap (x13))) 1) = 0 then (if 0 ≤ x13 then ((some (([(⟨(rd_T28 x8 x13).f0, (rd_T28 x8 x13).f1, (rd_T28 x8 x13).f2, (rd_T28 x8 x13).f3, (rd_T28 x8 x13).f4, (rd_T28 x8 x13).f5, (rd_T28 x8 x13).f6⟩ : S28)] : List (S28)) : List (S28))).bind fun y127 => (if y127.length + x11.length < 2513169434916 then (parolelaw32_FieldLost.l1 k x1 x2 x7 x8 (y127 ++ x11) (wrap64 (x13 + 1)) ((rd_T28 x8 x13).f0) ((rd_T28 x8 x13).f1) ((rd_T28 x8 x13).f2) ((rd_T28 x8 x13).f3) ((rd_T28 x8 x13).f4) ((rd_T28 x8 x13).f5) ((rd_T28 x8 x13).f6)) else (none))) else (none)) else (parolelaw32_FieldLost.l1 k x1 x2 x7 x8 x11 (wrap64 (x13 + 1)) x126000 x126001 x126002 x126003 x126004 x126005 x126006)) else (none)) else (if (x11.length : Int) > 0 then (if x7 = true then ((field_Gather.f k (([x2] : List Int)) x11 5).bind fun bt138 => (some (bt138.1 == 5 && (bt138.2.1 == 1 && (bt138.2.2.1 == x126003 && (bt138.2.2.2.1 == x126004 && (bt138.2.2.2.2.1 == x126005 && (bt138.2.2.2.2.2 == (wrap64 (x126001 - (x11.length : Int))))))))))) else (some false)) else (if x7 = true then ((field_Gather.f k (([x2] : List Int)) x11 5).bind fun bt147 => (some (bt147.1 == 5 && (bt147.2.1 == 0 && (bt147.2.2.1 == 0 && (bt147.2.2.2.1 == 0 && (bt147.2.2.2.2.1 == 0 && (bt147.2.2.2.2.2 == 0)))))))) else (some false)))
def parolelaw32_FieldLost.l0 : Nat → List (S53) → Int → Int → Bool → List (S28) → Int → Int → Int → Int → Int → Int → Int → Int → Option (Bool)
 | 0, _, _, _, _, _, _, _, _, _, _, _, _, _ => none
 | k + 1, x0, x1, x2, x7, x8, x10, x106000, x106001, x106002, x106003, x106004, x106005, x106006 => if x10 < (x0.length : Int) then (if x10 < 20 then (if 0 ≤ x10 then ((field_Sign.f k x2 x106000 (wrap64 (x10 + 1)) x106002 (wrap64 (x106003 + (wrap64 ((wrap64 ((wrap64 (Int.tdiv (wrap64 ((rd_T53 x0 x10).f0)) 200)) + (wrap64 (Int.tmod ((rd_T53 x0 x10).f1) 9)))) + (wrap64 ((rd_T53 x0 x10).f2)))))) (wrap64 (x106004 + (wrap64 ((wrap64 (Int.tdiv (wrap64 ((rd_T53 x0 x10).f0)) 200)) + (wrap64 (Int.tmod ((rd_T53 x0 x10).f1) 9)))))) (wrap64 (x106005 + (wrap64 (Int.tdiv (wrap64 ((rd_T53 x0 x10).f0)) 200)))) x106006).bind fun bt112 => (if x8.length < 2513169434916 then (parolelaw32_FieldLost.l0 k x0 x1 x2 x7 (x8 ++ [(⟨bt112.1, bt112.2.1, bt112.2.2.1, bt112.2.2.2.1, bt112.2.2.2.2.1, bt112.2.2.2.2.2.1, bt112.2.2.2.2.2.2⟩ : S28)]) (wrap64 (x10 + 1)) x106000 (wrap64 (x10 + 1)) x106002 (wrap64 (x106003 + (wrap64 ((wrap64 ((wrap64 (Int.tdiv (wrap64 ((rd_T53 x0 x10).f0)) 200)) + (wrap64 (Int.tmod ((rd_T53 x0 x10).f1) 9)))) + (wrap64 ((rd_T53 x0 x10).f2)))))) (wrap64 (x106004 + (wrap64 ((wrap64 (Int.tdiv (wrap64 ((rd_T53 x0 x10).f0)) 200)) + (wrap64 (Int.tmod ((rd_T53 x0 x10).f1) 9)))))) (wrap64 (x106005 + (wrap64 (Int.tdiv (wrap64 ((rd_T53 x0 x10).f0)) 200)))) x106006) else (none))) else (none)) else (parolelaw32_FieldLost.j1 k x1 x2 x7 x8)) else (parolelaw32_FieldLost.j1 k x1 x2 x7 x8)
end
def parolelaw32_FieldLost.f (k : Nat) (l0 : List (S53)) (a1 : Int) (a2 : Int) : Option (Bool) := (parolelaw32_examples.f).bind fun t101 => (if t101 = true then (parolelaw32_FieldLost.l0 k l0 a1 a2 t101 (([] : List (S28))) 0 0 0 5 0 0 0 0) else (some false))
def parolelaw32_FieldLost.T10 : Bool × List (List Nat × List Nat) := (true, [([], []), ([0], [0]), ([], []), ([], []), ([2, 3], [2, 3]), ([4], [4]), ([5], [5]), ([6], [6]), ([7], [7]), ([1, 8], [1, 8]), ([0, 1, 2, 3, 4, 5, 6, 7, 8, 9], []), ([10, 9, 0, 1, 2, 3, 4, 5, 6, 7, 8, 9], [9, 10])])
def parolelaw32_FieldLost.B10 : List Nat := [0, 1, 0, 0, 12, 28, 60, 124, 252, 511, 1023, 2047]
theorem parolelaw32_FieldLost.tab10 : rtab .any (opsOf Try.f6 10) = parolelaw32_FieldLost.T10 := by kernel_rfl
theorem parolelaw32_FieldLost.bits10 : waitsOk parolelaw32_FieldLost.T10.2 parolelaw32_FieldLost.B10 = true := by kernel_rfl
def parolelaw32_FieldLost.T11 : Bool × List (List Nat × List Nat) := (true, [([], []), ([0], [0]), ([], []), ([], []), ([2, 3], [2, 3]), ([4], [4]), ([5], [5]), ([6], [6]), ([7], [7]), ([], []), ([], []), ([9, 10], [9, 10]), ([11], [11]), ([12], [12]), ([13], [13]), ([14], [14]), ([8, 15], [8, 15]), ([1, 16], [1, 16]), ([0, 1, 2, 3, 4, 5, 6, 7, 8, 9, 10, 11, 12, 13, 14, 15, 16, 17], []), ([18, 17, 0, 1, 2, 3, 4, 5, 6, 7, 8, 9, 10, 11, 12, 13, 14, 15, 16, 17], [17, 18])])
def parolelaw32_FieldLost.B11 : List Nat := [0, 1, 0, 0, 12, 28, 60, 124, 252, 0, 0, 1536, 3584, 7680, 15872, 32256, 65532, 131071, 262143, 524287]
theorem parolelaw32_FieldLost.tab11 : rtab .any (opsOf Try.f6 11) = parolelaw32_FieldLost.T11 := by kernel_rfl
theorem parolelaw32_FieldLost.bits11 : waitsOk parolelaw32_FieldLost.T11.2 parolelaw32_FieldLost.B11 = true := by kernel_rfl
def parolelaw32_FieldLost.T12 : Bool × List (List Nat × List Nat) := (true, [([], []), ([0], [0]), ([], []), ([], []), ([2, 3], [2, 3]), ([4], [4]), ([5], [5]), ([6], [6]), ([7], [7]), ([], []), ([], []), ([9, 10], [9, 10]), ([11], [11]), ([12], [12]), ([13], [13]), ([14], [14]), ([8, 15], [8, 15]), ([], []), ([], []), ([17, 18], [17, 18]), ([19], [19]), ([20], [20]), ([21], [21]), ([16, 22], [16, 22]), ([1, 23], [1, 23]), ([0, 1, 2, 3, 4, 5, 6, 7, 8, 9, 10, 11, 12, 13, 14, 15, 16, 17, 18, 19, 20, 21, 22, 23, 24], []), ([25, 24, 0, 1, 2, 3, 4, 5, 6, 7, 8, 9, 10, 11, 12, 13, 14, 15, 16, 17, 18, 19, 20, 21, 22, 23, 24], [24, 25])])
def parolelaw32_FieldLost.B12 : List Nat := [0, 1, 0, 0, 12, 28, 60, 124, 252, 0, 0, 1536, 3584, 7680, 15872, 32256, 65532, 0, 0, 393216, 917504, 1966080, 4063232, 8388604, 16777215, 33554431, 67108863]
theorem parolelaw32_FieldLost.tab12 : rtab .any (opsOf Try.f6 12) = parolelaw32_FieldLost.T12 := by kernel_rfl
theorem parolelaw32_FieldLost.bits12 : waitsOk parolelaw32_FieldLost.T12.2 parolelaw32_FieldLost.B12 = true := by kernel_rfl
def parolelaw32_FieldLost.T25 : Bool × List (List Nat × List Nat) := (true, [([], []), ([0], [0]), ([1], [1]), ([2, 1], [1, 2]), ([1], [1]), ([3, 4, 1, 1], [1, 3, 4]), ([1], [1]), ([5, 6, 1], [1, 5, 6]), ([1, 7], [1, 7]), ([8, 5, 0, 1, 2, 3, 4, 5, 6, 7, 8], [8])])
def parolelaw32_FieldLost.B25 : List Nat := [0, 1, 3, 7, 3, 31, 3, 127, 255, 511]
theorem parolelaw32_FieldLost.tab25 : rtab .any (opsOf Try.f6 25) = parolelaw32_FieldLost.T25 := by kernel_rfl
theorem parolelaw32_FieldLost.bits25 : waitsOk parolelaw32_FieldLost.T25.2 parolelaw32_FieldLost.B25 = true := by kernel_rfl
set_option maxHeartbeats 40000000 in
set_option maxRecDepth 100000 in
theorem parolelaw32_FieldLost.calls (k : Nat) (A0 : Option Addr) (c0 : Nat) (l0 : List (S53)) (a1 : Int) (a2 : Int) (r : Bool) (w : World) (hr0 : Kd.C k53 w A0 l0.length l0) (hc0 : l0.length ≤ c0) (hT : r = true) (h : parolelaw32_FieldLost.f k l0 a1 a2 = some r) :
  Calls Try.prog 6 #[.slice A0 l0.length c0, .int .u32 a1, .int .u64 a2] w fun e w' => e = .returned (.bool r) ∧ Below w.heap.size w w' := by
 have hu28 := Try.underlying28; have hu40 := Try.underlying40; have HR0 := aM hr0; have HC0 := aM hc0; clear hr0 hc0; have HB := aM (Below.refl w.heap.size w); have HT := aM hT; clear hT
 have H : ((parolelaw32_examples.f).bind fun t101 => (if t101 = true then (parolelaw32_FieldLost.l0 k l0 a1 a2 t101 (([] : List (S28))) 0 0 0 5 0 0 0 0) else (some false))) = some r := h
 clear h; replace H := Option.bind_eq_some_iff.mp H
 obtain ⟨t101, A40, H⟩ := H
 replace H : (if t101 = true then (parolelaw32_FieldLost.l0 k l0 a1 a2 t101 (([] : List (S28))) 0 0 0 5 0 0 0 0) else (some false)) = some r := H
 have A4 := aM A40; clear A40
 by_cases c5 : t101 = true
 rotate_left
 ·replace c5 := Bool.eq_false_iff.mpr c5
  subst c5
  have H1 : (some false) = some r := by rw [if_neg (show ¬ (false = true) by decide)] at H; exact H
  clear H; have H := H1; clear H1
  exact absurd ((Option.some.inj H).trans HT.out) (by decide)
 subst c5
 have H1 : (parolelaw32_FieldLost.l0 k l0 a1 a2 true (([] : List (S28))) 0 0 0 5 0 0 0 0) = some r := by first | (rw [if_pos rfl] at H; exact H) | (rw [if_pos trivial] at H; exact H)
 clear H; have H := H1; clear H1
 obtain ⟨y102, hy102⟩ : ∃ y_ : List (S28), y_ = (([] : List (S28))) := ⟨_, rfl⟩
 replace H : (parolelaw32_FieldLost.l0 k l0 a1 a2 true y102 0 0 0 5 0 0 0 0) = some r := by first | (rw [hy102]; with_reducible exact H) | (have H2_ := (Option.bind_some _ _).symm.trans H; rw [hy102]; with_reducible exact H2_) | (have H2_ := (Option.bind_some _ _).symm.trans H; with_reducible exact H2_) | with_reducible exact H | (rw [hy102]; exact H) | exact H
 have Ny102 := aM hy102; clear hy102; have HC6 := aM H; clear H
 go_enter Try.func6, Try.ntmps6
 go_upto_block 0 with (first | ((with_reducible refine gate_callee (f := 10) rfl ?_); refine gL (some 15) Try.func10 #[] ?_; (with_reducible refine (parolelaw32_examples.calls  true _ A4.out).mono ?_); rintro e w7 ⟨rfl, hb⟩; refine ⟨_, rfl, ?_⟩; replace HB := sB HB hb; (try clear hb)) | ((with_reducible refine gate_dst (N := 18) rfl ?_); (try (refine gate_guard (by rfl) ?_; dsimp only)); refine Kd.R_lit k28 _ 28 ?hg (N := 18) ?hd (xs := ([] : List (S28))) (inner := []) (ok := fun _ => True) (okp := fun _ => True) ?hr ?hp (fun _ hk => hk) trivial (Below.refl _ _) (Nat.le_refl _) (by simp) ?_; (case hd => rfl); (case hg => rfl); (case hr => first | (go_simp; done) | (go_simp; rfl)); (case hp => exact (Reps.none _ _)); intro v103 w8 ho9 hb hg_ hnew_; clear hg_ hnew_; (first | rw [← Ny102.out] at ho9 | (simp only [Int.reduceToNat] at ho9; rw [← Ny102.out] at ho9)); have HO104 := rL (n := 0) ho9 HB; replace HB := sB HB hb; clear hb ho9) | ((with_reducible refine gate_dst (N := 9) rfl ?_); (try (refine gate_guard (by rfl) ?_; dsimp only)); refine bE (N := 9) (cs := #[.int .i64 0, .int .i64 0, .int .i64 0, .int .i64 0, .int .i64 0, .int .i64 0, .int .u64 0]) (t := 28) ?_; intro gb105 hg w10 hbox hb; have BK105 := aM (hbox); have GW105 := gE hg HB; have GE105 := gE hg HB; replace HO104 := aM (Kd.R_below (Kd.R_elderB (rD HO104) gb105 (Nat.le_of_eq hg.symm)) hb); replace HB := sB HB hb; clear hb hbox hg; obtain ⟨hcz11_0, hcz11_1, hcz11_2, hcz11_3, hcz11_4, hcz11_5, hcz11_6, hfz11_0, hfz11_1, hfz11_2, hfz11_3, hfz11_4, hfz11_5, hfz11_6⟩ := cZ7 BK105))
 (try simp only [Act.put, List.setIfInBounds_toArray, List.set_cons_zero, List.set_cons_succ])
 go_cut [8] (fun v8 wc => ∃ (kq : Nat) (x8_5 : List (S28)) (x106001_5 : Int) (x106003_5 : Int) (x106004_5 : Int) (x106005_5 : Int), Aside0 (parolelaw32_FieldLost.j1 kq a1 a2 true x8_5 = some r) ∧ Aside0 (kq ≤ k) ∧ Aside0 (Kd.R k28 28 wc w.heap.size (fun k_ => k_ ≠ gb105) v8 x8_5) ∧ Aside0 (wc.heap[gb105]? = some (.cells #[.int .i64 0, .int .i64 x106001_5, .int .i64 5, .int .i64 x106003_5, .int .i64 x106004_5, .int .i64 x106005_5, .int .u64 0] 28 (0, 0))) ∧ Aside0 (Below w.heap.size w wc))
 case first =>
  have H := HC6.out; clear HC6; have H' := aM H; clear H
  go_wp2
  go_loopg [8, 10] k (fun kq v8 v10 w' => ∃ (x8_1 : List (S28)) (x10_1 : Int) (x106001_1 : Int) (x106003_1 : Int) (x106004_1 : Int) (x106005_1 : Int), v10 = .int .i64 x10_1 ∧ Aside0 (parolelaw32_FieldLost.l0 kq l0 a1 a2 true x8_1 x10_1 0 x106001_1 5 x106003_1 x106004_1 x106005_1 0 = some r) ∧ Aside0 (kq ≤ k) ∧ Aside0 (Kd.R k28 28 w' w.heap.size (fun k_ => k_ ≠ gb105) v8 x8_1) ∧ Aside0 (w'.heap[gb105]? = some (.cells #[.int .i64 0, .int .i64 x106001_1, .int .i64 5, .int .i64 x106003_1, .int .i64 x106004_1, .int .i64 x106005_1, .int .u64 0] 28 (0, 0))) ∧ Aside0 (Below w.heap.size w w'))
  case atStart => exact ⟨(y102), (0), (0), (0), (0), (0), (by first | rfl | (simp; done) | (simp [*]; done)), H', ⟨Nat.le_refl _⟩, ⟨by (with_reducible repeat (first | apply Kd.R_alloc | apply Kd.R_drewN | apply Kd.R_drew)); exact Kd.R_mono (Kd.R_far (p := ⟨gb105, 6, none⟩) (Kd.R_far (p := ⟨gb105, 5, none⟩) (Kd.R_far (p := ⟨gb105, 4, none⟩) (Kd.R_far (p := ⟨gb105, 3, none⟩) (Kd.R_far (p := ⟨gb105, 2, none⟩) (Kd.R_far (p := ⟨gb105, 1, none⟩) (Kd.R_far (p := ⟨gb105, 0, none⟩) (Kd.R_mono HO104.out (fun k_ hk => (⟨hk, hk.2⟩ : _ ∧ k_ ≠ gb105))) (fun _ hk => hk.2) (.int .i64 0)) (fun _ hk => hk.2) (.int .i64 0)) (fun _ hk => hk.2) (.int .i64 5)) (fun _ hk => hk.2) (.int .i64 0)) (fun _ hk => hk.2) (.int .i64 0)) (fun _ hk => hk.2) (.int .i64 0)) (fun _ hk => hk.2) (.int .u64 0)) (fun _ hk => hk.1.2)⟩, ⟨by refine bM ?_; refine blk_put (cs := #[.int .i64 0, .int .i64 0, .int .i64 5, .int .i64 0, .int .i64 0, .int .i64 0, .int .u64 0]) ?_ 6 _ rfl; refine bM ?_; refine blk_put (cs := #[.int .i64 0, .int .i64 0, .int .i64 5, .int .i64 0, .int .i64 0, .int .i64 0, .int .u64 0]) ?_ 5 _ rfl; refine bM ?_; refine blk_put (cs := #[.int .i64 0, .int .i64 0, .int .i64 5, .int .i64 0, .int .i64 0, .int .i64 0, .int .u64 0]) ?_ 4 _ rfl; refine bM ?_; refine blk_put (cs := #[.int .i64 0, .int .i64 0, .int .i64 5, .int .i64 0, .int .i64 0, .int .i64 0, .int .u64 0]) ?_ 3 _ rfl; refine bM ?_; refine blk_put (cs := #[.int .i64 0, .int .i64 0, .int .i64 0, .int .i64 0, .int .i64 0, .int .i64 0, .int .u64 0]) ?_ 2 _ rfl; refine bM ?_; refine blk_put (cs := #[.int .i64 0, .int .i64 0, .int .i64 0, .int .i64 0, .int .i64 0, .int .i64 0, .int .u64 0]) ?_ 1 _ rfl; refine bM ?_; refine blk_put (cs := #[.int .i64 0, .int .i64 0, .int .i64 0, .int .i64 0, .int .i64 0, .int .i64 0, .int .u64 0]) ?_ 0 _ rfl; exact bD BK105⟩, ⟨sD HB⟩⟩
  case round =>
   clear H'
   try clear c1
   try clear p2
   try clear c5
   try clear c6
   try clear c10
   try clear hcz11_0
   try clear hcz11_1
   try clear hcz11_2
   try clear hcz11_3
   try clear hcz11_4
   try clear hcz11_5
   try clear hcz11_6
   try clear hfz11_0
   try clear hfz11_1
   try clear hfz11_2
   try clear hfz11_3
   try clear hfz11_4
   try clear hfz11_5
   try clear hfz11_6
   obtain ⟨x8_1, x10_1, x106001_1, x106003_1, x106004_1, x106005_1, rfl, HA, HK1, HO_8, BK105, HB⟩ := hrel
   cases gk with
   | zero => exact absurd HA.out (by simp [parolelaw32_FieldLost.l0])
   | succ k1 =>
    have H := HA.out; clear HA
    simp only [parolelaw32_FieldLost.l0] at H
    by_cases c12 : x10_1 < (l0.length : Int)
    ·rw [if_pos c12] at H
     have c12b0 : decide (x10_1 < (l0.length : Int)) = true := decide_eq_true c12
     clear c12
     (first | rw [c12b0] | (simp only [i64_w, i32_w]; rw [c12b0]) | skip)
     by_cases c13 : x10_1 < 20
     ·rw [if_pos c13] at H
      have c13b0 : decide (x10_1 < 20) = true := decide_eq_true c13
      clear c13
      by_cases c14 : 0 ≤ x10_1
      ·rw [if_pos c14] at H
       have c14b0 : decide (0 ≤ x10_1) = true := decide_eq_true c14
       clear c14; replace H := Option.bind_eq_some_iff.mp H
       obtain ⟨⟨t112, t113, t114, t115, t116, t117, t118⟩, A150, H⟩ := H
       replace H : (if x8_1.length < 2513169434916 then (parolelaw32_FieldLost.l0 k1 l0 a1 a2 true (x8_1 ++ [(⟨t112, t113, t114, t115, t116, t117, t118⟩ : S28)]) (wrap64 (x10_1 + 1)) 0 (wrap64 (x10_1 + 1)) 5 (wrap64 (x106003_1 + (wrap64 ((wrap64 ((wrap64 (Int.tdiv (wrap64 ((rd_T53 l0 x10_1).f0)) 200)) + (wrap64 (Int.tmod ((rd_T53 l0 x10_1).f1) 9)))) + (wrap64 ((rd_T53 l0 x10_1).f2)))))) (wrap64 (x106004_1 + (wrap64 ((wrap64 (Int.tdiv (wrap64 ((rd_T53 l0 x10_1).f0)) 200)) + (wrap64 (Int.tmod ((rd_T53 l0 x10_1).f1) 9)))))) (wrap64 (x106005_1 + (wrap64 (Int.tdiv (wrap64 ((rd_T53 l0 x10_1).f0)) 200)))) 0) else (none)) = some r := H
       have A15 := aM A150; clear A150
       by_cases c16 : x8_1.length < 2513169434916
       ·rw [if_pos c16] at H
        have LMc16 := aM c16; clear c16
        obtain ⟨y119, hy119⟩ : ∃ y_ : List (S28), y_ = (x8_1 ++ [(⟨t112, t113, t114, t115, t116, t117, t118⟩ : S28)]) := ⟨_, rfl⟩
        replace H : (parolelaw32_FieldLost.l0 k1 l0 a1 a2 true y119 (wrap64 (x10_1 + 1)) 0 (wrap64 (x10_1 + 1)) 5 (wrap64 (x106003_1 + (wrap64 ((wrap64 ((wrap64 (Int.tdiv (wrap64 ((rd_T53 l0 x10_1).f0)) 200)) + (wrap64 (Int.tmod ((rd_T53 l0 x10_1).f1) 9)))) + (wrap64 ((rd_T53 l0 x10_1).f2)))))) (wrap64 (x106004_1 + (wrap64 ((wrap64 (Int.tdiv (wrap64 ((rd_T53 l0 x10_1).f0)) 200)) + (wrap64 (Int.tmod ((rd_T53 l0 x10_1).f1) 9)))))) (wrap64 (x106005_1 + (wrap64 (Int.tdiv (wrap64 ((rd_T53 l0 x10_1).f0)) 200)))) 0) = some r := by first | (rw [hy119]; with_reducible exact H) | (have H2_ := (Option.bind_some _ _).symm.trans H; rw [hy119]; with_reducible exact H2_) | (have H2_ := (Option.bind_some _ _).symm.trans H; with_reducible exact H2_) | with_reducible exact H | (rw [hy119]; exact H) | exact H
        have Ny119 := aM hy119; clear hy119; have H' := aM H; clear H; obtain ⟨hcz17_0, hcz17_1, hcz17_2, hcz17_3, hcz17_4, hcz17_5, hcz17_6, hfz17_0, hfz17_1, hfz17_2, hfz17_3, hfz17_4, hfz17_5, hfz17_6⟩ := cZ7 BK105
        try go_wp2
        have n0_ : Aside0 (Kd.R k28 28 (wr.setCell ⟨gb105, 1, none⟩ (.int .i64 (wrap64 (x10_1 + 1)))) w.heap.size (fun k_ => k_ ≠ gb105) u8 x8_1) := ⟨by (with_reducible repeat (first | apply Kd.R_alloc | apply Kd.R_drewN | apply Kd.R_drew)); exact Kd.R_mono (Kd.R_far (p := ⟨gb105, 1, none⟩) (Kd.R_mono HO_8.out (fun k_ hk => (⟨hk, hk⟩ : _ ∧ k_ ≠ gb105))) (fun _ hk => hk.2) (.int .i64 (wrap64 (x10_1 + 1)))) (fun _ hk => hk.1)⟩
        have n1_ : Aside0 ((wr.setCell ⟨gb105, 1, none⟩ (.int .i64 (wrap64 (x10_1 + 1)))).heap[gb105]? = some (.cells #[.int .i64 0, .int .i64 (wrap64 (x10_1 + 1)), .int .i64 5, .int .i64 x106003_1, .int .i64 x106004_1, .int .i64 x106005_1, .int .u64 0] 28 (0, 0))) := ⟨by refine bM ?_; refine blk_put (cs := #[.int .i64 0, .int .i64 x106001_1, .int .i64 5, .int .i64 x106003_1, .int .i64 x106004_1, .int .i64 x106005_1, .int .u64 0]) ?_ 1 _ rfl; exact bD BK105⟩
        have n2_ : Aside0 (Below w.heap.size w (wr.setCell ⟨gb105, 1, none⟩ (.int .i64 (wrap64 (x10_1 + 1))))) := ⟨sD HB⟩
        (try clear HO_8); (try clear BK105); (try clear HB)
        generalize (wr.setCell ⟨gb105, 1, none⟩ (.int .i64 (wrap64 (x10_1 + 1)))) = w18 at n0_ n1_ n2_ ⊢
        have HO_8 := n0_; have BK105 := n1_; have HB := n2_; clear n0_ n1_ n2_; replace HO_8 := aM (Kd.R_drew HO_8.out); replace BK105 := aM (blk_drew BK105.out); replace HB := aM (below_drew1 HB.out)
        have p106 : 0 ≤ (x10_1 : Int) := of_decide_eq_true (by first | (with_reducible assumption) | assumption)
        have q106 : x10_1 < (l0.length : Int) := of_decide_eq_true (by first | (with_reducible assumption) | assumption)
        obtain ⟨ad106, e106, hx106_0, hx106_1, hx106_2⟩ := at_T53 HR0.out x10_1 p106 q106
        have hw106_2 := hx106_2; have hw106_1 := hx106_1; have hw106_0 := hx106_0
        cases e106
        replace hx106_0 := (HB.out.cell (World.block_lt_of_cell? w _ hx106_0)).trans hx106_0; replace hx106_1 := (HB.out.cell (World.block_lt_of_cell? w _ hx106_1)).trans hx106_1; replace hx106_2 := (HB.out.cell (World.block_lt_of_cell? w _ hx106_2)).trans hx106_2; replace p106 := eq_true p106; replace q106 := eq_true q106
        refine start_ (n := 12) (S := fun w' => w'.cell? ⟨gb105, 0, none⟩ = some (.int .i64 0) ∧ w'.cell? ⟨gb105, 1, none⟩ = some (.int .i64 (wrap64 (x10_1 + 1))) ∧ w'.cell? ⟨gb105, 2, none⟩ = some (.int .i64 5) ∧ w'.cell? ⟨gb105, 3, none⟩ = some (.int .i64 x106003_1) ∧ w'.cell? ⟨gb105, 4, none⟩ = some (.int .i64 x106004_1) ∧ w'.cell? ⟨gb105, 5, none⟩ = some (.int .i64 x106005_1) ∧ w'.cell? ⟨gb105, 6, none⟩ = some (.int .u64 0) ∧ w'.cell? (ad106.add ((x10_1).toNat * 3)) = some (.int .u8 ((rd_T53 l0 x10_1).f0)) ∧ w'.cell? ⟨(ad106.add ((x10_1).toNat * 3)).block, (ad106.add ((x10_1).toNat * 3)).off + 1, none⟩ = some (.int .u8 ((rd_T53 l0 x10_1).f1)) ∧ w'.cell? ⟨(ad106.add ((x10_1).toNat * 3)).block, (ad106.add ((x10_1).toNat * 3)).off + 2, none⟩ = some (.int .u8 ((rd_T53 l0 x10_1).f2))) (ds := [11]) #[false, false, false, false, false, false, false, false, false, false, false, false] (by kernel_rfl) rfl rfl ⟨cE BK105 0, cE BK105 1, cE BK105 2, cE BK105 3, cE BK105 4, cE BK105 5, cE BK105 6, ((HB.out.cell (World.block_lt_of_cell? w _ hw106_0)).trans hw106_0), ((HB.out.cell (World.block_lt_of_cell? w _ hw106_1)).trans hw106_1), ((HB.out.cell (World.block_lt_of_cell? w _ hw106_2)).trans hw106_2)⟩ (fun hHeld => ?_); refine with_tabW parolelaw32_FieldLost.tab10 parolelaw32_FieldLost.bits10 (fun HT_ HW_ => ?_)
        generalize w18.drew = w19 at HO_8 BK105 HB hx106_0 hx106_1 hx106_2 hHeld ⊢
        refine pX (i := 0) (N := some 33) rfl rfl HT_ ?_
        refine pX (i := 2) (N := some 35) rfl rfl HT_ ?_
        refine pX (i := 3) (N := some 36) rfl rfl HT_ ?_
        refine pX (i := 4) (N := some 37) rfl rfl HT_ ?_
        refine pX (i := 5) (N := some 38) rfl rfl HT_ ?_
        refine tX (i := 1) (N := some 34) rfl rfl HT_ HW_ hHeld (Or.inl ⟨by rfl, by rintro w' ⟨s0, s1, s2, s3, s4, s5, s6, s7, s8, s9⟩; go_simp; with_reducible rfl⟩) ?_
        refine tX (i := 6) (N := some 39) rfl rfl HT_ HW_ hHeld (Or.inl ⟨by rfl, by rintro w' ⟨s0, s1, s2, s3, s4, s5, s6, s7, s8, s9⟩; go_simp; with_reducible rfl⟩) ?_
        refine pX (i := 7) (N := some 40) rfl rfl HT_ ?_
        refine pX (i := 8) (N := some 41) rfl rfl HT_ ?_
        refine pX (i := 9) (N := some 42) rfl rfl HT_ ?_
        refine pX (i := 10) (N := some 43) rfl rfl HT_ ?_
        refine last_ (i := 11) (N := none) #[true, true, true, true, true, true, true, true, true, true, true, true] rfl rfl (one_of HT_.out (by kernel_rfl)) (by decide) (fun K hK => ?_)
        have hs20 : w19.cell? ⟨gb105, 5, none⟩ = some (.int .i64 x106005_1) := (blk_cell BK105.out 5).trans rfl
        have hfs20 := blk_frozen BK105.out 5
        refine skip_ (w1 := ?_) (by rfl) rfl ?_ ?_
        rotate_left
        ·go_simp
         rfl
        refine hK.out _ _ ?_
        clear hK K
        refine done_ (done_of HT_.out (by kernel_rfl)) ?_
        try go_wp2
        have n0_ : Aside0 (Kd.R k28 28 (w19.setCell ⟨gb105, 5, none⟩ (.int .i64 (wrap64 (x106005_1 + (wrap64 (Int.tdiv (wrap64 ((rd_T53 l0 x10_1).f0)) 200)))))) w.heap.size (fun k_ => k_ ≠ gb105) u8 x8_1) := ⟨by (with_reducible repeat (first | apply Kd.R_alloc | apply Kd.R_drewN | apply Kd.R_drew)); exact Kd.R_mono (Kd.R_far (p := ⟨gb105, 5, none⟩) (Kd.R_mono HO_8.out (fun k_ hk => (⟨hk, hk⟩ : _ ∧ k_ ≠ gb105))) (fun _ hk => hk.2) (.int .i64 (wrap64 (x106005_1 + (wrap64 (Int.tdiv (wrap64 ((rd_T53 l0 x10_1).f0)) 200)))))) (fun _ hk => hk.1)⟩
        have n1_ : Aside0 ((w19.setCell ⟨gb105, 5, none⟩ (.int .i64 (wrap64 (x106005_1 + (wrap64 (Int.tdiv (wrap64 ((rd_T53 l0 x10_1).f0)) 200)))))).heap[gb105]? = some (.cells #[.int .i64 0, .int .i64 (wrap64 (x10_1 + 1)), .int .i64 5, .int .i64 x106003_1, .int .i64 x106004_1, .int .i64 (wrap64 (x106005_1 + (wrap64 (Int.tdiv (wrap64 ((rd_T53 l0 x10_1).f0)) 200)))), .int .u64 0] 28 (0, 0))) := ⟨by refine bM ?_; refine blk_put (cs := #[.int .i64 0, .int .i64 (wrap64 (x10_1 + 1)), .int .i64 5, .int .i64 x106003_1, .int .i64 x106004_1, .int .i64 x106005_1, .int .u64 0]) ?_ 5 _ rfl; exact bD BK105⟩
        have n2_ : Aside0 (Below w.heap.size w (w19.setCell ⟨gb105, 5, none⟩ (.int .i64 (wrap64 (x106005_1 + (wrap64 (Int.tdiv (wrap64 ((rd_T53 l0 x10_1).f0)) 200))))))) := ⟨sD HB⟩
        (try clear HO_8); (try clear BK105); (try clear HB)
        generalize (w19.setCell ⟨gb105, 5, none⟩ (.int .i64 (wrap64 (x106005_1 + (wrap64 (Int.tdiv (wrap64 ((rd_T53 l0 x10_1).f0)) 200)))))) = w21 at n0_ n1_ n2_ ⊢
        have HO_8 := n0_; have BK105 := n1_; have HB := n2_; clear n0_ n1_ n2_; replace HO_8 := aM (Kd.R_drew HO_8.out); replace BK105 := aM (blk_drew BK105.out); replace HB := aM (below_drew1 HB.out)
        have p107 : 0 ≤ (x10_1 : Int) := of_decide_eq_true (by first | (with_reducible assumption) | assumption)
        have q107 : x10_1 < (l0.length : Int) := of_decide_eq_true (by first | (with_reducible assumption) | assumption)
        obtain ⟨ad107, e107, hx107_0, hx107_1, hx107_2⟩ := at_T53 HR0.out x10_1 p107 q107
        have hw107_2 := hx107_2; have hw107_1 := hx107_1; have hw107_0 := hx107_0
        obtain rfl : ad106 = ad107 := (by injection e107)
        replace hx107_0 := (HB.out.cell (World.block_lt_of_cell? w _ hx107_0)).trans hx107_0; replace hx107_1 := (HB.out.cell (World.block_lt_of_cell? w _ hx107_1)).trans hx107_1; replace hx107_2 := (HB.out.cell (World.block_lt_of_cell? w _ hx107_2)).trans hx107_2; replace p107 := eq_true p107; replace q107 := eq_true q107
        have p108 : 0 ≤ (x10_1 : Int) := of_decide_eq_true (by first | (with_reducible assumption) | assumption)
        have q108 : x10_1 < (l0.length : Int) := of_decide_eq_true (by first | (with_reducible assumption) | assumption)
        obtain ⟨ad108, e108, hx108_0, hx108_1, hx108_2⟩ := at_T53 HR0.out x10_1 p108 q108
        have hw108_2 := hx108_2; have hw108_1 := hx108_1; have hw108_0 := hx108_0
        obtain rfl : ad106 = ad108 := (by injection e108)
        replace hx108_0 := (HB.out.cell (World.block_lt_of_cell? w _ hx108_0)).trans hx108_0; replace hx108_1 := (HB.out.cell (World.block_lt_of_cell? w _ hx108_1)).trans hx108_1; replace hx108_2 := (HB.out.cell (World.block_lt_of_cell? w _ hx108_2)).trans hx108_2; replace p108 := eq_true p108; replace q108 := eq_true q108
        refine start_ (n := 20) (S := fun w' => w'.cell? ⟨gb105, 0, none⟩ = some (.int .i64 0) ∧ w'.cell? ⟨gb105, 1, none⟩ = some (.int .i64 (wrap64 (x10_1 + 1))) ∧ w'.cell? ⟨gb105, 2, none⟩ = some (.int .i64 5) ∧ w'.cell? ⟨gb105, 3, none⟩ = some (.int .i64 x106003_1) ∧ w'.cell? ⟨gb105, 4, none⟩ = some (.int .i64 x106004_1) ∧ w'.cell? ⟨gb105, 5, none⟩ = some (.int .i64 (wrap64 (x106005_1 + (wrap64 (Int.tdiv (wrap64 ((rd_T53 l0 x10_1).f0)) 200))))) ∧ w'.cell? ⟨gb105, 6, none⟩ = some (.int .u64 0) ∧ w'.cell? (ad106.add ((x10_1).toNat * 3)) = some (.int .u8 ((rd_T53 l0 x10_1).f0)) ∧ w'.cell? ⟨(ad106.add ((x10_1).toNat * 3)).block, (ad106.add ((x10_1).toNat * 3)).off + 1, none⟩ = some (.int .u8 ((rd_T53 l0 x10_1).f1)) ∧ w'.cell? ⟨(ad106.add ((x10_1).toNat * 3)).block, (ad106.add ((x10_1).toNat * 3)).off + 2, none⟩ = some (.int .u8 ((rd_T53 l0 x10_1).f2)) ∧ w'.cell? (ad106.add ((x10_1).toNat * 3)) = some (.int .u8 ((rd_T53 l0 x10_1).f0)) ∧ w'.cell? ⟨(ad106.add ((x10_1).toNat * 3)).block, (ad106.add ((x10_1).toNat * 3)).off + 1, none⟩ = some (.int .u8 ((rd_T53 l0 x10_1).f1)) ∧ w'.cell? ⟨(ad106.add ((x10_1).toNat * 3)).block, (ad106.add ((x10_1).toNat * 3)).off + 2, none⟩ = some (.int .u8 ((rd_T53 l0 x10_1).f2))) (ds := [19]) #[false, false, false, false, false, false, false, false, false, false, false, false, false, false, false, false, false, false, false, false] (by kernel_rfl) rfl rfl ⟨cE BK105 0, cE BK105 1, cE BK105 2, cE BK105 3, cE BK105 4, cE BK105 5, cE BK105 6, ((HB.out.cell (World.block_lt_of_cell? w _ hw107_0)).trans hw107_0), ((HB.out.cell (World.block_lt_of_cell? w _ hw107_1)).trans hw107_1), ((HB.out.cell (World.block_lt_of_cell? w _ hw107_2)).trans hw107_2), ((HB.out.cell (World.block_lt_of_cell? w _ hw108_0)).trans hw108_0), ((HB.out.cell (World.block_lt_of_cell? w _ hw108_1)).trans hw108_1), ((HB.out.cell (World.block_lt_of_cell? w _ hw108_2)).trans hw108_2)⟩ (fun hHeld => ?_); refine with_tabW parolelaw32_FieldLost.tab11 parolelaw32_FieldLost.bits11 (fun HT_ HW_ => ?_)
        generalize w21.drew = w22 at HO_8 BK105 HB hx107_0 hx107_1 hx107_2 hx108_0 hx108_1 hx108_2 hHeld ⊢
        refine pX (i := 0) (N := some 44) rfl rfl HT_ ?_
        refine pX (i := 2) (N := some 46) rfl rfl HT_ ?_
        refine pX (i := 3) (N := some 47) rfl rfl HT_ ?_
        refine pX (i := 4) (N := some 48) rfl rfl HT_ ?_
        refine pX (i := 5) (N := some 49) rfl rfl HT_ ?_
        refine pX (i := 9) (N := some 53) rfl rfl HT_ ?_
        refine pX (i := 10) (N := some 54) rfl rfl HT_ ?_
        refine pX (i := 11) (N := some 55) rfl rfl HT_ ?_
        refine pX (i := 12) (N := some 56) rfl rfl HT_ ?_
        refine tX (i := 1) (N := some 45) rfl rfl HT_ HW_ hHeld (Or.inl ⟨by rfl, by rintro w' ⟨s0, s1, s2, s3, s4, s5, s6, s7, s8, s9, s10, s11, s12⟩; go_simp; with_reducible rfl⟩) ?_
        refine tX (i := 6) (N := some 50) rfl rfl HT_ HW_ hHeld (Or.inl ⟨by rfl, by rintro w' ⟨s0, s1, s2, s3, s4, s5, s6, s7, s8, s9, s10, s11, s12⟩; go_simp; with_reducible rfl⟩) ?_
        refine pX (i := 7) (N := some 51) rfl rfl HT_ ?_
        refine pX (i := 8) (N := some 52) rfl rfl HT_ ?_
        refine tX (i := 13) (N := some 57) rfl rfl HT_ HW_ hHeld (Or.inl ⟨by rfl, by rintro w' ⟨s0, s1, s2, s3, s4, s5, s6, s7, s8, s9, s10, s11, s12⟩; go_simp; with_reducible rfl⟩) ?_
        refine pX (i := 14) (N := some 58) rfl rfl HT_ ?_
        refine pX (i := 15) (N := some 59) rfl rfl HT_ ?_
        refine pX (i := 16) (N := some 60) rfl rfl HT_ ?_
        refine pX (i := 17) (N := some 61) rfl rfl HT_ ?_
        refine pX (i := 18) (N := some 62) rfl rfl HT_ ?_
        refine last_ (i := 19) (N := none) #[true, true, true, true, true, true, true, true, true, true, true, true, true, true, true, true, true, true, true, true] rfl rfl (one_of HT_.out (by kernel_rfl)) (by decide) (fun K hK => ?_)
        have hs23 : w22.cell? ⟨gb105, 4, none⟩ = some (.int .i64 x106004_1) := (blk_cell BK105.out 4).trans rfl
        have hfs23 := blk_frozen BK105.out 4
        refine skip_ (w1 := ?_) (by rfl) rfl ?_ ?_
        rotate_left
        ·go_simp
         rfl
        refine hK.out _ _ ?_
        clear hK K
        refine done_ (done_of HT_.out (by kernel_rfl)) ?_
        try go_wp2
        have n0_ : Aside0 (Kd.R k28 28 (w22.setCell ⟨gb105, 4, none⟩ (.int .i64 (wrap64 (x106004_1 + (wrap64 ((wrap64 (Int.tdiv (wrap64 ((rd_T53 l0 x10_1).f0)) 200)) + (wrap64 (Int.tmod ((rd_T53 l0 x10_1).f1) 9)))))))) w.heap.size (fun k_ => k_ ≠ gb105) u8 x8_1) := ⟨by (with_reducible repeat (first | apply Kd.R_alloc | apply Kd.R_drewN | apply Kd.R_drew)); exact Kd.R_mono (Kd.R_far (p := ⟨gb105, 4, none⟩) (Kd.R_mono HO_8.out (fun k_ hk => (⟨hk, hk⟩ : _ ∧ k_ ≠ gb105))) (fun _ hk => hk.2) (.int .i64 (wrap64 (x106004_1 + (wrap64 ((wrap64 (Int.tdiv (wrap64 ((rd_T53 l0 x10_1).f0)) 200)) + (wrap64 (Int.tmod ((rd_T53 l0 x10_1).f1) 9)))))))) (fun _ hk => hk.1)⟩
        have n1_ : Aside0 ((w22.setCell ⟨gb105, 4, none⟩ (.int .i64 (wrap64 (x106004_1 + (wrap64 ((wrap64 (Int.tdiv (wrap64 ((rd_T53 l0 x10_1).f0)) 200)) + (wrap64 (Int.tmod ((rd_T53 l0 x10_1).f1) 9)))))))).heap[gb105]? = some (.cells #[.int .i64 0, .int .i64 (wrap64 (x10_1 + 1)), .int .i64 5, .int .i64 x106003_1, .int .i64 (wrap64 (x106004_1 + (wrap64 ((wrap64 (Int.tdiv (wrap64 ((rd_T53 l0 x10_1).f0)) 200)) + (wrap64 (Int.tmod ((rd_T53 l0 x10_1).f1) 9)))))), .int .i64 (wrap64 (x106005_1 + (wrap64 (Int.tdiv (wrap64 ((rd_T53 l0 x10_1).f0)) 200)))), .int .u64 0] 28 (0, 0))) := ⟨by refine bM ?_; refine blk_put (cs := #[.int .i64 0, .int .i64 (wrap64 (x10_1 + 1)), .int .i64 5, .int .i64 x106003_1, .int .i64 x106004_1, .int .i64 (wrap64 (x106005_1 + (wrap64 (Int.tdiv (wrap64 ((rd_T53 l0 x10_1).f0)) 200)))), .int .u64 0]) ?_ 4 _ rfl; exact bD BK105⟩
        have n2_ : Aside0 (Below w.heap.size w (w22.setCell ⟨gb105, 4, none⟩ (.int .i64 (wrap64 (x106004_1 + (wrap64 ((wrap64 (Int.tdiv (wrap64 ((rd_T53 l0 x10_1).f0)) 200)) + (wrap64 (Int.tmod ((rd_T53 l0 x10_1).f1) 9))))))))) := ⟨sD HB⟩
        (try clear HO_8); (try clear BK105); (try clear HB)
        generalize (w22.setCell ⟨gb105, 4, none⟩ (.int .i64 (wrap64 (x106004_1 + (wrap64 ((wrap64 (Int.tdiv (wrap64 ((rd_T53 l0 x10_1).f0)) 200)) + (wrap64 (Int.tmod ((rd_T53 l0 x10_1).f1) 9)))))))) = w24 at n0_ n1_ n2_ ⊢
        have HO_8 := n0_; have BK105 := n1_; have HB := n2_; clear n0_ n1_ n2_; replace HO_8 := aM (Kd.R_drew HO_8.out); replace BK105 := aM (blk_drew BK105.out); replace HB := aM (below_drew1 HB.out)
        have p109 : 0 ≤ (x10_1 : Int) := of_decide_eq_true (by first | (with_reducible assumption) | assumption)
        have q109 : x10_1 < (l0.length : Int) := of_decide_eq_true (by first | (with_reducible assumption) | assumption)
        obtain ⟨ad109, e109, hx109_0, hx109_1, hx109_2⟩ := at_T53 HR0.out x10_1 p109 q109
        have hw109_2 := hx109_2; have hw109_1 := hx109_1; have hw109_0 := hx109_0
        obtain rfl : ad106 = ad109 := (by injection e109)
        replace hx109_0 := (HB.out.cell (World.block_lt_of_cell? w _ hx109_0)).trans hx109_0; replace hx109_1 := (HB.out.cell (World.block_lt_of_cell? w _ hx109_1)).trans hx109_1; replace hx109_2 := (HB.out.cell (World.block_lt_of_cell? w _ hx109_2)).trans hx109_2; replace p109 := eq_true p109; replace q109 := eq_true q109
        have p110 : 0 ≤ (x10_1 : Int) := of_decide_eq_true (by first | (with_reducible assumption) | assumption)
        have q110 : x10_1 < (l0.length : Int) := of_decide_eq_true (by first | (with_reducible assumption) | assumption)
        obtain ⟨ad110, e110, hx110_0, hx110_1, hx110_2⟩ := at_T53 HR0.out x10_1 p110 q110
        have hw110_2 := hx110_2; have hw110_1 := hx110_1; have hw110_0 := hx110_0
        obtain rfl : ad106 = ad110 := (by injection e110)
        replace hx110_0 := (HB.out.cell (World.block_lt_of_cell? w _ hx110_0)).trans hx110_0; replace hx110_1 := (HB.out.cell (World.block_lt_of_cell? w _ hx110_1)).trans hx110_1; replace hx110_2 := (HB.out.cell (World.block_lt_of_cell? w _ hx110_2)).trans hx110_2; replace p110 := eq_true p110; replace q110 := eq_true q110
        have p111 : 0 ≤ (x10_1 : Int) := of_decide_eq_true (by first | (with_reducible assumption) | assumption)
        have q111 : x10_1 < (l0.length : Int) := of_decide_eq_true (by first | (with_reducible assumption) | assumption)
        obtain ⟨ad111, e111, hx111_0, hx111_1, hx111_2⟩ := at_T53 HR0.out x10_1 p111 q111
        have hw111_2 := hx111_2; have hw111_1 := hx111_1; have hw111_0 := hx111_0
        obtain rfl : ad106 = ad111 := (by injection e111)
        replace hx111_0 := (HB.out.cell (World.block_lt_of_cell? w _ hx111_0)).trans hx111_0; replace hx111_1 := (HB.out.cell (World.block_lt_of_cell? w _ hx111_1)).trans hx111_1; replace hx111_2 := (HB.out.cell (World.block_lt_of_cell? w _ hx111_2)).trans hx111_2; replace p111 := eq_true p111; replace q111 := eq_true q111
        refine start_ (n := 27) (S := fun w' => w'.cell? ⟨gb105, 0, none⟩ = some (.int .i64 0) ∧ w'.cell? ⟨gb105, 1, none⟩ = some (.int .i64 (wrap64 (x10_1 + 1))) ∧ w'.cell? ⟨gb105, 2, none⟩ = some (.int .i64 5) ∧ w'.cell? ⟨gb105, 3, none⟩ = some (.int .i64 x106003_1) ∧ w'.cell? ⟨gb105, 4, none⟩ = some (.int .i64 (wrap64 (x106004_1 + (wrap64 ((wrap64 (Int.tdiv (wrap64 ((rd_T53 l0 x10_1).f0)) 200)) + (wrap64 (Int.tmod ((rd_T53 l0 x10_1).f1) 9))))))) ∧ w'.cell? ⟨gb105, 5, none⟩ = some (.int .i64 (wrap64 (x106005_1 + (wrap64 (Int.tdiv (wrap64 ((rd_T53 l0 x10_1).f0)) 200))))) ∧ w'.cell? ⟨gb105, 6, none⟩ = some (.int .u64 0) ∧ w'.cell? (ad106.add ((x10_1).toNat * 3)) = some (.int .u8 ((rd_T53 l0 x10_1).f0)) ∧ w'.cell? ⟨(ad106.add ((x10_1).toNat * 3)).block, (ad106.add ((x10_1).toNat * 3)).off + 1, none⟩ = some (.int .u8 ((rd_T53 l0 x10_1).f1)) ∧ w'.cell? ⟨(ad106.add ((x10_1).toNat * 3)).block, (ad106.add ((x10_1).toNat * 3)).off + 2, none⟩ = some (.int .u8 ((rd_T53 l0 x10_1).f2)) ∧ w'.cell? (ad106.add ((x10_1).toNat * 3)) = some (.int .u8 ((rd_T53 l0 x10_1).f0)) ∧ w'.cell? ⟨(ad106.add ((x10_1).toNat * 3)).block, (ad106.add ((x10_1).toNat * 3)).off + 1, none⟩ = some (.int .u8 ((rd_T53 l0 x10_1).f1)) ∧ w'.cell? ⟨(ad106.add ((x10_1).toNat * 3)).block, (ad106.add ((x10_1).toNat * 3)).off + 2, none⟩ = some (.int .u8 ((rd_T53 l0 x10_1).f2)) ∧ w'.cell? (ad106.add ((x10_1).toNat * 3)) = some (.int .u8 ((rd_T53 l0 x10_1).f0)) ∧ w'.cell? ⟨(ad106.add ((x10_1).toNat * 3)).block, (ad106.add ((x10_1).toNat * 3)).off + 1, none⟩ = some (.int .u8 ((rd_T53 l0 x10_1).f1)) ∧ w'.cell? ⟨(ad106.add ((x10_1).toNat * 3)).block, (ad106.add ((x10_1).toNat * 3)).off + 2, none⟩ = some (.int .u8 ((rd_T53 l0 x10_1).f2))) (ds := [26]) #[false, false, false, false, false, false, false, false, false, false, false, false, false, false, false, false, false, false, false, false, false, false, false, false, false, false, false] (by kernel_rfl) rfl rfl ⟨cE BK105 0, cE BK105 1, cE BK105 2, cE BK105 3, cE BK105 4, cE BK105 5, cE BK105 6, ((HB.out.cell (World.block_lt_of_cell? w _ hw109_0)).trans hw109_0), ((HB.out.cell (World.block_lt_of_cell? w _ hw109_1)).trans hw109_1), ((HB.out.cell (World.block_lt_of_cell? w _ hw109_2)).trans hw109_2), ((HB.out.cell (World.block_lt_of_cell? w _ hw110_0)).trans hw110_0), ((HB.out.cell (World.block_lt_of_cell? w _ hw110_1)).trans hw110_1), ((HB.out.cell (World.block_lt_of_cell? w _ hw110_2)).trans hw110_2), ((HB.out.cell (World.block_lt_of_cell? w _ hw111_0)).trans hw111_0), ((HB.out.cell (World.block_lt_of_cell? w _ hw111_1)).trans hw111_1), ((HB.out.cell (World.block_lt_of_cell? w _ hw111_2)).trans hw111_2)⟩ (fun hHeld => ?_); refine with_tabW parolelaw32_FieldLost.tab12 parolelaw32_FieldLost.bits12 (fun HT_ HW_ => ?_)
        generalize w24.drew = w25 at HO_8 BK105 HB hx109_0 hx109_1 hx109_2 hx110_0 hx110_1 hx110_2 hx111_0 hx111_1 hx111_2 hHeld ⊢
        refine pX (i := 0) (N := some 63) rfl rfl HT_ ?_
        refine pX (i := 2) (N := some 65) rfl rfl HT_ ?_
        refine pX (i := 3) (N := some 66) rfl rfl HT_ ?_
        refine pX (i := 4) (N := some 67) rfl rfl HT_ ?_
        refine pX (i := 5) (N := some 68) rfl rfl HT_ ?_
        refine pX (i := 9) (N := some 72) rfl rfl HT_ ?_
        refine pX (i := 10) (N := some 73) rfl rfl HT_ ?_
        refine pX (i := 11) (N := some 74) rfl rfl HT_ ?_
        refine pX (i := 12) (N := some 75) rfl rfl HT_ ?_
        refine pX (i := 17) (N := some 80) rfl rfl HT_ ?_
        refine pX (i := 18) (N := some 81) rfl rfl HT_ ?_
        refine pX (i := 19) (N := some 82) rfl rfl HT_ ?_
        refine pX (i := 20) (N := some 83) rfl rfl HT_ ?_
        refine tX (i := 1) (N := some 64) rfl rfl HT_ HW_ hHeld (Or.inl ⟨by rfl, by rintro w' ⟨s0, s1, s2, s3, s4, s5, s6, s7, s8, s9, s10, s11, s12, s13, s14, s15⟩; go_simp; with_reducible rfl⟩) ?_
        refine tX (i := 6) (N := some 69) rfl rfl HT_ HW_ hHeld (Or.inl ⟨by rfl, by rintro w' ⟨s0, s1, s2, s3, s4, s5, s6, s7, s8, s9, s10, s11, s12, s13, s14, s15⟩; go_simp; with_reducible rfl⟩) ?_
        refine pX (i := 7) (N := some 70) rfl rfl HT_ ?_
        refine pX (i := 8) (N := some 71) rfl rfl HT_ ?_
        refine tX (i := 13) (N := some 76) rfl rfl HT_ HW_ hHeld (Or.inl ⟨by rfl, by rintro w' ⟨s0, s1, s2, s3, s4, s5, s6, s7, s8, s9, s10, s11, s12, s13, s14, s15⟩; go_simp; with_reducible rfl⟩) ?_
        refine pX (i := 14) (N := some 77) rfl rfl HT_ ?_
        refine pX (i := 15) (N := some 78) rfl rfl HT_ ?_
        refine pX (i := 16) (N := some 79) rfl rfl HT_ ?_
        refine tX (i := 21) (N := some 84) rfl rfl HT_ HW_ hHeld (Or.inl ⟨by rfl, by rintro w' ⟨s0, s1, s2, s3, s4, s5, s6, s7, s8, s9, s10, s11, s12, s13, s14, s15⟩; go_simp; with_reducible rfl⟩) ?_
        refine pX (i := 22) (N := some 85) rfl rfl HT_ ?_
        refine pX (i := 23) (N := some 86) rfl rfl HT_ ?_
        refine pX (i := 24) (N := some 87) rfl rfl HT_ ?_
        refine pX (i := 25) (N := some 88) rfl rfl HT_ ?_
        refine last_ (i := 26) (N := none) #[true, true, true, true, true, true, true, true, true, true, true, true, true, true, true, true, true, true, true, true, true, true, true, true, true, true, true] rfl rfl (one_of HT_.out (by kernel_rfl)) (by decide) (fun K hK => ?_)
        have hs26 : w25.cell? ⟨gb105, 3, none⟩ = some (.int .i64 x106003_1) := (blk_cell BK105.out 3).trans rfl
        have hfs26 := blk_frozen BK105.out 3
        refine skip_ (w1 := ?_) (by rfl) rfl ?_ ?_
        rotate_left
        ·go_simp
         rfl
        refine hK.out _ _ ?_
        clear hK K
        refine done_ (done_of HT_.out (by kernel_rfl)) ?_
        obtain ⟨hcz27_0, hcz27_1, hcz27_2, hcz27_3, hcz27_4, hcz27_5, hcz27_6, hfz27_0, hfz27_1, hfz27_2, hfz27_3, hfz27_4, hfz27_5, hfz27_6⟩ := cZ7 BK105
        try go_wp2_with (first | ((with_reducible refine gate_callee (f := 12) rfl ?_); refine gL (some 92) Try.func12 #[.int .u64 a2, .agg #[.int .i64 0, .int .i64 (wrap64 (x10_1 + 1)), .int .i64 5, .int .i64 (wrap64 (x106003_1 + (wrap64 ((wrap64 ((wrap64 (Int.tdiv (wrap64 ((rd_T53 l0 x10_1).f0)) 200)) + (wrap64 (Int.tmod ((rd_T53 l0 x10_1).f1) 9)))) + (wrap64 ((rd_T53 l0 x10_1).f2)))))), .int .i64 (wrap64 (x106004_1 + (wrap64 ((wrap64 (Int.tdiv (wrap64 ((rd_T53 l0 x10_1).f0)) 200)) + (wrap64 (Int.tmod ((rd_T53 l0 x10_1).f1) 9)))))), .int .i64 (wrap64 (x106005_1 + (wrap64 (Int.tdiv (wrap64 ((rd_T53 l0 x10_1).f0)) 200)))), .int .u64 0]] ?_; (with_reducible refine (field_Sign.calls k1 a2 0 (wrap64 (x10_1 + 1)) 5 (wrap64 (x106003_1 + (wrap64 ((wrap64 ((wrap64 (Int.tdiv (wrap64 ((rd_T53 l0 x10_1).f0)) 200)) + (wrap64 (Int.tmod ((rd_T53 l0 x10_1).f1) 9)))) + (wrap64 ((rd_T53 l0 x10_1).f2)))))) (wrap64 (x106004_1 + (wrap64 ((wrap64 (Int.tdiv (wrap64 ((rd_T53 l0 x10_1).f0)) 200)) + (wrap64 (Int.tmod ((rd_T53 l0 x10_1).f1) 9)))))) (wrap64 (x106005_1 + (wrap64 (Int.tdiv (wrap64 ((rd_T53 l0 x10_1).f0)) 200)))) 0 t112 t113 t114 t115 t116 t117 t118 _ A15.out).mono ?_); rintro e w28 ⟨rfl, hb⟩; refine ⟨_, rfl, ?_⟩; replace HO_8 := aM (Kd.R_below (rD ⟨(Kd.R_mono (Kd.R_far (p := ⟨gb105, 3, none⟩) (Kd.R_mono HO_8.out (fun k_ hk => (⟨hk, hk⟩ : _ ∧ k_ ≠ gb105))) (fun _ hk => hk.2) (.int .i64 (wrap64 (x106003_1 + (wrap64 ((wrap64 ((wrap64 (Int.tdiv (wrap64 ((rd_T53 l0 x10_1).f0)) 200)) + (wrap64 (Int.tmod ((rd_T53 l0 x10_1).f1) 9)))) + (wrap64 ((rd_T53 l0 x10_1).f2)))))))) (fun _ h_ => h_.1))⟩) hb); replace BK105 := aM (blk_below (g := gb105) (o := .cells #[.int .i64 0, .int .i64 (wrap64 (x10_1 + 1)), .int .i64 5, .int .i64 (wrap64 (x106003_1 + (wrap64 ((wrap64 ((wrap64 (Int.tdiv (wrap64 ((rd_T53 l0 x10_1).f0)) 200)) + (wrap64 (Int.tmod ((rd_T53 l0 x10_1).f1) 9)))) + (wrap64 ((rd_T53 l0 x10_1).f2)))))), .int .i64 (wrap64 (x106004_1 + (wrap64 ((wrap64 (Int.tdiv (wrap64 ((rd_T53 l0 x10_1).f0)) 200)) + (wrap64 (Int.tmod ((rd_T53 l0 x10_1).f1) 9)))))), .int .i64 (wrap64 (x106005_1 + (wrap64 (Int.tdiv (wrap64 ((rd_T53 l0 x10_1).f0)) 200)))), .int .u64 0] 28 (0, 0)) (by refine bM ?_; refine blk_put (cs := #[.int .i64 0, .int .i64 (wrap64 (x10_1 + 1)), .int .i64 5, .int .i64 x106003_1, .int .i64 (wrap64 (x106004_1 + (wrap64 ((wrap64 (Int.tdiv (wrap64 ((rd_T53 l0 x10_1).f0)) 200)) + (wrap64 (Int.tmod ((rd_T53 l0 x10_1).f1) 9)))))), .int .i64 (wrap64 (x106005_1 + (wrap64 (Int.tdiv (wrap64 ((rd_T53 l0 x10_1).f0)) 200)))), .int .u64 0]) ?_ 3 _ rfl; exact bD BK105) hb); replace HB := sB HB hb; (try clear hb)) | ((with_reducible refine gate_builtin (b := .append) (xs := #[.tmp 89, .tmp 93]) rfl ?_); (try (refine gate_guard (by rfl) ?_; dsimp only)); at_builtin; refine Kd.R_append k28 (w0 := w) w.heap.size rfl (.tmp 89) (.tmp 93) 31 28 (.agg #[(.int .i64 0), (.int .i64 0), (.int .i64 0), (.int .i64 0), (.int .i64 0), (.int .i64 0), (.int .u64 0)]) 56 rfl Try.underlying31 info28 rfl (by decide) (by omega) u8 x8_1 (⟨t112, t113, t114, t115, t116, t117, t118⟩ : S28) [.int .i64 t112, .int .i64 t113, .int .i64 t114, .int .i64 t115, .int .i64 t116, .int .i64 t117, .int .u64 t118] (fun k_ => k_ ≠ gb105) (fun _ => False) rfl rfl ?aP (fun _ hk => hk.elim) ?aF ?aO ?aB ?aS ?aL ?_; (case aP => exact k28_mkM _ _ _ (⟨t112, t113, t114, t115, t116, t117, t118⟩ : S28)); (case aB => exact (sD HB)); (case aF => exact (fun k_ hk => Kd.freshB (g := gb105) (o := .cells #[.int .i64 0, .int .i64 (wrap64 (x10_1 + 1)), .int .i64 5, .int .i64 (wrap64 (x106003_1 + (wrap64 ((wrap64 ((wrap64 (Int.tdiv (wrap64 ((rd_T53 l0 x10_1).f0)) 200)) + (wrap64 (Int.tmod ((rd_T53 l0 x10_1).f1) 9)))) + (wrap64 ((rd_T53 l0 x10_1).f2)))))), .int .i64 (wrap64 (x106004_1 + (wrap64 ((wrap64 (Int.tdiv (wrap64 ((rd_T53 l0 x10_1).f0)) 200)) + (wrap64 (Int.tmod ((rd_T53 l0 x10_1).f1) 9)))))), .int .i64 (wrap64 (x106005_1 + (wrap64 (Int.tdiv (wrap64 ((rd_T53 l0 x10_1).f0)) 200)))), .int .u64 0] 28 (0, 0)) (bD BK105) k_ hk)); (case aO => exact (rD HO_8)); (case aS => exact (below_size (sD HB))); (case aL => have := LMc16.out; omega); intro v120 w29 ho hb hg hat; rw [← Ny119.out] at ho; have HO121 := aM (ho); replace BK105 := aM (blk_grown (g := gb105) (o := .cells #[.int .i64 0, .int .i64 (wrap64 (x10_1 + 1)), .int .i64 5, .int .i64 (wrap64 (x106003_1 + (wrap64 ((wrap64 ((wrap64 (Int.tdiv (wrap64 ((rd_T53 l0 x10_1).f0)) 200)) + (wrap64 (Int.tmod ((rd_T53 l0 x10_1).f1) 9)))) + (wrap64 ((rd_T53 l0 x10_1).f2)))))), .int .i64 (wrap64 (x106004_1 + (wrap64 ((wrap64 (Int.tdiv (wrap64 ((rd_T53 l0 x10_1).f0)) 200)) + (wrap64 (Int.tmod ((rd_T53 l0 x10_1).f1) 9)))))), .int .i64 (wrap64 (x106005_1 + (wrap64 (Int.tdiv (wrap64 ((rd_T53 l0 x10_1).f0)) 200)))), .int .u64 0] 28 (0, 0)) (bD BK105) hg (Kd.R_away HO_8.out (fun _ hk => hk))); replace HB := aM (hb); clear HO_8; clear ho hb hg hat))
        go_roundg k1
        case measure => have := HK1.out; omega
        case rel => exact ⟨(y119), (wrap64 (x10_1 + 1)), (wrap64 (x10_1 + 1)), (wrap64 (x106003_1 + (wrap64 ((wrap64 ((wrap64 (Int.tdiv (wrap64 ((rd_T53 l0 x10_1).f0)) 200)) + (wrap64 (Int.tmod ((rd_T53 l0 x10_1).f1) 9)))) + (wrap64 ((rd_T53 l0 x10_1).f2)))))), (wrap64 (x106004_1 + (wrap64 ((wrap64 (Int.tdiv (wrap64 ((rd_T53 l0 x10_1).f0)) 200)) + (wrap64 (Int.tmod ((rd_T53 l0 x10_1).f1) 9)))))), (wrap64 (x106005_1 + (wrap64 (Int.tdiv (wrap64 ((rd_T53 l0 x10_1).f0)) 200)))), (by first | rfl | (simp; done) | (simp [*]; done)), H', ⟨by have := HK1.out; omega⟩, ⟨by (with_reducible repeat (first | apply Kd.R_alloc | apply Kd.R_drewN | apply Kd.R_drew)); exact HO121.out⟩, ⟨by exact bD BK105⟩, ⟨sD HB⟩⟩
       ·rw [if_neg c16] at H
        exact absurd H (by simp)
      ·rw [if_neg c14] at H
       exact absurd H (by simp)
     ·rw [if_neg c13] at H
      have c13b0 : decide (x10_1 < 20) = false := decide_eq_false c13
      clear c13; have H' := aM H; clear H
      go_wp2
      go_meet
      case rel => exact ⟨_, (x8_1), (x106001_1), (x106003_1), (x106004_1), (x106005_1), H', ⟨by have := HK1.out; first | omega | exact Nat.le_refl _⟩, ⟨by (with_reducible repeat (first | apply Kd.R_alloc | apply Kd.R_drewN | apply Kd.R_drew)); exact HO_8.out⟩, ⟨by exact bD BK105⟩, ⟨sD HB⟩⟩
    ·rw [if_neg c12] at H
     have c12b0 : decide (x10_1 < (l0.length : Int)) = false := decide_eq_false c12
     clear c12
     (first | rw [c12b0] | (simp only [i64_w, i32_w]; rw [c12b0]) | skip)
     have H' := aM H; clear H
     go_wp2
     go_meet
     case rel => exact ⟨_, (x8_1), (x106001_1), (x106003_1), (x106004_1), (x106005_1), H', ⟨by have := HK1.out; first | omega | exact Nat.le_refl _⟩, ⟨by (with_reducible repeat (first | apply Kd.R_alloc | apply Kd.R_drewN | apply Kd.R_drew)); exact HO_8.out⟩, ⟨by exact bD BK105⟩, ⟨sD HB⟩⟩
 case rest =>
  clear HC6
  try clear c1
  try clear p1
  try clear q1
  try clear hx1
  try clear p2
  try clear p6
  try clear p10
  try clear q10
  try clear hx10
  try clear p11
  try clear q11
  try clear hx11
  try clear c12
  try clear c12b0
  try clear c13
  try clear c13b0
  try clear c14
  try clear c16
  try clear hcz27_0
  try clear hcz27_1
  try clear hcz27_2
  try clear hcz27_3
  try clear hcz27_4
  try clear hcz27_5
  try clear hcz27_6
  try clear hfz27_0
  try clear hfz27_1
  try clear hfz27_2
  try clear hfz27_3
  try clear hfz27_4
  try clear hfz27_5
  try clear hfz27_6
  try clear hx107_0
  try clear hx107_1
  try clear hx107_2
  try clear hx108_0
  try clear hx108_1
  try clear hx108_2
  try clear hx109_0
  try clear hx109_1
  try clear hx109_2
  try clear hx110_0
  try clear hx110_1
  try clear hx110_2
  try clear hx111_0
  try clear hx111_1
  try clear hx111_2
  try clear p107
  try clear p108
  try clear p109
  try clear p110
  try clear p111
  try clear q107
  try clear q108
  try clear q109
  try clear q110
  try clear q111
  obtain ⟨kq, x8_5, x106001_5, x106003_5, x106004_5, x106005_5, HA, HJ5, HO_8, BK105, HB⟩ := hcut
  cases kq with
  | zero => exact absurd HA.out (by simp [parolelaw32_FieldLost.j1])
  | succ kj5 =>
   have H := HA.out; clear HA
   simp only [parolelaw32_FieldLost.j1] at H
   obtain ⟨y122, hy122⟩ : ∃ y_ : List (S28), y_ = (([] : List (S28))) := ⟨_, rfl⟩
   replace H : (parolelaw32_FieldLost.l1 kj5 a1 a2 true x8_5 y122 0 0 0 0 0 0 0 0) = some r := by first | (rw [hy122]; with_reducible exact H) | (have H2_ := (Option.bind_some _ _).symm.trans H; rw [hy122]; with_reducible exact H2_) | (have H2_ := (Option.bind_some _ _).symm.trans H; with_reducible exact H2_) | with_reducible exact H | (rw [hy122]; exact H) | exact H
   have Ny122 := aM hy122; clear hy122; have H' := aM H; clear H
   go_wp2_with (first | ((with_reducible refine gate_dst (N := 95) rfl ?_); (try (refine gate_guard (by rfl) ?_; dsimp only)); refine Kd.R_lit k28 _ 28 ?hg (N := 95) ?hd (xs := ([] : List (S28))) (inner := []) (ok := fun _ => True) (okp := fun _ => True) ?hr ?hp (fun _ hk => hk) trivial (Below.refl _ _) (Nat.le_refl _) (by simp) ?_; (case hd => rfl); (case hg => rfl); (case hr => first | (go_simp; done) | (go_simp; rfl)); (case hp => exact (Reps.none _ _)); intro v123 w30 ho31 hb hg_ hnew_; clear hg_ hnew_; (first | rw [← Ny122.out] at ho31 | (simp only [Int.reduceToNat] at ho31; rw [← Ny122.out] at ho31)); have HO124 := aM (Kd.R_lower (Kd.R_newB (Kd.R_new' ho31 (Kd.R_lt (rD HO_8))) (g := gb105) (o := .cells #[.int .i64 0, .int .i64 x106001_5, .int .i64 5, .int .i64 x106003_5, .int .i64 x106004_5, .int .i64 x106005_5, .int .u64 0] 28 (0, 0)) (bD BK105)) (below_size (sD HB))); replace HO_8 := aM (Kd.R_elder' (rD HO_8) (Kd.R_base ho31) hb); replace BK105 := bB BK105 hb; replace HB := sB HB hb; clear hb ho31) | ((with_reducible refine gate_dst (N := 12) rfl ?_); (try (refine gate_guard (by rfl) ?_; dsimp only)); refine bE (N := 12) (cs := #[.int .i64 0, .int .i64 0, .int .i64 0, .int .i64 0, .int .i64 0, .int .i64 0, .int .u64 0]) (t := 28) ?_; intro gb125 hg w32 hbox hb; have BK125 := aM (hbox); have GW125 := gE hg HB; have GE125 := gE hg HB; have NB105_125 := nL hg BK105; replace HO_8 := aM (Kd.R_below (Kd.R_elderB (rD HO_8) gb125 (Nat.le_of_eq hg.symm)) hb); replace HO124 := aM (Kd.R_below (Kd.R_elderB (rD HO124) gb125 (Nat.le_of_eq hg.symm)) hb); replace BK105 := bB BK105 hb; replace HB := sB HB hb; clear hb hbox hg; have hnb33 := NB105_125.out.symm; have hnc33 := NB105_125.out; obtain ⟨hcz34_0, hcz34_1, hcz34_2, hcz34_3, hcz34_4, hcz34_5, hcz34_6, hfz34_0, hfz34_1, hfz34_2, hfz34_3, hfz34_4, hfz34_5, hfz34_6⟩ := cZ7 BK125))
   go_loopg [11, 13] kj5 (fun kq v11 v13 w' => ∃ (x11_2 : List (S28)) (x13_2 : Int) (x126000_2 : Int) (x126001_2 : Int) (x126002_2 : Int) (x126003_2 : Int) (x126004_2 : Int) (x126005_2 : Int) (x126006_2 : Int), v13 = .int .i64 x13_2 ∧ Aside0 (parolelaw32_FieldLost.l1 kq a1 a2 true x8_5 x11_2 x13_2 x126000_2 x126001_2 x126002_2 x126003_2 x126004_2 x126005_2 x126006_2 = some r) ∧ Aside0 (kq ≤ kj5) ∧ Aside0 (Kd.R k28 28 w' w.heap.size (fun k_ => some k_ ≠ (v11 : Value).ownBlock ∧ k_ ≠ gb105 ∧ k_ ≠ gb125) u8 x8_5) ∧ Aside0 (Kd.R k28 28 w' w.heap.size (fun k_ => some k_ ≠ (u8 : Value).ownBlock ∧ k_ ≠ gb105 ∧ k_ ≠ gb125) v11 x11_2) ∧ Aside0 (w'.heap[gb105]? = some (.cells #[.int .i64 0, .int .i64 x106001_5, .int .i64 5, .int .i64 x106003_5, .int .i64 x106004_5, .int .i64 x106005_5, .int .u64 0] 28 (0, 0))) ∧ Aside0 (w'.heap[gb125]? = some (.cells #[.int .i64 x126000_2, .int .i64 x126001_2, .int .i64 x126002_2, .int .i64 x126003_2, .int .i64 x126004_2, .int .i64 x126005_2, .int .u64 x126006_2] 28 (0, 0))) ∧ Aside0 (Below w.heap.size w w'))
   case atStart => exact ⟨(y122), (0), (0), (0), (0), (0), (0), (0), (0), (by first | rfl | (simp; done) | (simp [*]; done)), H', ⟨Nat.le_refl _⟩, ⟨by (with_reducible repeat (first | apply Kd.R_alloc | apply Kd.R_drewN | apply Kd.R_drew)); exact Kd.R_mono (Kd.R_far (p := ⟨gb125, 6, none⟩) (Kd.R_far (p := ⟨gb125, 5, none⟩) (Kd.R_far (p := ⟨gb125, 4, none⟩) (Kd.R_far (p := ⟨gb125, 3, none⟩) (Kd.R_far (p := ⟨gb125, 2, none⟩) (Kd.R_far (p := ⟨gb125, 1, none⟩) (Kd.R_far (p := ⟨gb125, 0, none⟩) (Kd.R_mono HO_8.out (fun k_ hk => (⟨hk, hk.2⟩ : _ ∧ k_ ≠ gb125))) (fun _ hk => hk.2) (.int .i64 0)) (fun _ hk => hk.2) (.int .i64 0)) (fun _ hk => hk.2) (.int .i64 0)) (fun _ hk => hk.2) (.int .i64 0)) (fun _ hk => hk.2) (.int .i64 0)) (fun _ hk => hk.2) (.int .i64 0)) (fun _ hk => hk.2) (.int .u64 0)) (fun _ hk => ⟨hk.1.1.2, ⟨hk.1.1.1, hk.1.2⟩⟩)⟩, ⟨by (with_reducible repeat (first | apply Kd.R_alloc | apply Kd.R_drewN | apply Kd.R_drew)); exact Kd.R_mono (Kd.R_far (p := ⟨gb125, 6, none⟩) (Kd.R_far (p := ⟨gb125, 5, none⟩) (Kd.R_far (p := ⟨gb125, 4, none⟩) (Kd.R_far (p := ⟨gb125, 3, none⟩) (Kd.R_far (p := ⟨gb125, 2, none⟩) (Kd.R_far (p := ⟨gb125, 1, none⟩) (Kd.R_far (p := ⟨gb125, 0, none⟩) (Kd.R_mono HO124.out (fun k_ hk => (⟨hk, hk.2⟩ : _ ∧ k_ ≠ gb125))) (fun _ hk => hk.2) (.int .i64 0)) (fun _ hk => hk.2) (.int .i64 0)) (fun _ hk => hk.2) (.int .i64 0)) (fun _ hk => hk.2) (.int .i64 0)) (fun _ hk => hk.2) (.int .i64 0)) (fun _ hk => hk.2) (.int .i64 0)) (fun _ hk => hk.2) (.int .u64 0)) (fun _ hk => ⟨hk.1.1.1.2, ⟨hk.1.1.2, hk.1.2⟩⟩)⟩, ⟨bF BK105⟩, ⟨by refine bM ?_; refine blk_put (cs := #[.int .i64 0, .int .i64 0, .int .i64 0, .int .i64 0, .int .i64 0, .int .i64 0, .int .u64 0]) ?_ 6 _ rfl; refine bM ?_; refine blk_put (cs := #[.int .i64 0, .int .i64 0, .int .i64 0, .int .i64 0, .int .i64 0, .int .i64 0, .int .u64 0]) ?_ 5 _ rfl; refine bM ?_; refine blk_put (cs := #[.int .i64 0, .int .i64 0, .int .i64 0, .int .i64 0, .int .i64 0, .int .i64 0, .int .u64 0]) ?_ 4 _ rfl; refine bM ?_; refine blk_put (cs := #[.int .i64 0, .int .i64 0, .int .i64 0, .int .i64 0, .int .i64 0, .int .i64 0, .int .u64 0]) ?_ 3 _ rfl; refine bM ?_; refine blk_put (cs := #[.int .i64 0, .int .i64 0, .int .i64 0, .int .i64 0, .int .i64 0, .int .i64 0, .int .u64 0]) ?_ 2 _ rfl; refine bM ?_; refine blk_put (cs := #[.int .i64 0, .int .i64 0, .int .i64 0, .int .i64 0, .int .i64 0, .int .i64 0, .int .u64 0]) ?_ 1 _ rfl; refine bM ?_; refine blk_put (cs := #[.int .i64 0, .int .i64 0, .int .i64 0, .int .i64 0, .int .i64 0, .int .i64 0, .int .u64 0]) ?_ 0 _ rfl; exact bD BK125⟩, ⟨sD HB⟩⟩
   case round =>
    clear H'
    try clear c1
    try clear p1
    try clear q1
    try clear hx1
    try clear p2
    try clear c3
    try clear p6
    try clear p10
    try clear q10
    try clear hx10
    try clear p11
    try clear q11
    try clear hx11
    try clear c12
    try clear c12b0
    try clear c13
    try clear c13b0
    try clear c14
    try clear c16
    try clear c33
    try clear hcz27_0
    try clear hcz27_1
    try clear hcz27_2
    try clear hcz27_3
    try clear hcz27_4
    try clear hcz27_5
    try clear hcz27_6
    try clear hcz34_0
    try clear hcz34_1
    try clear hcz34_2
    try clear hcz34_3
    try clear hcz34_4
    try clear hcz34_5
    try clear hcz34_6
    try clear hfz27_0
    try clear hfz27_1
    try clear hfz27_2
    try clear hfz27_3
    try clear hfz27_4
    try clear hfz27_5
    try clear hfz27_6
    try clear hfz34_0
    try clear hfz34_1
    try clear hfz34_2
    try clear hfz34_3
    try clear hfz34_4
    try clear hfz34_5
    try clear hfz34_6
    try clear hx107_0
    try clear hx107_1
    try clear hx107_2
    try clear hx108_0
    try clear hx108_1
    try clear hx108_2
    try clear hx109_0
    try clear hx109_1
    try clear hx109_2
    try clear hx110_0
    try clear hx110_1
    try clear hx110_2
    try clear hx111_0
    try clear hx111_1
    try clear hx111_2
    try clear p1
    try clear p10
    try clear p107
    try clear p108
    try clear p109
    try clear p11
    try clear p110
    try clear p111
    try clear p2
    try clear p6
    try clear q1
    try clear q10
    try clear q107
    try clear q108
    try clear q109
    try clear q11
    try clear q110
    try clear q111
    obtain ⟨x11_2, x13_2, x126000_2, x126001_2, x126002_2, x126003_2, x126004_2, x126005_2, x126006_2, rfl, HA, HK2, HO_8, HO_11, BK105, BK125, HB⟩ := hrel
    cases gk with
    | zero => exact absurd HA.out (by simp [parolelaw32_FieldLost.l1])
    | succ k2 =>
     have H := HA.out; clear HA
     simp only [parolelaw32_FieldLost.l1] at H
     by_cases c35 : x13_2 < (x8_5.length : Int)
     ·rw [if_pos c35] at H
      have c35b0 : decide (x13_2 < (x8_5.length : Int)) = true := decide_eq_true c35
      clear c35
      obtain ⟨ji36, hji36⟩ : ∃ j_ : Int, (IntKind.u64.wrap (x13_2)) = j_ := ⟨_, rfl⟩
      replace H : (if 0 ≤ (ji36) then (if (Go.bits .and .u32 (shr .u32 a1 (ji36)) 1) = 0 then (if 0 ≤ x13_2 then ((some (([(⟨(rd_T28 x8_5 x13_2).f0, (rd_T28 x8_5 x13_2).f1, (rd_T28 x8_5 x13_2).f2, (rd_T28 x8_5 x13_2).f3, (rd_T28 x8_5 x13_2).f4, (rd_T28 x8_5 x13_2).f5, (rd_T28 x8_5 x13_2).f6⟩ : S28)] : List (S28)) : List (S28))).bind fun y127 => (if y127.length + x11_2.length < 2513169434916 then (parolelaw32_FieldLost.l1 k2 a1 a2 true x8_5 (y127 ++ x11_2) (wrap64 (x13_2 + 1)) ((rd_T28 x8_5 x13_2).f0) ((rd_T28 x8_5 x13_2).f1) ((rd_T28 x8_5 x13_2).f2) ((rd_T28 x8_5 x13_2).f3) ((rd_T28 x8_5 x13_2).f4) ((rd_T28 x8_5 x13_2).f5) ((rd_T28 x8_5 x13_2).f6)) else (none))) else (none)) else (parolelaw32_FieldLost.l1 k2 a1 a2 true x8_5 x11_2 (wrap64 (x13_2 + 1)) x126000_2 x126001_2 x126002_2 x126003_2 x126004_2 x126005_2 x126006_2)) else (none)) = some r := by first | (rw [hji36] at H; exact H) | (simp only [hji36] at H ⊢; exact H)
      by_cases c37 : 0 ≤ (ji36)
      ·rw [if_pos c37] at H
       have c37b0 := eq_true c37
       have c37b1 : decide (0 ≤ (ji36)) = true := decide_eq_true c37
       clear c37
       obtain ⟨ji38, hji38⟩ : ∃ j_ : Int, (shr .u32 a1 (ji36)) = j_ := ⟨_, rfl⟩
       replace H : (if (Go.bits .and .u32 (ji38) 1) = 0 then (if 0 ≤ x13_2 then ((some (([(⟨(rd_T28 x8_5 x13_2).f0, (rd_T28 x8_5 x13_2).f1, (rd_T28 x8_5 x13_2).f2, (rd_T28 x8_5 x13_2).f3, (rd_T28 x8_5 x13_2).f4, (rd_T28 x8_5 x13_2).f5, (rd_T28 x8_5 x13_2).f6⟩ : S28)] : List (S28)) : List (S28))).bind fun y127 => (if y127.length + x11_2.length < 2513169434916 then (parolelaw32_FieldLost.l1 k2 a1 a2 true x8_5 (y127 ++ x11_2) (wrap64 (x13_2 + 1)) ((rd_T28 x8_5 x13_2).f0) ((rd_T28 x8_5 x13_2).f1) ((rd_T28 x8_5 x13_2).f2) ((rd_T28 x8_5 x13_2).f3) ((rd_T28 x8_5 x13_2).f4) ((rd_T28 x8_5 x13_2).f5) ((rd_T28 x8_5 x13_2).f6)) else (none))) else (none)) else (parolelaw32_FieldLost.l1 k2 a1 a2 true x8_5 x11_2 (wrap64 (x13_2 + 1)) x126000_2 x126001_2 x126002_2 x126003_2 x126004_2 x126005_2 x126006_2)) = some r := by first | (rw [hji38] at H; exact H) | (simp only [hji38] at H ⊢; exact H)
       have hji38_ : (a1 / 2 ^ min (ji36).toNat 32) = ji38 := hji38
       have hji38z : (ji36) ≤ 32 → (a1 / 2 ^ (ji36).toNat) = ji38 := shr_small hji38
       by_cases c39 : (Go.bits .and .u32 (ji38) 1) = 0
       ·rw [if_pos c39] at H
        have c39b0 : ((Go.bits .and .u32 (ji38) 1) == 0) = true := beq_iff_eq.mpr c39
        have c39b1 : ((Go.bits .and .u32 (ji38) 1) != 0) = false := bne_eq_false_iff_eq.mpr c39
        clear c39
        by_cases c40 : 0 ≤ x13_2
        ·rw [if_pos c40] at H
         have c40b0 : decide (0 ≤ x13_2) = true := decide_eq_true c40
         clear c40
         obtain ⟨y127, hy127⟩ : ∃ y_ : List (S28), y_ = (([(⟨(rd_T28 x8_5 x13_2).f0, (rd_T28 x8_5 x13_2).f1, (rd_T28 x8_5 x13_2).f2, (rd_T28 x8_5 x13_2).f3, (rd_T28 x8_5 x13_2).f4, (rd_T28 x8_5 x13_2).f5, (rd_T28 x8_5 x13_2).f6⟩ : S28)] : List (S28))) := ⟨_, rfl⟩
         replace H : (if y127.length + x11_2.length < 2513169434916 then (parolelaw32_FieldLost.l1 k2 a1 a2 true x8_5 (y127 ++ x11_2) (wrap64 (x13_2 + 1)) ((rd_T28 x8_5 x13_2).f0) ((rd_T28 x8_5 x13_2).f1) ((rd_T28 x8_5 x13_2).f2) ((rd_T28 x8_5 x13_2).f3) ((rd_T28 x8_5 x13_2).f4) ((rd_T28 x8_5 x13_2).f5) ((rd_T28 x8_5 x13_2).f6)) else (none)) = some r := by first | (rw [hy127]; with_reducible exact H) | (have H2_ := (Option.bind_some _ _).symm.trans H; rw [hy127]; with_reducible exact H2_) | (have H2_ := (Option.bind_some _ _).symm.trans H; with_reducible exact H2_) | with_reducible exact H | (rw [hy127]; exact H) | exact H
         have Ny127 := aM hy127; clear hy127
         by_cases c41 : y127.length + x11_2.length < 2513169434916
         ·rw [if_pos c41] at H
          have LMc41 := aM c41; clear c41
          obtain ⟨y130, hy130⟩ : ∃ y_ : List (S28), y_ = (y127 ++ x11_2) := ⟨_, rfl⟩
          replace H : (parolelaw32_FieldLost.l1 k2 a1 a2 true x8_5 y130 (wrap64 (x13_2 + 1)) ((rd_T28 x8_5 x13_2).f0) ((rd_T28 x8_5 x13_2).f1) ((rd_T28 x8_5 x13_2).f2) ((rd_T28 x8_5 x13_2).f3) ((rd_T28 x8_5 x13_2).f4) ((rd_T28 x8_5 x13_2).f5) ((rd_T28 x8_5 x13_2).f6)) = some r := by first | (rw [hy130]; with_reducible exact H) | (have H2_ := (Option.bind_some _ _).symm.trans H; rw [hy130]; with_reducible exact H2_) | (have H2_ := (Option.bind_some _ _).symm.trans H; with_reducible exact H2_) | with_reducible exact H | (rw [hy130]; exact H) | exact H
          have Ny130 := aM hy130; clear hy130; have H' := aM H; clear H
          obtain ⟨Ao42, co42, eo42⟩ := Kd.R_slice HO_8.out
          subst eo42
          have p126 : 0 ≤ (x13_2 : Int) := of_decide_eq_true (by first | (with_reducible assumption) | assumption)
          have q126 : x13_2 < (x8_5.length : Int) := of_decide_eq_true (by first | (with_reducible assumption) | assumption)
          obtain ⟨ad126, e126, hx126_0, hx126_1, hx126_2, hx126_3, hx126_4, hx126_5, hx126_6⟩ := at_T28 (Kd.R_reads' HO_8.out).2.2 x13_2 p126 q126
          cases e126
          replace p126 := eq_true p126; replace q126 := eq_true q126
          go_wp2_with (first | ((with_reducible refine gate_dst (N := 113) rfl ?_); (try (refine gate_guard (by rfl) ?_; dsimp only)); refine Kd.R_lit k28 _ 28 ?hg (N := 113) ?hd (xs := ([(⟨(rd_T28 x8_5 x13_2).f0, (rd_T28 x8_5 x13_2).f1, (rd_T28 x8_5 x13_2).f2, (rd_T28 x8_5 x13_2).f3, (rd_T28 x8_5 x13_2).f4, (rd_T28 x8_5 x13_2).f5, (rd_T28 x8_5 x13_2).f6⟩ : S28)] : List (S28))) (inner := [.int .i64 ((rd_T28 x8_5 x13_2).f0), .int .i64 ((rd_T28 x8_5 x13_2).f1), .int .i64 ((rd_T28 x8_5 x13_2).f2), .int .i64 ((rd_T28 x8_5 x13_2).f3), .int .i64 ((rd_T28 x8_5 x13_2).f4), .int .i64 ((rd_T28 x8_5 x13_2).f5), .int .u64 ((rd_T28 x8_5 x13_2).f6)]) (ok := fun _ => True) (okp := fun _ => True) ?hr ?hp (fun _ hk => hk) trivial (Below.refl _ _) (Nat.le_refl _) (by simp) ?_; (case hd => rfl); (case hg => rfl); (case hr => first | (go_simp; done) | (go_simp; rfl)); (case hp => exact (Reps.c7 (show Kd.M k28 _ _ _ (⟨(rd_T28 x8_5 x13_2).f0, (rd_T28 x8_5 x13_2).f1, (rd_T28 x8_5 x13_2).f2, (rd_T28 x8_5 x13_2).f3, (rd_T28 x8_5 x13_2).f4, (rd_T28 x8_5 x13_2).f5, (rd_T28 x8_5 x13_2).f6⟩ : S28) [.int .i64 ((rd_T28 x8_5 x13_2).f0), .int .i64 ((rd_T28 x8_5 x13_2).f1), .int .i64 ((rd_T28 x8_5 x13_2).f2), .int .i64 ((rd_T28 x8_5 x13_2).f3), .int .i64 ((rd_T28 x8_5 x13_2).f4), .int .i64 ((rd_T28 x8_5 x13_2).f5), .int .u64 ((rd_T28 x8_5 x13_2).f6)] from (k28_mkM _ _ _ (⟨(rd_T28 x8_5 x13_2).f0, (rd_T28 x8_5 x13_2).f1, (rd_T28 x8_5 x13_2).f2, (rd_T28 x8_5 x13_2).f3, (rd_T28 x8_5 x13_2).f4, (rd_T28 x8_5 x13_2).f5, (rd_T28 x8_5 x13_2).f6⟩ : S28) )) (Reps.none _ _))); intro v128 w43 ho44 hb hg_ hnew_; clear hg_ hnew_; (first | rw [← Ny127.out] at ho44 | (simp only [Int.reduceToNat] at ho44; rw [← Ny127.out] at ho44)); have HO129 := aM (Kd.R_lower (Kd.R_newB (Kd.R_newB (Kd.R_new' (Kd.R_new' ho44 (Kd.R_lt (rD HO_8))) (Kd.R_lt (rD HO_11))) (g := gb105) (o := .cells #[.int .i64 0, .int .i64 x106001_5, .int .i64 5, .int .i64 x106003_5, .int .i64 x106004_5, .int .i64 x106005_5, .int .u64 0] 28 (0, 0)) (bD BK105)) (g := gb125) (o := .cells #[.int .i64 x126000_2, .int .i64 x126001_2, .int .i64 x126002_2, .int .i64 x126003_2, .int .i64 x126004_2, .int .i64 x126005_2, .int .u64 x126006_2] 28 (0, 0)) (bD BK125)) (below_size (sD HB))); replace HO_8 := aM (Kd.R_elder' (rD HO_8) (Kd.R_base ho44) hb); replace HO_11 := aM (Kd.R_elder' (rD HO_11) (Kd.R_base ho44) hb); replace BK105 := bB BK105 hb; replace BK125 := bB BK125 hb; replace HB := sB HB hb; clear hb ho44; obtain ⟨Ao46, co46, eo46⟩ := Kd.R_slice HO_11.out; subst eo46) | ((with_reducible refine gate_builtin (b := .append) (xs := #[.tmp 113, .tmp 114]) rfl ?_); (try (refine gate_guard (by rfl) ?_; dsimp only)); at_builtin; refine Kd.R_append_rows k28 (w0 := w) w.heap.size rfl (.tmp 113) (.tmp 114) 31 28 (.agg #[(.int .i64 0), (.int .i64 0), (.int .i64 0), (.int .i64 0), (.int .i64 0), (.int .i64 0), (.int .u64 0)]) 56 rfl Try.underlying31 info28 rfl (by decide) (by omega) v128 y127 x11_2 _ _ _ (fun k_ => some k_ ≠ (.slice (some ad126) x8_5.length co42 : Value).ownBlock ∧ some k_ ≠ (.slice Ao46 x11_2.length co46 : Value).ownBlock ∧ k_ ≠ gb105 ∧ k_ ≠ gb125) (fun _ => False) rfl rfl ?aO ?aR (fun _ _ h => h) (fun _ h => h.elim) ?aF ?aB ?aS ?aL ?_; (case aR => repeat (first | exact (Kd.R_reads' HO_11.out).2.2 | (with_reducible refine Kd.C_alloc ?_ _) | (with_reducible refine Kd.C_drewN ?_ _) | (with_reducible refine Kd.C_drew ?_))); (case aB => exact (sD HB)); (case aF => exact (fun k_ hk => ⟨Kd.fresh' (Kd.R_lt (rD HO_8)) k_ hk, Kd.fresh' (Kd.R_lt (rD HO_11)) k_ hk, Kd.freshB (g := gb105) (o := .cells #[.int .i64 0, .int .i64 x106001_5, .int .i64 5, .int .i64 x106003_5, .int .i64 x106004_5, .int .i64 x106005_5, .int .u64 0] 28 (0, 0)) (bD BK105) k_ hk, Kd.freshB (g := gb125) (o := .cells #[.int .i64 x126000_2, .int .i64 x126001_2, .int .i64 x126002_2, .int .i64 x126003_2, .int .i64 x126004_2, .int .i64 x126005_2, .int .u64 x126006_2] 28 (0, 0)) (bD BK125) k_ hk⟩)); (case aO => exact (rD ⟨Kd.R_mono HO129.out (fun _ hk => ⟨hk.1.1.1.2, ⟨hk.1.1.2, ⟨hk.1.2, hk.2⟩⟩⟩)⟩)); (case aS => exact (below_size (sD HB))); (case aL => have := LMc41.out; omega); intro v131 w45 ho hb hg hat; rw [← Ny130.out] at ho; have HO132 := aM (ho); replace HO_8 := aM (Kd.R_after (ok := (fun k_ => some k_ ≠ (.slice Ao46 x11_2.length co46 : Value).ownBlock ∧ k_ ≠ gb105 ∧ k_ ≠ gb125)) (rD HO_8) hg hat); replace HO_11 := aM (Kd.R_after (ok := (fun k_ => some k_ ≠ (.slice (some ad126) x8_5.length co42 : Value).ownBlock ∧ k_ ≠ gb105 ∧ k_ ≠ gb125)) (rD HO_11) hg hat); replace BK105 := aM (blk_grown (g := gb105) (o := .cells #[.int .i64 0, .int .i64 x106001_5, .int .i64 5, .int .i64 x106003_5, .int .i64 x106004_5, .int .i64 x106005_5, .int .u64 0] 28 (0, 0)) (bD BK105) hg (Kd.R_away HO129.out (fun _ hk => hk.1.2))); replace BK125 := aM (blk_grown (g := gb125) (o := .cells #[.int .i64 x126000_2, .int .i64 x126001_2, .int .i64 x126002_2, .int .i64 x126003_2, .int .i64 x126004_2, .int .i64 x126005_2, .int .u64 x126006_2] 28 (0, 0)) (bD BK125) hg (Kd.R_away HO129.out (fun _ hk => hk.2))); replace HB := aM (hb); clear HO129; clear ho hb hg hat; have p133 : 0 ≤ (x13_2 : Int) := of_decide_eq_true (by first | (with_reducible assumption) | assumption); have q133 : x13_2 < (x8_5.length : Int) := of_decide_eq_true (by first | (with_reducible assumption) | assumption); obtain ⟨ad133, e133, hx133_0, hx133_1, hx133_2, hx133_3, hx133_4, hx133_5, hx133_6⟩ := at_T28 (Kd.R_reads' HO_8.out).2.2 x13_2 p133 q133; obtain rfl : ad126 = ad133 := (by injection e133); replace p133 := eq_true p133; replace q133 := eq_true q133; have hnb47 := NB105_125.out.symm; have hnc47 := NB105_125.out; obtain ⟨hcz48_0, hcz48_1, hcz48_2, hcz48_3, hcz48_4, hcz48_5, hcz48_6, hfz48_0, hfz48_1, hfz48_2, hfz48_3, hfz48_4, hfz48_5, hfz48_6⟩ := cZ7 BK125))
          go_roundg k2
          case measure => have := HJ5.out; have := HK2.out; omega
          case rel => exact ⟨(y130), (wrap64 (x13_2 + 1)), ((rd_T28 x8_5 x13_2).f0), ((rd_T28 x8_5 x13_2).f1), ((rd_T28 x8_5 x13_2).f2), ((rd_T28 x8_5 x13_2).f3), ((rd_T28 x8_5 x13_2).f4), ((rd_T28 x8_5 x13_2).f5), ((rd_T28 x8_5 x13_2).f6), (by first | rfl | (simp; done) | (simp [*]; done)), H', ⟨by have := HJ5.out; have := HK2.out; omega⟩, ⟨by (with_reducible repeat (first | apply Kd.R_alloc | apply Kd.R_drewN | apply Kd.R_drew)); exact Kd.R_mono (Kd.R_far (p := ⟨gb125, 6, none⟩) (Kd.R_far (p := ⟨gb125, 5, none⟩) (Kd.R_far (p := ⟨gb125, 4, none⟩) (Kd.R_far (p := ⟨gb125, 3, none⟩) (Kd.R_far (p := ⟨gb125, 2, none⟩) (Kd.R_far (p := ⟨gb125, 1, none⟩) (Kd.R_far (p := ⟨gb125, 0, none⟩) (Kd.R_mono HO_8.out (fun k_ hk => (⟨hk, hk.1.2.2⟩ : _ ∧ k_ ≠ gb125))) (fun _ hk => hk.2) (.int .i64 ((rd_T28 x8_5 x13_2).f0))) (fun _ hk => hk.2) (.int .i64 ((rd_T28 x8_5 x13_2).f1))) (fun _ hk => hk.2) (.int .i64 ((rd_T28 x8_5 x13_2).f2))) (fun _ hk => hk.2) (.int .i64 ((rd_T28 x8_5 x13_2).f3))) (fun _ hk => hk.2) (.int .i64 ((rd_T28 x8_5 x13_2).f4))) (fun _ hk => hk.2) (.int .i64 ((rd_T28 x8_5 x13_2).f5))) (fun _ hk => hk.2) (.int .u64 ((rd_T28 x8_5 x13_2).f6))) (fun _ hk => ⟨hk.1.2, ⟨hk.1.1.2.1, hk.1.1.2.2⟩⟩)⟩, ⟨by (with_reducible repeat (first | apply Kd.R_alloc | apply Kd.R_drewN | apply Kd.R_drew)); exact Kd.R_mono (Kd.R_far (p := ⟨gb125, 6, none⟩) (Kd.R_far (p := ⟨gb125, 5, none⟩) (Kd.R_far (p := ⟨gb125, 4, none⟩) (Kd.R_far (p := ⟨gb125, 3, none⟩) (Kd.R_far (p := ⟨gb125, 2, none⟩) (Kd.R_far (p := ⟨gb125, 1, none⟩) (Kd.R_far (p := ⟨gb125, 0, none⟩) (Kd.R_mono HO132.out (fun k_ hk => (⟨hk, hk.2.2.2⟩ : _ ∧ k_ ≠ gb125))) (fun _ hk => hk.2) (.int .i64 ((rd_T28 x8_5 x13_2).f0))) (fun _ hk => hk.2) (.int .i64 ((rd_T28 x8_5 x13_2).f1))) (fun _ hk => hk.2) (.int .i64 ((rd_T28 x8_5 x13_2).f2))) (fun _ hk => hk.2) (.int .i64 ((rd_T28 x8_5 x13_2).f3))) (fun _ hk => hk.2) (.int .i64 ((rd_T28 x8_5 x13_2).f4))) (fun _ hk => hk.2) (.int .i64 ((rd_T28 x8_5 x13_2).f5))) (fun _ hk => hk.2) (.int .u64 ((rd_T28 x8_5 x13_2).f6))) (fun _ hk => ⟨hk.1.1, ⟨hk.1.2.2.1, hk.1.2.2.2⟩⟩)⟩, ⟨bF BK105⟩, ⟨by refine bM ?_; refine blk_put (cs := #[.int .i64 ((rd_T28 x8_5 x13_2).f0), .int .i64 ((rd_T28 x8_5 x13_2).f1), .int .i64 ((rd_T28 x8_5 x13_2).f2), .int .i64 ((rd_T28 x8_5 x13_2).f3), .int .i64 ((rd_T28 x8_5 x13_2).f4), .int .i64 ((rd_T28 x8_5 x13_2).f5), .int .u64 x126006_2]) ?_ 6 _ rfl; refine bM ?_; refine blk_put (cs := #[.int .i64 ((rd_T28 x8_5 x13_2).f0), .int .i64 ((rd_T28 x8_5 x13_2).f1), .int .i64 ((rd_T28 x8_5 x13_2).f2), .int .i64 ((rd_T28 x8_5 x13_2).f3), .int .i64 ((rd_T28 x8_5 x13_2).f4), .int .i64 x126005_2, .int .u64 x126006_2]) ?_ 5 _ rfl; refine bM ?_; refine blk_put (cs := #[.int .i64 ((rd_T28 x8_5 x13_2).f0), .int .i64 ((rd_T28 x8_5 x13_2).f1), .int .i64 ((rd_T28 x8_5 x13_2).f2), .int .i64 ((rd_T28 x8_5 x13_2).f3), .int .i64 x126004_2, .int .i64 x126005_2, .int .u64 x126006_2]) ?_ 4 _ rfl; refine bM ?_; refine blk_put (cs := #[.int .i64 ((rd_T28 x8_5 x13_2).f0), .int .i64 ((rd_T28 x8_5 x13_2).f1), .int .i64 ((rd_T28 x8_5 x13_2).f2), .int .i64 x126003_2, .int .i64 x126004_2, .int .i64 x126005_2, .int .u64 x126006_2]) ?_ 3 _ rfl; refine bM ?_; refine blk_put (cs := #[.int .i64 ((rd_T28 x8_5 x13_2).f0), .int .i64 ((rd_T28 x8_5 x13_2).f1), .int .i64 x126002_2, .int .i64 x126003_2, .int .i64 x126004_2, .int .i64 x126005_2, .int .u64 x126006_2]) ?_ 2 _ rfl; refine bM ?_; refine blk_put (cs := #[.int .i64 ((rd_T28 x8_5 x13_2).f0), .int .i64 x126001_2, .int .i64 x126002_2, .int .i64 x126003_2, .int .i64 x126004_2, .int .i64 x126005_2, .int .u64 x126006_2]) ?_ 1 _ rfl; refine bM ?_; refine blk_put (cs := #[.int .i64 x126000_2, .int .i64 x126001_2, .int .i64 x126002_2, .int .i64 x126003_2, .int .i64 x126004_2, .int .i64 x126005_2, .int .u64 x126006_2]) ?_ 0 _ rfl; exact bD BK125⟩, ⟨sD HB⟩⟩
         ·rw [if_neg c41] at H
          exact absurd H (by simp)
        ·rw [if_neg c40] at H
         exact absurd H (by simp)
       ·rw [if_neg c39] at H
        have c39b0 : ((Go.bits .and .u32 (ji38) 1) == 0) = false := beq_eq_false_iff_ne.mpr c39
        have c39b1 : ((Go.bits .and .u32 (ji38) 1) != 0) = true := bne_iff_ne.mpr c39
        have H' := aM H; clear H
        obtain ⟨Ao49, co49, eo49⟩ := Kd.R_slice HO_8.out
        subst eo49
        go_wp2
        go_roundg k2
        case measure => have := HJ5.out; have := HK2.out; omega
        case rel => exact ⟨(x11_2), (wrap64 (x13_2 + 1)), (x126000_2), (x126001_2), (x126002_2), (x126003_2), (x126004_2), (x126005_2), (x126006_2), (by first | rfl | (simp; done) | (simp [*]; done)), H', ⟨by have := HJ5.out; have := HK2.out; omega⟩, ⟨by (with_reducible repeat (first | apply Kd.R_alloc | apply Kd.R_drewN | apply Kd.R_drew)); exact HO_8.out⟩, ⟨by (with_reducible repeat (first | apply Kd.R_alloc | apply Kd.R_drewN | apply Kd.R_drew)); exact HO_11.out⟩, ⟨by exact bD BK105⟩, ⟨by exact bD BK125⟩, ⟨sD HB⟩⟩
      ·rw [if_neg c37] at H
       exact absurd H (by simp)
     ·rw [if_neg c35] at H
      have c35b0 : decide (x13_2 < (x8_5.length : Int)) = false := decide_eq_false c35
      clear c35
      by_cases c50 : (x11_2.length : Int) > 0
      ·rw [if_pos c50] at H
       have c50b0 : decide (0 < (x11_2.length : Int)) = true := decide_eq_true c50
       have c50b1 : decide (0 < x11_2.length) = true := decide_eq_true (by omega)
       clear c50
       by_cases c51 : true = true
       ·clear c51
        have H1 : ((field_Gather.f k2 (([a2] : List Int)) x11_2 5).bind fun bt138 => (some (bt138.1 == 5 && (bt138.2.1 == 1 && (bt138.2.2.1 == x126003_2 && (bt138.2.2.2.1 == x126004_2 && (bt138.2.2.2.2.1 == x126005_2 && (bt138.2.2.2.2.2 == (wrap64 (x126001_2 - (x11_2.length : Int))))))))))) = some r := by first | (rw [if_pos rfl] at H; exact H) | (rw [if_pos trivial] at H; exact H)
        clear H; have H := H1; clear H1
        obtain ⟨y135, hy135⟩ : ∃ y_ : List Int, y_ = (([a2] : List Int)) := ⟨_, rfl⟩
        replace H : ((field_Gather.f k2 y135 x11_2 5).bind fun bt138 => (some (bt138.1 == 5 && (bt138.2.1 == 1 && (bt138.2.2.1 == x126003_2 && (bt138.2.2.2.1 == x126004_2 && (bt138.2.2.2.2.1 == x126005_2 && (bt138.2.2.2.2.2 == (wrap64 (x126001_2 - (x11_2.length : Int))))))))))) = some r := by first | (rw [hy135]; with_reducible exact H) | (have H2_ := (Option.bind_some _ _).symm.trans H; rw [hy135]; with_reducible exact H2_) | (have H2_ := (Option.bind_some _ _).symm.trans H; with_reducible exact H2_) | with_reducible exact H | (rw [hy135]; exact H) | exact H
        have Ny135 := aM hy135; clear hy135; replace H := Option.bind_eq_some_iff.mp H
        obtain ⟨⟨t138, t139, t140, t141, t142, t143⟩, A520, H⟩ := H
        replace H : (some (t138 == 5 && (t139 == 1 && (t140 == x126003_2 && (t141 == x126004_2 && (t142 == x126005_2 && (t143 == (wrap64 (x126001_2 - (x11_2.length : Int)))))))))) = some r := H
        have A52 := aM A520; clear A520
        obtain rfl := Option.some.inj H
        obtain ⟨Ao53, co53, eo53⟩ := Kd.R_slice HO_8.out
        subst eo53
        try go_wp2_with (first | ((with_reducible refine gate_dst (N := 14) rfl ?_); (try (refine gate_guard (by rfl) ?_; dsimp only)); refine bE (N := 14) (cs := #[.int .i64 0, .int .i64 0, .int .i64 0, .int .i64 0, .int .i64 0, .int .i64 0]) (t := 40) ?_; intro gb134 hg w54 hbox hb; have BK134 := aM (hbox); have GW134 := gE hg HB; have GE134 := gE hg HB; have NB105_134 := nL hg BK105; have NB125_134 := nL hg BK125; replace HO_8 := rB HO_8 hb; replace HO_11 := rB HO_11 hb; replace BK105 := bB BK105 hb; replace BK125 := bB BK125 hb; replace HB := sB HB hb; clear hb hbox hg; have hnb55 := NB105_134.out.symm; have hnc55 := NB105_134.out; have hnb56 := NB125_134.out.symm; have hnc56 := NB125_134.out; obtain ⟨hcz57_0, hcz57_1, hcz57_2, hcz57_3, hcz57_4, hcz57_5, hfz57_0, hfz57_1, hfz57_2, hfz57_3, hfz57_4, hfz57_5⟩ := cZ6 BK134; obtain ⟨Ao58, co58, eo58⟩ := Kd.R_slice HO_11.out; subst eo58; have hnb59 := NB105_125.out.symm; have hnc59 := NB105_125.out; obtain ⟨hcz60_0, hcz60_1, hcz60_2, hcz60_3, hcz60_4, hcz60_5, hcz60_6, hfz60_0, hfz60_1, hfz60_2, hfz60_3, hfz60_4, hfz60_5, hfz60_6⟩ := cZ7 BK125))
        have n0_ : Aside0 (Kd.R k28 28 ((((((((((((w54.setCell ⟨gb134, 0, none⟩ (.int .i64 5)).setCell ⟨gb134, 1, none⟩ (.int .i64 0)).setCell ⟨gb134, 2, none⟩ (.int .i64 0)).setCell ⟨gb134, 3, none⟩ (.int .i64 0)).setCell ⟨gb134, 4, none⟩ (.int .i64 0)).setCell ⟨gb134, 5, none⟩ (.int .i64 0)).setCell ⟨gb134, 0, none⟩ (.int .i64 5)).setCell ⟨gb134, 1, none⟩ (.int .i64 1)).setCell ⟨gb134, 2, none⟩ (.int .i64 x126003_2)).setCell ⟨gb134, 3, none⟩ (.int .i64 x126004_2)).setCell ⟨gb134, 4, none⟩ (.int .i64 x126005_2)).setCell ⟨gb134, 5, none⟩ (.int .i64 (wrap64 (x126001_2 - (x11_2.length : Int))))) w.heap.size (fun k_ => some k_ ≠ (.slice Ao58 x11_2.length co58 : Value).ownBlock ∧ k_ ≠ gb105 ∧ k_ ≠ gb125) (.slice Ao53 x8_5.length co53) x8_5) := ⟨by (with_reducible repeat (first | apply Kd.R_alloc | apply Kd.R_drewN | apply Kd.R_drew)); exact Kd.R_mono (Kd.R_far (p := ⟨gb134, 5, none⟩) (Kd.R_far (p := ⟨gb134, 4, none⟩) (Kd.R_far (p := ⟨gb134, 3, none⟩) (Kd.R_far (p := ⟨gb134, 2, none⟩) (Kd.R_far (p := ⟨gb134, 1, none⟩) (Kd.R_far (p := ⟨gb134, 0, none⟩) (Kd.R_far (p := ⟨gb134, 5, none⟩) (Kd.R_far (p := ⟨gb134, 4, none⟩) (Kd.R_far (p := ⟨gb134, 3, none⟩) (Kd.R_far (p := ⟨gb134, 2, none⟩) (Kd.R_far (p := ⟨gb134, 1, none⟩) (Kd.R_far (p := ⟨gb134, 0, none⟩) (Kd.R_types HO_8.out BK134.out (by decide)) (fun _ hk => hk.2) (.int .i64 5)) (fun _ hk => hk.2) (.int .i64 0)) (fun _ hk => hk.2) (.int .i64 0)) (fun _ hk => hk.2) (.int .i64 0)) (fun _ hk => hk.2) (.int .i64 0)) (fun _ hk => hk.2) (.int .i64 0)) (fun _ hk => hk.2) (.int .i64 5)) (fun _ hk => hk.2) (.int .i64 1)) (fun _ hk => hk.2) (.int .i64 x126003_2)) (fun _ hk => hk.2) (.int .i64 x126004_2)) (fun _ hk => hk.2) (.int .i64 x126005_2)) (fun _ hk => hk.2) (.int .i64 (wrap64 (x126001_2 - (x11_2.length : Int))))) (fun _ hk => ⟨hk.1.1, ⟨hk.1.2.1, hk.1.2.2⟩⟩)⟩
        have n1_ : Aside0 (Kd.R k28 28 ((((((((((((w54.setCell ⟨gb134, 0, none⟩ (.int .i64 5)).setCell ⟨gb134, 1, none⟩ (.int .i64 0)).setCell ⟨gb134, 2, none⟩ (.int .i64 0)).setCell ⟨gb134, 3, none⟩ (.int .i64 0)).setCell ⟨gb134, 4, none⟩ (.int .i64 0)).setCell ⟨gb134, 5, none⟩ (.int .i64 0)).setCell ⟨gb134, 0, none⟩ (.int .i64 5)).setCell ⟨gb134, 1, none⟩ (.int .i64 1)).setCell ⟨gb134, 2, none⟩ (.int .i64 x126003_2)).setCell ⟨gb134, 3, none⟩ (.int .i64 x126004_2)).setCell ⟨gb134, 4, none⟩ (.int .i64 x126005_2)).setCell ⟨gb134, 5, none⟩ (.int .i64 (wrap64 (x126001_2 - (x11_2.length : Int))))) w.heap.size (fun k_ => some k_ ≠ (.slice Ao53 x8_5.length co53 : Value).ownBlock ∧ k_ ≠ gb105 ∧ k_ ≠ gb125) (.slice Ao58 x11_2.length co58) x11_2) := ⟨by (with_reducible repeat (first | apply Kd.R_alloc | apply Kd.R_drewN | apply Kd.R_drew)); exact Kd.R_mono (Kd.R_far (p := ⟨gb134, 5, none⟩) (Kd.R_far (p := ⟨gb134, 4, none⟩) (Kd.R_far (p := ⟨gb134, 3, none⟩) (Kd.R_far (p := ⟨gb134, 2, none⟩) (Kd.R_far (p := ⟨gb134, 1, none⟩) (Kd.R_far (p := ⟨gb134, 0, none⟩) (Kd.R_far (p := ⟨gb134, 5, none⟩) (Kd.R_far (p := ⟨gb134, 4, none⟩) (Kd.R_far (p := ⟨gb134, 3, none⟩) (Kd.R_far (p := ⟨gb134, 2, none⟩) (Kd.R_far (p := ⟨gb134, 1, none⟩) (Kd.R_far (p := ⟨gb134, 0, none⟩) (Kd.R_types HO_11.out BK134.out (by decide)) (fun _ hk => hk.2) (.int .i64 5)) (fun _ hk => hk.2) (.int .i64 0)) (fun _ hk => hk.2) (.int .i64 0)) (fun _ hk => hk.2) (.int .i64 0)) (fun _ hk => hk.2) (.int .i64 0)) (fun _ hk => hk.2) (.int .i64 0)) (fun _ hk => hk.2) (.int .i64 5)) (fun _ hk => hk.2) (.int .i64 1)) (fun _ hk => hk.2) (.int .i64 x126003_2)) (fun _ hk => hk.2) (.int .i64 x126004_2)) (fun _ hk => hk.2) (.int .i64 x126005_2)) (fun _ hk => hk.2) (.int .i64 (wrap64 (x126001_2 - (x11_2.length : Int))))) (fun _ hk => ⟨hk.1.1, ⟨hk.1.2.1, hk.1.2.2⟩⟩)⟩
        have n2_ : Aside0 (((((((((((((w54.setCell ⟨gb134, 0, none⟩ (.int .i64 5)).setCell ⟨gb134, 1, none⟩ (.int .i64 0)).setCell ⟨gb134, 2, none⟩ (.int .i64 0)).setCell ⟨gb134, 3, none⟩ (.int .i64 0)).setCell ⟨gb134, 4, none⟩ (.int .i64 0)).setCell ⟨gb134, 5, none⟩ (.int .i64 0)).setCell ⟨gb134, 0, none⟩ (.int .i64 5)).setCell ⟨gb134, 1, none⟩ (.int .i64 1)).setCell ⟨gb134, 2, none⟩ (.int .i64 x126003_2)).setCell ⟨gb134, 3, none⟩ (.int .i64 x126004_2)).setCell ⟨gb134, 4, none⟩ (.int .i64 x126005_2)).setCell ⟨gb134, 5, none⟩ (.int .i64 (wrap64 (x126001_2 - (x11_2.length : Int))))).heap[gb105]? = some (.cells #[.int .i64 0, .int .i64 x106001_5, .int .i64 5, .int .i64 x106003_5, .int .i64 x106004_5, .int .i64 x106005_5, .int .u64 0] 28 (0, 0))) := ⟨bF BK105⟩
        have n3_ : Aside0 (((((((((((((w54.setCell ⟨gb134, 0, none⟩ (.int .i64 5)).setCell ⟨gb134, 1, none⟩ (.int .i64 0)).setCell ⟨gb134, 2, none⟩ (.int .i64 0)).setCell ⟨gb134, 3, none⟩ (.int .i64 0)).setCell ⟨gb134, 4, none⟩ (.int .i64 0)).setCell ⟨gb134, 5, none⟩ (.int .i64 0)).setCell ⟨gb134, 0, none⟩ (.int .i64 5)).setCell ⟨gb134, 1, none⟩ (.int .i64 1)).setCell ⟨gb134, 2, none⟩ (.int .i64 x126003_2)).setCell ⟨gb134, 3, none⟩ (.int .i64 x126004_2)).setCell ⟨gb134, 4, none⟩ (.int .i64 x126005_2)).setCell ⟨gb134, 5, none⟩ (.int .i64 (wrap64 (x126001_2 - (x11_2.length : Int))))).heap[gb125]? = some (.cells #[.int .i64 x126000_2, .int .i64 x126001_2, .int .i64 x126002_2, .int .i64 x126003_2, .int .i64 x126004_2, .int .i64 x126005_2, .int .u64 x126006_2] 28 (0, 0))) := ⟨bF BK125⟩
        have n4_ : Aside0 (((((((((((((w54.setCell ⟨gb134, 0, none⟩ (.int .i64 5)).setCell ⟨gb134, 1, none⟩ (.int .i64 0)).setCell ⟨gb134, 2, none⟩ (.int .i64 0)).setCell ⟨gb134, 3, none⟩ (.int .i64 0)).setCell ⟨gb134, 4, none⟩ (.int .i64 0)).setCell ⟨gb134, 5, none⟩ (.int .i64 0)).setCell ⟨gb134, 0, none⟩ (.int .i64 5)).setCell ⟨gb134, 1, none⟩ (.int .i64 1)).setCell ⟨gb134, 2, none⟩ (.int .i64 x126003_2)).setCell ⟨gb134, 3, none⟩ (.int .i64 x126004_2)).setCell ⟨gb134, 4, none⟩ (.int .i64 x126005_2)).setCell ⟨gb134, 5, none⟩ (.int .i64 (wrap64 (x126001_2 - (x11_2.length : Int))))).heap[gb134]? = some (.cells #[.int .i64 5, .int .i64 1, .int .i64 x126003_2, .int .i64 x126004_2, .int .i64 x126005_2, .int .i64 (wrap64 (x126001_2 - (x11_2.length : Int)))] 40 (0, 0))) := ⟨by refine bM ?_; refine blk_put (cs := #[.int .i64 5, .int .i64 1, .int .i64 x126003_2, .int .i64 x126004_2, .int .i64 x126005_2, .int .i64 0]) ?_ 5 _ rfl; refine bM ?_; refine blk_put (cs := #[.int .i64 5, .int .i64 1, .int .i64 x126003_2, .int .i64 x126004_2, .int .i64 0, .int .i64 0]) ?_ 4 _ rfl; refine bM ?_; refine blk_put (cs := #[.int .i64 5, .int .i64 1, .int .i64 x126003_2, .int .i64 0, .int .i64 0, .int .i64 0]) ?_ 3 _ rfl; refine bM ?_; refine blk_put (cs := #[.int .i64 5, .int .i64 1, .int .i64 0, .int .i64 0, .int .i64 0, .int .i64 0]) ?_ 2 _ rfl; refine bM ?_; refine blk_put (cs := #[.int .i64 5, .int .i64 0, .int .i64 0, .int .i64 0, .int .i64 0, .int .i64 0]) ?_ 1 _ rfl; refine bM ?_; refine blk_put (cs := #[.int .i64 5, .int .i64 0, .int .i64 0, .int .i64 0, .int .i64 0, .int .i64 0]) ?_ 0 _ rfl; refine bM ?_; refine blk_put (cs := #[.int .i64 5, .int .i64 0, .int .i64 0, .int .i64 0, .int .i64 0, .int .i64 0]) ?_ 5 _ rfl; refine bM ?_; refine blk_put (cs := #[.int .i64 5, .int .i64 0, .int .i64 0, .int .i64 0, .int .i64 0, .int .i64 0]) ?_ 4 _ rfl; refine bM ?_; refine blk_put (cs := #[.int .i64 5, .int .i64 0, .int .i64 0, .int .i64 0, .int .i64 0, .int .i64 0]) ?_ 3 _ rfl; refine bM ?_; refine blk_put (cs := #[.int .i64 5, .int .i64 0, .int .i64 0, .int .i64 0, .int .i64 0, .int .i64 0]) ?_ 2 _ rfl; refine bM ?_; refine blk_put (cs := #[.int .i64 5, .int .i64 0, .int .i64 0, .int .i64 0, .int .i64 0, .int .i64 0]) ?_ 1 _ rfl; refine bM ?_; refine blk_put (cs := #[.int .i64 0, .int .i64 0, .int .i64 0, .int .i64 0, .int .i64 0, .int .i64 0]) ?_ 0 _ rfl; exact bD BK134⟩
        have n5_ : Aside0 (Below w.heap.size w ((((((((((((w54.setCell ⟨gb134, 0, none⟩ (.int .i64 5)).setCell ⟨gb134, 1, none⟩ (.int .i64 0)).setCell ⟨gb134, 2, none⟩ (.int .i64 0)).setCell ⟨gb134, 3, none⟩ (.int .i64 0)).setCell ⟨gb134, 4, none⟩ (.int .i64 0)).setCell ⟨gb134, 5, none⟩ (.int .i64 0)).setCell ⟨gb134, 0, none⟩ (.int .i64 5)).setCell ⟨gb134, 1, none⟩ (.int .i64 1)).setCell ⟨gb134, 2, none⟩ (.int .i64 x126003_2)).setCell ⟨gb134, 3, none⟩ (.int .i64 x126004_2)).setCell ⟨gb134, 4, none⟩ (.int .i64 x126005_2)).setCell ⟨gb134, 5, none⟩ (.int .i64 (wrap64 (x126001_2 - (x11_2.length : Int)))))) := ⟨sD HB⟩
        (try clear HO_8); (try clear HO_11); (try clear BK105); (try clear BK125); (try clear BK134); (try clear HB)
        generalize ((((((((((((w54.setCell ⟨gb134, 0, none⟩ (.int .i64 5)).setCell ⟨gb134, 1, none⟩ (.int .i64 0)).setCell ⟨gb134, 2, none⟩ (.int .i64 0)).setCell ⟨gb134, 3, none⟩ (.int .i64 0)).setCell ⟨gb134, 4, none⟩ (.int .i64 0)).setCell ⟨gb134, 5, none⟩ (.int .i64 0)).setCell ⟨gb134, 0, none⟩ (.int .i64 5)).setCell ⟨gb134, 1, none⟩ (.int .i64 1)).setCell ⟨gb134, 2, none⟩ (.int .i64 x126003_2)).setCell ⟨gb134, 3, none⟩ (.int .i64 x126004_2)).setCell ⟨gb134, 4, none⟩ (.int .i64 x126005_2)).setCell ⟨gb134, 5, none⟩ (.int .i64 (wrap64 (x126001_2 - (x11_2.length : Int))))) = w61 at n0_ n1_ n2_ n3_ n4_ n5_ ⊢
        have HO_8 := n0_; have HO_11 := n1_; have BK105 := n2_; have BK125 := n3_; have BK134 := n4_; have HB := n5_; clear n0_ n1_ n2_ n3_ n4_ n5_; replace HO_8 := aM (Kd.R_drew HO_8.out); replace HO_11 := aM (Kd.R_drew HO_11.out); replace BK105 := aM (blk_drew BK105.out); replace BK125 := aM (blk_drew BK125.out); replace BK134 := aM (blk_drew BK134.out); replace HB := aM (below_drew1 HB.out)
        refine start_ (n := 10) (S := fun w' => w'.cell? ⟨gb134, 0, none⟩ = some (.int .i64 5) ∧ w'.cell? ⟨gb134, 1, none⟩ = some (.int .i64 1) ∧ w'.cell? ⟨gb134, 2, none⟩ = some (.int .i64 x126003_2) ∧ w'.cell? ⟨gb134, 3, none⟩ = some (.int .i64 x126004_2) ∧ w'.cell? ⟨gb134, 4, none⟩ = some (.int .i64 x126005_2) ∧ w'.cell? ⟨gb134, 5, none⟩ = some (.int .i64 (wrap64 (x126001_2 - (x11_2.length : Int))))) (ds := []) #[false, false, false, false, false, false, false, false, false, false] (by kernel_rfl) rfl rfl ⟨cE BK134 0, cE BK134 1, cE BK134 2, cE BK134 3, cE BK134 4, cE BK134 5⟩ (fun hHeld => ?_); refine with_tabW parolelaw32_FieldLost.tab25 parolelaw32_FieldLost.bits25 (fun HT_ HW_ => ?_)
        generalize w61.drew = w62 at HO_8 HO_11 BK105 BK125 BK134 HB hHeld ⊢
        refine pX (i := 0) (N := some 136) rfl rfl HT_ ?_
        refine pX (i := 1) (N := some 137) rfl rfl HT_ ?_
        refine pX (i := 2) (N := some 138) rfl rfl HT_ ?_
        refine pX (i := 4) (N := some 140) rfl rfl HT_ ?_
        refine tX (i := 6) (N := some 142) rfl rfl HT_ HW_ hHeld (Or.inl ⟨by rfl, by rintro w' ⟨s0, s1, s2, s3, s4, s5⟩; go_simp; with_reducible rfl⟩) ?_
        refine oX (i := 3) (N := some 139) rfl rfl HT_ (fun K hK => ?_)
        refine Kd.R_lit_step (Kd.int .u64) _ 26 ?hg (N := 139) ?hd (xs := ([a2] : List Int)) (inner := [.int .u64 a2]) (ok := fun _ => True) (okp := fun _ => True) ?hr ?hp (fun _ hk => hk) trivial (Below.refl _ _) (Nat.le_refl _) (by simp) ?_; (case hd => rfl); (case hg => rfl); (case hr => first | (go_simp; done) | (go_simp; rfl)); (case hp => exact (Reps.one (show Kd.M (Kd.int .u64) _ _ _ a2 [.int .u64 a2] from rfl) (Reps.none _ _)))
        intro v136 w63 ho64 hb hg_ hnew_
        clear hg_ hnew_
        (first | rw [← Ny135.out] at ho64 | (simp only [Int.reduceToNat] at ho64; rw [← Ny135.out] at ho64))
        have HO137 := rL (n := 0) ho64 HB; replace HO_8 := rB HO_8 hb; replace HO_11 := rB HO_11 hb; replace BK105 := bB BK105 hb; replace BK125 := bB BK125 hb; replace BK134 := bB BK134 hb; replace HB := sB HB hb; clear hb ho64
        obtain ⟨Ao65, co65, eo65⟩ := Kd.R_slice HO137.out
        (first | subst eo65 | (injection eo65 with f1_ f2_ f3_; have f4_ := f1_.symm; have f5_ := f3_.symm; clear f1_ f2_ f3_; subst f4_; subst f5_))
        refine hK.out _ _ ⟨cE BK134 0, cE BK134 1, cE BK134 2, cE BK134 3, cE BK134 4, cE BK134 5⟩ (fun hHeld => ?_)
        clear hK K
        refine nX (some 139) ?_
        refine oX (i := 5) (N := some 141) rfl rfl HT_ (fun K hK => ?_)
        refine gS Try.func19 #[.slice Ao65 y135.length co65, .slice Ao58 x11_2.length co58, .int .i64 5] ?_
        with_reducible refine (field_Gather.calls k2 _ _ y135 _ _ x11_2 5 t138 t139 t140 t141 t142 t143 _ ?side1 ?side2 ?side3 ?side4 A52.out).mono ?_
        (case side1 => exact rC HO137)
        (case side2 => exact rN HO137)
        (case side3 => exact rC HO_11)
        (case side4 => exact rN HO_11)
        rintro e w66 ⟨rfl, hb⟩
        refine ⟨_, rfl, ?_⟩
        replace HO_8 := rB HO_8 hb; replace HO_11 := rB HO_11 hb; replace HO137 := rB HO137 hb; replace BK105 := bB BK105 hb; replace BK125 := bB BK125 hb; replace BK134 := bB BK134 hb; replace HB := sB HB hb; (try clear hb); (try clear hb2); (try clear hk); (try clear hi)
        refine hK.out _ _ ⟨cE BK134 0, cE BK134 1, cE BK134 2, cE BK134 3, cE BK134 4, cE BK134 5⟩ (fun hHeld => ?_)
        clear hK K
        refine nX (some 141) ?_
        refine pX (i := 7) (N := some 143) rfl rfl HT_ ?_
        refine pX (i := 8) (N := some 144) rfl rfl HT_ ?_
        refine pX (i := 9) (N := some 6) rfl rfl HT_ ?_
        refine done_ (done_of HT_.out (by kernel_rfl)) ?_
        try go_wp2
        go_ret
        exact ⟨by first | rfl | (simp [errW_none, errW_some] <;> rfl) | (simp [*, errW_none, errW_some] <;> rfl), sD HB⟩
       ·exact absurd rfl c51
      ·rw [if_neg c50] at H
       have c50b0 : decide (0 < (x11_2.length : Int)) = false := decide_eq_false c50
       have c50b1 : decide (0 < x11_2.length) = false := decide_eq_false (by omega)
       clear c50
       by_cases c67 : true = true
       ·clear c67
        have H1 : ((field_Gather.f k2 (([a2] : List Int)) x11_2 5).bind fun bt147 => (some (bt147.1 == 5 && (bt147.2.1 == 0 && (bt147.2.2.1 == 0 && (bt147.2.2.2.1 == 0 && (bt147.2.2.2.2.1 == 0 && (bt147.2.2.2.2.2 == 0)))))))) = some r := by first | (rw [if_pos rfl] at H; exact H) | (rw [if_pos trivial] at H; exact H)
        clear H; have H := H1; clear H1
        obtain ⟨y144, hy144⟩ : ∃ y_ : List Int, y_ = (([a2] : List Int)) := ⟨_, rfl⟩
        replace H : ((field_Gather.f k2 y144 x11_2 5).bind fun bt147 => (some (bt147.1 == 5 && (bt147.2.1 == 0 && (bt147.2.2.1 == 0 && (bt147.2.2.2.1 == 0 && (bt147.2.2.2.2.1 == 0 && (bt147.2.2.2.2.2 == 0)))))))) = some r := by first | (rw [hy144]; with_reducible exact H) | (have H2_ := (Option.bind_some _ _).symm.trans H; rw [hy144]; with_reducible exact H2_) | (have H2_ := (Option.bind_some _ _).symm.trans H; with_reducible exact H2_) | with_reducible exact H | (rw [hy144]; exact H) | exact H
        have Ny144 := aM hy144; clear hy144; replace H := Option.bind_eq_some_iff.mp H
        obtain ⟨⟨t147, t148, t149, t150, t151, t152⟩, A680, H⟩ := H
        replace H : (some (t147 == 5 && (t148 == 0 && (t149 == 0 && (t150 == 0 && (t151 == 0 && (t152 == 0))))))) = some r := H
        have A68 := aM A680; clear A680
        obtain rfl := Option.some.inj H
        obtain ⟨Ao69, co69, eo69⟩ := Kd.R_slice HO_8.out
        subst eo69
        try go_wp2_with (first | ((with_reducible refine gate_dst (N := 14) rfl ?_); (try (refine gate_guard (by rfl) ?_; dsimp only)); refine bE (N := 14) (cs := #[.int .i64 0, .int .i64 0, .int .i64 0, .int .i64 0, .int .i64 0, .int .i64 0]) (t := 40) ?_; intro gb134 hg w70 hbox hb; have BK134 := aM (hbox); have GW134 := gE hg HB; have GE134 := gE hg HB; have NB105_134 := nL hg BK105; have NB125_134 := nL hg BK125; replace HO_8 := rB HO_8 hb; replace HO_11 := rB HO_11 hb; replace BK105 := bB BK105 hb; replace BK125 := bB BK125 hb; replace HB := sB HB hb; clear hb hbox hg; have hnb71 := NB105_134.out.symm; have hnc71 := NB105_134.out; have hnb72 := NB125_134.out.symm; have hnc72 := NB125_134.out; obtain ⟨hcz73_0, hcz73_1, hcz73_2, hcz73_3, hcz73_4, hcz73_5, hfz73_0, hfz73_1, hfz73_2, hfz73_3, hfz73_4, hfz73_5⟩ := cZ6 BK134; obtain ⟨Ao74, co74, eo74⟩ := Kd.R_slice HO_11.out; subst eo74))
        have n0_ : Aside0 (Kd.R k28 28 ((((((w70.setCell ⟨gb134, 0, none⟩ (.int .i64 5)).setCell ⟨gb134, 1, none⟩ (.int .i64 0)).setCell ⟨gb134, 2, none⟩ (.int .i64 0)).setCell ⟨gb134, 3, none⟩ (.int .i64 0)).setCell ⟨gb134, 4, none⟩ (.int .i64 0)).setCell ⟨gb134, 5, none⟩ (.int .i64 0)) w.heap.size (fun k_ => some k_ ≠ (.slice Ao74 x11_2.length co74 : Value).ownBlock ∧ k_ ≠ gb105 ∧ k_ ≠ gb125) (.slice Ao69 x8_5.length co69) x8_5) := ⟨by (with_reducible repeat (first | apply Kd.R_alloc | apply Kd.R_drewN | apply Kd.R_drew)); exact Kd.R_mono (Kd.R_far (p := ⟨gb134, 5, none⟩) (Kd.R_far (p := ⟨gb134, 4, none⟩) (Kd.R_far (p := ⟨gb134, 3, none⟩) (Kd.R_far (p := ⟨gb134, 2, none⟩) (Kd.R_far (p := ⟨gb134, 1, none⟩) (Kd.R_far (p := ⟨gb134, 0, none⟩) (Kd.R_types HO_8.out BK134.out (by decide)) (fun _ hk => hk.2) (.int .i64 5)) (fun _ hk => hk.2) (.int .i64 0)) (fun _ hk => hk.2) (.int .i64 0)) (fun _ hk => hk.2) (.int .i64 0)) (fun _ hk => hk.2) (.int .i64 0)) (fun _ hk => hk.2) (.int .i64 0)) (fun _ hk => ⟨hk.1.1, ⟨hk.1.2.1, hk.1.2.2⟩⟩)⟩
        have n1_ : Aside0 (Kd.R k28 28 ((((((w70.setCell ⟨gb134, 0, none⟩ (.int .i64 5)).setCell ⟨gb134, 1, none⟩ (.int .i64 0)).setCell ⟨gb134, 2, none⟩ (.int .i64 0)).setCell ⟨gb134, 3, none⟩ (.int .i64 0)).setCell ⟨gb134, 4, none⟩ (.int .i64 0)).setCell ⟨gb134, 5, none⟩ (.int .i64 0)) w.heap.size (fun k_ => some k_ ≠ (.slice Ao69 x8_5.length co69 : Value).ownBlock ∧ k_ ≠ gb105 ∧ k_ ≠ gb125) (.slice Ao74 x11_2.length co74) x11_2) := ⟨by (with_reducible repeat (first | apply Kd.R_alloc | apply Kd.R_drewN | apply Kd.R_drew)); exact Kd.R_mono (Kd.R_far (p := ⟨gb134, 5, none⟩) (Kd.R_far (p := ⟨gb134, 4, none⟩) (Kd.R_far (p := ⟨gb134, 3, none⟩) (Kd.R_far (p := ⟨gb134, 2, none⟩) (Kd.R_far (p := ⟨gb134, 1, none⟩) (Kd.R_far (p := ⟨gb134, 0, none⟩) (Kd.R_types HO_11.out BK134.out (by decide)) (fun _ hk => hk.2) (.int .i64 5)) (fun _ hk => hk.2) (.int .i64 0)) (fun _ hk => hk.2) (.int .i64 0)) (fun _ hk => hk.2) (.int .i64 0)) (fun _ hk => hk.2) (.int .i64 0)) (fun _ hk => hk.2) (.int .i64 0)) (fun _ hk => ⟨hk.1.1, ⟨hk.1.2.1, hk.1.2.2⟩⟩)⟩
        have n2_ : Aside0 (((((((w70.setCell ⟨gb134, 0, none⟩ (.int .i64 5)).setCell ⟨gb134, 1, none⟩ (.int .i64 0)).setCell ⟨gb134, 2, none⟩ (.int .i64 0)).setCell ⟨gb134, 3, none⟩ (.int .i64 0)).setCell ⟨gb134, 4, none⟩ (.int .i64 0)).setCell ⟨gb134, 5, none⟩ (.int .i64 0)).heap[gb105]? = some (.cells #[.int .i64 0, .int .i64 x106001_5, .int .i64 5, .int .i64 x106003_5, .int .i64 x106004_5, .int .i64 x106005_5, .int .u64 0] 28 (0, 0))) := ⟨bF BK105⟩
        have n3_ : Aside0 (((((((w70.setCell ⟨gb134, 0, none⟩ (.int .i64 5)).setCell ⟨gb134, 1, none⟩ (.int .i64 0)).setCell ⟨gb134, 2, none⟩ (.int .i64 0)).setCell ⟨gb134, 3, none⟩ (.int .i64 0)).setCell ⟨gb134, 4, none⟩ (.int .i64 0)).setCell ⟨gb134, 5, none⟩ (.int .i64 0)).heap[gb125]? = some (.cells #[.int .i64 x126000_2, .int .i64 x126001_2, .int .i64 x126002_2, .int .i64 x126003_2, .int .i64 x126004_2, .int .i64 x126005_2, .int .u64 x126006_2] 28 (0, 0))) := ⟨bF BK125⟩
        have n4_ : Aside0 (((((((w70.setCell ⟨gb134, 0, none⟩ (.int .i64 5)).setCell ⟨gb134, 1, none⟩ (.int .i64 0)).setCell ⟨gb134, 2, none⟩ (.int .i64 0)).setCell ⟨gb134, 3, none⟩ (.int .i64 0)).setCell ⟨gb134, 4, none⟩ (.int .i64 0)).setCell ⟨gb134, 5, none⟩ (.int .i64 0)).heap[gb134]? = some (.cells #[.int .i64 5, .int .i64 0, .int .i64 0, .int .i64 0, .int .i64 0, .int .i64 0] 40 (0, 0))) := ⟨by refine bM ?_; refine blk_put (cs := #[.int .i64 5, .int .i64 0, .int .i64 0, .int .i64 0, .int .i64 0, .int .i64 0]) ?_ 5 _ rfl; refine bM ?_; refine blk_put (cs := #[.int .i64 5, .int .i64 0, .int .i64 0, .int .i64 0, .int .i64 0, .int .i64 0]) ?_ 4 _ rfl; refine bM ?_; refine blk_put (cs := #[.int .i64 5, .int .i64 0, .int .i64 0, .int .i64 0, .int .i64 0, .int .i64 0]) ?_ 3 _ rfl; refine bM ?_; refine blk_put (cs := #[.int .i64 5, .int .i64 0, .int .i64 0, .int .i64 0, .int .i64 0, .int .i64 0]) ?_ 2 _ rfl; refine bM ?_; refine blk_put (cs := #[.int .i64 5, .int .i64 0, .int .i64 0, .int .i64 0, .int .i64 0, .int .i64 0]) ?_ 1 _ rfl; refine bM ?_; refine blk_put (cs := #[.int .i64 0, .int .i64 0, .int .i64 0, .int .i64 0, .int .i64 0, .int .i64 0]) ?_ 0 _ rfl; exact bD BK134⟩
        have n5_ : Aside0 (Below w.heap.size w ((((((w70.setCell ⟨gb134, 0, none⟩ (.int .i64 5)).setCell ⟨gb134, 1, none⟩ (.int .i64 0)).setCell ⟨gb134, 2, none⟩ (.int .i64 0)).setCell ⟨gb134, 3, none⟩ (.int .i64 0)).setCell ⟨gb134, 4, none⟩ (.int .i64 0)).setCell ⟨gb134, 5, none⟩ (.int .i64 0))) := ⟨sD HB⟩
        (try clear HO_8); (try clear HO_11); (try clear BK105); (try clear BK125); (try clear BK134); (try clear HB)
        generalize ((((((w70.setCell ⟨gb134, 0, none⟩ (.int .i64 5)).setCell ⟨gb134, 1, none⟩ (.int .i64 0)).setCell ⟨gb134, 2, none⟩ (.int .i64 0)).setCell ⟨gb134, 3, none⟩ (.int .i64 0)).setCell ⟨gb134, 4, none⟩ (.int .i64 0)).setCell ⟨gb134, 5, none⟩ (.int .i64 0)) = w75 at n0_ n1_ n2_ n3_ n4_ n5_ ⊢
        have HO_8 := n0_; have HO_11 := n1_; have BK105 := n2_; have BK125 := n3_; have BK134 := n4_; have HB := n5_; clear n0_ n1_ n2_ n3_ n4_ n5_; replace HO_8 := aM (Kd.R_drew HO_8.out); replace HO_11 := aM (Kd.R_drew HO_11.out); replace BK105 := aM (blk_drew BK105.out); replace BK125 := aM (blk_drew BK125.out); replace BK134 := aM (blk_drew BK134.out); replace HB := aM (below_drew1 HB.out)
        refine start_ (n := 10) (S := fun w' => w'.cell? ⟨gb134, 0, none⟩ = some (.int .i64 5) ∧ w'.cell? ⟨gb134, 1, none⟩ = some (.int .i64 0) ∧ w'.cell? ⟨gb134, 2, none⟩ = some (.int .i64 0) ∧ w'.cell? ⟨gb134, 3, none⟩ = some (.int .i64 0) ∧ w'.cell? ⟨gb134, 4, none⟩ = some (.int .i64 0) ∧ w'.cell? ⟨gb134, 5, none⟩ = some (.int .i64 0)) (ds := []) #[false, false, false, false, false, false, false, false, false, false] (by kernel_rfl) rfl rfl ⟨cE BK134 0, cE BK134 1, cE BK134 2, cE BK134 3, cE BK134 4, cE BK134 5⟩ (fun hHeld => ?_); refine with_tabW parolelaw32_FieldLost.tab25 parolelaw32_FieldLost.bits25 (fun HT_ HW_ => ?_)
        generalize w75.drew = w76 at HO_8 HO_11 BK105 BK125 BK134 HB hHeld ⊢
        refine pX (i := 0) (N := some 136) rfl rfl HT_ ?_
        refine pX (i := 1) (N := some 137) rfl rfl HT_ ?_
        refine pX (i := 2) (N := some 138) rfl rfl HT_ ?_
        refine pX (i := 4) (N := some 140) rfl rfl HT_ ?_
        refine tX (i := 6) (N := some 142) rfl rfl HT_ HW_ hHeld (Or.inl ⟨by rfl, by rintro w' ⟨s0, s1, s2, s3, s4, s5⟩; go_simp; with_reducible rfl⟩) ?_
        refine oX (i := 3) (N := some 139) rfl rfl HT_ (fun K hK => ?_)
        refine Kd.R_lit_step (Kd.int .u64) _ 26 ?hg (N := 139) ?hd (xs := ([a2] : List Int)) (inner := [.int .u64 a2]) (ok := fun _ => True) (okp := fun _ => True) ?hr ?hp (fun _ hk => hk) trivial (Below.refl _ _) (Nat.le_refl _) (by simp) ?_; (case hd => rfl); (case hg => rfl); (case hr => first | (go_simp; done) | (go_simp; rfl)); (case hp => exact (Reps.one (show Kd.M (Kd.int .u64) _ _ _ a2 [.int .u64 a2] from rfl) (Reps.none _ _)))
        intro v145 w77 ho78 hb hg_ hnew_
        clear hg_ hnew_
        (first | rw [← Ny144.out] at ho78 | (simp only [Int.reduceToNat] at ho78; rw [← Ny144.out] at ho78))
        have HO146 := rL (n := 0) ho78 HB; replace HO_8 := rB HO_8 hb; replace HO_11 := rB HO_11 hb; replace BK105 := bB BK105 hb; replace BK125 := bB BK125 hb; replace BK134 := bB BK134 hb; replace HB := sB HB hb; clear hb ho78
        obtain ⟨Ao79, co79, eo79⟩ := Kd.R_slice HO146.out
        (first | subst eo79 | (injection eo79 with f1_ f2_ f3_; have f4_ := f1_.symm; have f5_ := f3_.symm; clear f1_ f2_ f3_; subst f4_; subst f5_))
        refine hK.out _ _ ⟨cE BK134 0, cE BK134 1, cE BK134 2, cE BK134 3, cE BK134 4, cE BK134 5⟩ (fun hHeld => ?_)
        clear hK K
        refine nX (some 139) ?_
        refine oX (i := 5) (N := some 141) rfl rfl HT_ (fun K hK => ?_)
        refine gS Try.func19 #[.slice Ao79 y144.length co79, .slice Ao74 x11_2.length co74, .int .i64 5] ?_
        with_reducible refine (field_Gather.calls k2 _ _ y144 _ _ x11_2 5 t147 t148 t149 t150 t151 t152 _ ?side1 ?side2 ?side3 ?side4 A68.out).mono ?_
        (case side1 => exact rC HO146)
        (case side2 => exact rN HO146)
        (case side3 => exact rC HO_11)
        (case side4 => exact rN HO_11)
        rintro e w80 ⟨rfl, hb⟩
        refine ⟨_, rfl, ?_⟩
        replace HO_8 := rB HO_8 hb; replace HO_11 := rB HO_11 hb; replace HO146 := rB HO146 hb; replace BK105 := bB BK105 hb; replace BK125 := bB BK125 hb; replace BK134 := bB BK134 hb; replace HB := sB HB hb; (try clear hb); (try clear hb2); (try clear hk); (try clear hi)
        refine hK.out _ _ ⟨cE BK134 0, cE BK134 1, cE BK134 2, cE BK134 3, cE BK134 4, cE BK134 5⟩ (fun hHeld => ?_)
        clear hK K
        refine nX (some 141) ?_
        refine pX (i := 7) (N := some 143) rfl rfl HT_ ?_
        refine pX (i := 8) (N := some 144) rfl rfl HT_ ?_
        refine pX (i := 9) (N := some 6) rfl rfl HT_ ?_
        refine done_ (done_of HT_.out (by kernel_rfl)) ?_
        try go_wp2
        go_ret
        exact ⟨by first | rfl | (simp [errW_none, errW_some] <;> rfl) | (simp [*, errW_none, errW_some] <;> rfl), sD HB⟩
       ·exact absurd rfl c67
/-- THE ONE PURE STATEMENT of parolelaw32_FieldLost. -/
def parolelaw32_FieldLost.Pure : Prop := ∀ (l0 : List (S53)) (a1 : Int) (a2 : Int), (l0.length ≤ maxLen ∧ ∀ x153 ∈ l0, ((Lit.int .u8 x153.f0).wf = true ∧ (Lit.int .u8 x153.f1).wf = true ∧ (Lit.int .u8 x153.f2).wf = true)) → (Lit.int .u32 a1).wf = true → (Lit.int .u64 a2).wf = true → ∃ k, parolelaw32_FieldLost.f k l0 a1 a2 = some true
end Go.Proofs.Ytfdoncgljohndaa.P
namespace Go.Proofs.Ytfdoncgljohndaa.R
open Go.RowKit Go.Proofs.Ytfdoncgljohndaa.P Go.Proofs.YtfdoncgljohndaaW.PrintWords Go.Proofs.YtfdoncgljohndaaW.PrintLast Go.Proofs.YtfdoncgljohndaaW.PrintMore
theorem wrap64_of {n : Int} (h0 : -9223372036854775808 ≤ n) (h1 : n ≤ 9223372036854775807) : wrap64 n = n := by
 unfold wrap64
 omega
theorem u64_of {n : Int} (h0 : 0 ≤ n) (h1 : n ≤ 18446744073709551615) : IntKind.u64.wrap n = n := by
 unfold IntKind.wrap
 simp [IntKind.signed, IntKind.bits]
 omega
theorem u64_def (n : Int) : IntKind.u64.wrap n = n % 18446744073709551616 := by
 unfold IntKind.wrap
 simp [IntKind.signed, IntKind.bits]
theorem Ev.pos {α : Type} {c : Prop} [Decidable c] {g f : Nat → Option α} {r : α} (hc : c) (h : Ev g r) : Ev (fun n => if c then g n else f n) r := Ev.congr (fun _ => if_pos hc) h
theorem Ev.neg {α : Type} {c : Prop} [Decidable c] {g f : Nat → Option α} {r : α} (hc : ¬ c) (h : Ev f r) : Ev (fun n => if c then g n else f n) r := Ev.congr (fun _ => if_neg hc) h
theorem Ev.succ {α : Type} {g : Nat → Option α} {r : α} (h : Ev (fun k => g (k + 1)) r) : Ev g r := Ev.step (fun _ => rfl) h
theorem Ev.const {α : Type} {o : Option α} {r : α} (h : o = some r) : Ev (fun _ => o) r := ⟨0, fun _ _ => h⟩
theorem Ev.cbind {α β : Type} {o : Option α} {f : Nat → α → Option β} {a : α} {r : β} (h : o = some a) (k : Ev (fun n => f n a) r) : Ev (fun n => o.bind (f n)) r := Ev.bind (Ev.const h) k
end Go.Proofs.Ytfdoncgljohndaa.R
namespace Go.Fld
/-- The step of a digest, on natural numbers. -/
def stepN (h w : Nat) : Nat :=
 let x := ((h ^^^ w) * 11400714819323198485) % 18446744073709551616
 let y := ((x ^^^ (x >>> 29)) * 13787848793156543929) % 18446744073709551616
 y ^^^ (y >>> 32)
theorem xor_lt {a b : Nat} (ha : a < 18446744073709551616) (hb : b < 18446744073709551616) : a ^^^ b < 18446744073709551616 := Nat.xor_lt_two_pow (n := 64) ha hb
theorem shr_lt {a : Nat} (s : Nat) (ha : a < 18446744073709551616) : a >>> s < 18446744073709551616 := by
 rw [Nat.shiftRight_eq_div_pow]; exact Nat.lt_of_le_of_lt (Nat.div_le_self _ _) ha
theorem stepN_lt (h w : Nat) : stepN h w < 18446744073709551616 := by
 unfold stepN
 exact xor_lt (Nat.mod_lt _ (by decide)) (shr_lt _ (Nat.mod_lt _ (by decide)))
theorem bits_xor_u64 {a b : Nat} (ha : a < 18446744073709551616) (hb : b < 18446744073709551616) : bits .xor .u64 (a : Int) (b : Int) = ((a ^^^ b : Nat) : Int) := by
 have ha' : a % 2 ^ 64 = a := Nat.mod_eq_of_lt ha
 have hb' : b % 2 ^ 64 = b := Nat.mod_eq_of_lt hb
 have hk : IntKind.u64.bits = 64 := rfl
 simp only [bits, hk, BitVec.ofInt_natCast, BitVec.toNat_xor, BitVec.toNat_ofNat, ha', hb']
 simp only [IntKind.wrap, IntKind.bits, IntKind.signed]
 have := xor_lt ha hb
 simp
 omega
end Go.Fld
namespace Go.Proofs.Ytfdoncgljohndaa.R
open Go.RowKit Go.Fld Go.Proofs.Ytfdoncgljohndaa.P Go.Proofs.YtfdoncgljohndaaW.PrintWords Go.Proofs.YtfdoncgljohndaaW.PrintLast Go.Proofs.YtfdoncgljohndaaW.PrintMore
/-- A number of 64 bits, as_ a natural number. -/
def u (w : Int) : Nat := (w % 18446744073709551616).toNat
theorem u_lt (w : Int) : u w < 18446744073709551616 := by unfold u; omega
theorem u_wrap (w : Int) : IntKind.u64.wrap w = (u w : Int) := by rw [u64_def]; unfold u; omega
theorem step_of (h w : Nat) (hh : h < 18446744073709551616) (hw : w < 18446744073709551616) : digest_Step.f (h : Int) (w : Int) = some (stepN h w : Int) := by
 have x0 := xor_lt hh hw
 have e0 := bits_xor_u64 hh hw
 have l : ∀ n : Nat, n % 18446744073709551616 < 18446744073709551616 := fun n => Nat.mod_lt _ (by decide)
 have m1 : IntKind.u64.wrap (((h ^^^ w : Nat) : Int) * 11400714819323198485) = (((h ^^^ w) * 11400714819323198485 % 18446744073709551616 : Nat) : Int) := by rw [u64_def]; omega
 obtain ⟨x, hx⟩ : ∃ x, x = (h ^^^ w) * 11400714819323198485 % 18446744073709551616 := ⟨_, rfl⟩
 have lx : x < 18446744073709551616 := by rw [hx]; exact l _
 have d1 : (x : Int) / (536870912 : Int) = ((x >>> 29 : Nat) : Int) := by rw [Nat.shiftRight_eq_div_pow]; omega
 have e1 := bits_xor_u64 lx (shr_lt 29 lx)
 have m2 : IntKind.u64.wrap (((x ^^^ (x >>> 29) : Nat) : Int) * 13787848793156543929) = (((x ^^^ (x >>> 29)) * 13787848793156543929 % 18446744073709551616 : Nat) : Int) := by rw [u64_def]; omega
 obtain ⟨y, hy⟩ : ∃ y, y = (x ^^^ (x >>> 29)) * 13787848793156543929 % 18446744073709551616 := ⟨_, rfl⟩
 have ly : y < 18446744073709551616 := by rw [hy]; exact l _
 have d2 : (y : Int) / (4294967296 : Int) = ((y >>> 32 : Nat) : Int) := by rw [Nat.shiftRight_eq_div_pow]; omega
 have e2 := bits_xor_u64 ly (shr_lt 32 ly)
 unfold digest_Step.f
 rw [e0, m1, ← hx, d1, e1, m2, ← hy, d2, e2]
 unfold stepN
 rw [← hx]
 simp only []
 rw [← hy]
/-- The digest of a list, from h on. -/
def wordsFrom (h : Nat) (l : List Int) : Nat := l.foldl (fun h w => stepN h (u w)) h
def wordsN (l : List Int) : Nat := wordsFrom (stepN 2611923443488327891 l.length) l
theorem wordsFrom_lt (l : List Int) : ∀ h, h < 18446744073709551616 → wordsFrom h l < 18446744073709551616 := by
 induction l with
 | nil => intro h hh; exact hh
 | cons x l ih => intro h hh; exact ih _ (stepN_lt _ _)
theorem wordsN_lt (l : List Int) : wordsN l < 18446744073709551616 := wordsFrom_lt _ _ (stepN_lt _ _)
theorem words_l0 (l : List Int) (hl : l.length < 1000000000) : ∀ (d i h : Nat), i + d = l.length → h < 18446744073709551616 → Ev (fun k => digest_Words.l0 k (h : Int) l (l.length : Int) (i : Int)) (wordsFrom h (l.drop i) : Int) := by
 intro d
 induction d with
 | zero =>
  intro i h hi hh
  refine Ev.succ ?_
  simp only [digest_Words.l0]
  refine Ev.neg (by omega) ?_
  rw [List.drop_eq_nil_of_le (by omega)]
  exact Ev.now _
 | succ d ih =>
  intro i h hi hh
  refine Ev.succ ?_
  simp only [digest_Words.l0]
  have hlt : i < l.length := by omega
  have er : rd l (i : Int) = l[i] := by unfold rd; simp [hlt]
  have hw : wrap64 ((i : Int) + 1) = ((i + 1 : Nat) : Int) := by rw [wrap64_of (by omega) (by omega)]; omega
  refine Ev.pos (by omega) (Ev.pos (by omega) (Ev.pos (by omega) ?_))
  rw [er, u_wrap, hw, List.drop_eq_getElem_cons hlt]
  refine Ev.cbind (step_of h _ hh (u_lt _)) ?_
  exact ih (i + 1) _ (by omega) (stepN_lt _ _)
theorem ev_Words (l : List Int) (hl : l.length < 1000000000) : Ev (fun k => digest_Words.f k l) (wordsN l : Int) := by
 unfold digest_Words.f
 rw [u64_of (by omega) (by omega)]
 refine Ev.cbind (step_of 2611923443488327891 l.length (by decide) (by omega)) ?_
 exact words_l0 l hl l.length 0 _ (by omega) (stepN_lt _ _)
def joinN (a b : Nat) : Nat := stepN (stepN 11820040416388919760 a) b
theorem join_of (a b : Nat) (ha : a < 18446744073709551616) (hb : b < 18446744073709551616) : digest_Join.f (a : Int) (b : Int) = some (joinN a b : Int) := by
 unfold digest_Join.f
 have h1 := step_of 11820040416388919760 a (by decide) ha
 have h2 := step_of (stepN 11820040416388919760 a) b (stepN_lt _ _) hb
 rw [show ((11820040416388919760 : Nat) : Int) = 11820040416388919760 from rfl] at h1
 rw [h1, Option.bind_some, h2, Option.bind_some]
 rfl
/-- The tag of a report. -/
def nums (c : S28) : List Int := [c.f0, c.f1, c.f2, c.f3, c.f4, c.f5]
def tagN (key : Nat) (c : S28) : Nat := joinN key (wordsN (nums c))
theorem ev_Tag (key : Nat) (hk : key < 18446744073709551616) (c : S28) : Ev (fun k => field_Tag.f k (key : Int) c.f0 c.f1 c.f2 c.f3 c.f4 c.f5 c.f6) (tagN key c : Int) := by
 unfold field_Tag.f
 refine Ev.bind (ev_Words _ (by simp)) (Ev.cbind (join_of _ _ hk (wordsN_lt _)) (Ev.now _))
def signN (key : Nat) (c : S28) : S28 := ⟨c.f0, c.f1, c.f2, c.f3, c.f4, c.f5, (tagN key c : Int)⟩
def tup (c : S28) : Int × Int × Int × Int × Int × Int × Int := (c.f0, c.f1, c.f2, c.f3, c.f4, c.f5, c.f6)
theorem ev_Sign (key : Nat) (hk : key < 18446744073709551616) (c : S28) : Ev (fun k => field_Sign.f k (key : Int) c.f0 c.f1 c.f2 c.f3 c.f4 c.f5 c.f6) (tup (signN key c)) := by
 unfold field_Sign.f
 exact Ev.bind (ev_Tag key hk c) (Ev.now _)
/-- The keys, as_ natural numbers. -/
def KeysOk (keys : List Int) : Prop := ∀ x ∈ keys, 0 ≤ x ∧ x < 18446744073709551616
def keyAt (keys : List Int) (i : Int) : Nat := (rd keys i).toNat
theorem key_at {keys : List Int} (h : KeysOk keys) {i : Int} (h0 : 0 ≤ i) (h1 : i < keys.length) : rd keys i = (keyAt keys i : Int) ∧ keyAt keys i < 18446744073709551616 := by
 have hm : rd keys i ∈ keys := by
  unfold rd
  rw [List.getD_eq_getElem?_getD, List.getElem?_eq_getElem (show i.toNat < keys.length by omega)]
  exact List.getElem_mem _
 have := h _ hm
 unfold keyAt
 omega
def shapeB (n : Nat) (c : S28) : Bool := decide (0 ≤ c.f0) && decide (c.f0 < (n : Int)) && decide (1 ≤ c.f1) && decide (c.f1 ≤ 1073741824) && decide (0 ≤ c.f5) && decide (c.f5 ≤ c.f4) && decide (c.f4 ≤ c.f3) && decide (c.f3 ≤ 1099511627776)
def rightB (keys : List Int) (c : S28) : Bool := shapeB keys.length c && (c.f6 == (tagN (keyAt keys c.f0) c : Int))
theorem shapeB_iff {n : Nat} {c : S28} : shapeB n c = true ↔ (0 ≤ c.f0 ∧ c.f0 < n ∧ 1 ≤ c.f1 ∧ c.f1 ≤ 1073741824 ∧ 0 ≤ c.f5 ∧ c.f5 ≤ c.f4 ∧ c.f4 ≤ c.f3 ∧ c.f3 ≤ 1099511627776) := by
 unfold shapeB
 simp only [Bool.and_eq_true, decide_eq_true_eq]
 omega
theorem ev_Right {keys : List Int} (hk : KeysOk keys) (c : S28) : Ev (fun k => okR k keys c) (if rightB keys c = true then 0 else 320) := by
 unfold okR field_Right.f
 have j1t : Ev (fun k => field_Right.j1 k keys true c.f0 c.f1 c.f2 c.f3 c.f4 c.f5 c.f6) 320 := by
  refine Ev.succ ?_
  unfold field_Right.j1
  exact Ev.pos rfl (Ev.now _)
 have j2t : Ev (fun k => field_Right.j2 k keys true c.f0 c.f1 c.f2 c.f3 c.f4 c.f5 c.f6) 320 := by
  refine Ev.succ ?_
  unfold field_Right.j2
  exact Ev.pos rfl (Ev.now _)
 have j0t : Ev (fun k => field_Right.j0 k keys true c.f0 c.f1 c.f2 c.f3 c.f4 c.f5 c.f6) 320 := by
  refine Ev.succ ?_
  unfold field_Right.j0
  exact Ev.pos rfl j1t
 by_cases hs : shapeB keys.length c = true
 ·have hs' := shapeB_iff.1 hs
  refine Ev.neg (by omega) ?_
  rw [decide_eq_false (by omega)]
  refine Ev.succ ?_
  simp only [field_Right.j0]
  refine Ev.neg (by simp) (Ev.neg (by omega) ?_)
  rw [decide_eq_false (by omega)]
  refine Ev.succ ?_
  simp only [field_Right.j1]
  refine Ev.neg (by simp) (Ev.neg (by omega) (Ev.neg (by omega) (Ev.neg (by omega) ?_)))
  rw [decide_eq_false (by omega)]
  refine Ev.succ ?_
  simp only [field_Right.j2]
  refine Ev.neg (by simp) (Ev.pos (by omega) (Ev.pos (by omega) ?_))
  obtain ⟨e, hlt⟩ := key_at hk hs'.1 hs'.2.1
  rw [e]
  refine Ev.bind (ev_Tag _ hlt c) ?_
  unfold rightB
  rw [hs, Bool.true_and]
  by_cases ht : c.f6 = (tagN (keyAt keys c.f0) c : Int)
  ·rw [if_pos (beq_iff_eq.2 ht)]
   exact Ev.pos ht (Ev.now _)
  ·rw [if_neg (fun e => ht (beq_iff_eq.1 e))]
   exact Ev.neg ht (Ev.now _)
 ·have hr : rightB keys c = false := by unfold rightB; rw [Bool.not_eq_true] at hs; rw [hs]; rfl
  rw [hr, if_neg (by simp)]
  rw [shapeB_iff] at hs
  by_cases h0 : c.f0 < 0
  ·exact Ev.pos h0 j0t
  refine Ev.neg h0 ?_
  by_cases h1 : c.f0 ≥ (keys.length : Int)
  ·rw [decide_eq_true h1]; exact j0t
  rw [decide_eq_false h1]
  refine Ev.succ ?_
  simp only [field_Right.j0]
  refine Ev.neg (by simp) ?_
  by_cases h2 : c.f1 < 1
  ·exact Ev.pos h2 j1t
  refine Ev.neg h2 ?_
  by_cases h3 : c.f1 > 1073741824
  ·rw [decide_eq_true h3]; exact j1t
  rw [decide_eq_false h3]
  refine Ev.succ ?_
  simp only [field_Right.j1]
  refine Ev.neg (by simp) ?_
  by_cases h4 : c.f5 < 0
  ·exact Ev.pos h4 j2t
  refine Ev.neg h4 ?_
  by_cases h5 : c.f4 < c.f5
  ·exact Ev.pos h5 j2t
  refine Ev.neg h5 ?_
  by_cases h6 : c.f3 < c.f4
  ·exact Ev.pos h6 j2t
  refine Ev.neg h6 ?_
  by_cases h7 : c.f3 > 1099511627776
  ·rw [decide_eq_true h7]; exact j2t
  exact absurd ⟨by omega, by omega, by omega, by omega, by omega, by omega, by omega, by omega⟩ hs
/-- Of all elements of a list at one number of rounds. -/
theorem ev_all {α β : Type} (l : List α) (g : α → Nat → Option β) (f : α → β) (h : ∀ x ∈ l, Ev (g x) (f x)) : ∃ K, ∀ k, K ≤ k → ∀ x ∈ l, g x k = some (f x) := by
 induction l with
 | nil => exact ⟨0, by simp⟩
 | cons a l ih =>
  obtain ⟨K, hK⟩ := ih (fun x hx => h x (by simp [hx]))
  obtain ⟨J, hJ⟩ := h a (by simp)
  refine ⟨max K J, fun k hk x hx => ?_⟩
  rcases List.mem_cons.1 hx with rfl | hx
  ·exact hJ k (by omega)
  ·exact hK k (by omega) x hx
/-- The evidence. -/
def accB (keys : List Int) (p : Int) (c : S28) : Bool := c.f2 == p && rightB keys c
def evid (keys : List Int) (l : List S28) (p : Int) : Int × Int × Int × Int × Int × Int := gathR (l.filter (accB keys p)) p
theorem ev_Gather {keys : List Int} (hk : KeysOk keys) (l : List S28) (p : Int) (h1 : keys.length ≤ 1000000) (h2 : l.length ≤ 1000) : Ev (fun k => field_Gather.f k keys l p) (evid keys l p) := by
 obtain ⟨K, hK⟩ := ev_all l (fun c k => okR k keys c) _ (fun c _ => ev_Right hk c)
 refine ⟨K, fun k hk' => ?_⟩
 show field_Gather.f k keys l p = _
 unfold field_Gather.f evid
 rw [if_pos ⟨h1, h2, by
  rw [List.all_eq_true]
  intro c hc
  rw [hK k hk' c hc]
  simp⟩]
 congr 2
 refine List.filter_congr fun c hc => ?_
 unfold accR accB
 rw [hK k hk' c hc]
 cases rightB keys c <;> simp
end Go.Proofs.Ytfdoncgljohndaa.R
namespace Go.Proofs.Ytfdoncgljohndaa.R
open Go.RowKit Go.Fld Go.Proofs.Ytfdoncgljohndaa.P Go.Proofs.YtfdoncgljohndaaW.PrintWords Go.Proofs.YtfdoncgljohndaaW.PrintLast Go.Proofs.YtfdoncgljohndaaW.PrintMore
theorem wf_u8 {n : Int} (h : (Lit.int .u8 n).wf = true) : 0 ≤ n ∧ n ≤ 255 := by
 simp only [Lit.wf, IntKind.min, IntKind.max, IntKind.signed, IntKind.bits, Bool.and_eq_true] at h
 simpa using h
theorem wf_u64 {n : Int} (h : (Lit.int .u64 n).wf = true) : 0 ≤ n ∧ n ≤ 18446744073709551615 := by
 simp only [Lit.wf, IntKind.min, IntKind.max, IntKind.signed, IntKind.bits, Bool.and_eq_true] at h
 simpa using h
theorem wf_i64 {n : Int} (h : (Lit.int .i64 n).wf = true) : -9223372036854775808 ≤ n ∧ n ≤ 9223372036854775807 := by
 simp only [Lit.wf, IntKind.min, IntKind.max, IntKind.signed, IntKind.bits, Bool.and_eq_true] at h
 simpa using h
theorem right_sign {keys : List Int} {c : S28} (h : shapeB keys.length c = true) : rightB keys (signN (keyAt keys c.f0) c) = true := by
 unfold rightB
 rw [show shapeB keys.length (signN (keyAt keys c.f0) c) = shapeB keys.length c from rfl, h]
 simp only [Bool.true_and, beq_iff_eq]
 rfl
theorem mk28 (c : S28) : (⟨(tup c).1, (tup c).2.1, (tup c).2.2.1, (tup c).2.2.2.1, (tup c).2.2.2.2.1, (tup c).2.2.2.2.2.1, (tup c).2.2.2.2.2.2⟩ : S28) = c := rfl
theorem mem_macs (L : List S28) (x : Int) : x ∈ macs L ↔ ∃ c ∈ L, c.f0 = x := by
 unfold macs
 rw [mem_nub, List.mem_map]
theorem acc_okB {keys : List Int} {p : Int} {c : S28} (h : accB keys p c = true) : okB c ∧ c.f0 < keys.length ∧ c.f2 = p := by
 unfold accB rightB at h
 simp only [Bool.and_eq_true, beq_iff_eq] at h
 have := shapeB_iff.1 h.2.1
 unfold okB
 exact ⟨by omega, this.2.1, h.1⟩
end Go.Proofs.Ytfdoncgljohndaa.R
namespace Go.Proofs.Ytfdoncgljohndaa.R
open Go.RowKit Go.Fld Go.Proofs.Ytfdoncgljohndaa.P Go.Proofs.YtfdoncgljohndaaW.PrintWords Go.Proofs.YtfdoncgljohndaaW.PrintLast Go.Proofs.YtfdoncgljohndaaW.PrintMore
theorem nub_of_nodup {l : List Int} (h : l.Nodup) : (nub l).length = l.length :=
 Nat.le_antisymm (length_nub_le l) (nodup_length_le _ _ h fun x hx => (mem_nub x l).2 hx)
theorem maxs_eq {l : List Int} {m : Int} (hm : m ∈ l) (h0 : 0 ≤ m) (h : ∀ x ∈ l, x ≤ m) : maxs l = m :=
 Int.le_antisymm ((maxs_le_iff l m).2 ⟨h0, h⟩) (le_maxs hm)
/-- Reports of machine 0 alone. -/
theorem gath_one {L : List S28} (h : ∀ c ∈ L, c.f0 = 0) (hne : L ≠ []) (p : Int) :
  gathR L p = (p, 1, maxs (L.map (·.f3)), maxs (L.map (·.f4)), maxs (L.map (·.f5)), maxs (L.map (·.f1)) - ((nub (L.map (·.f1))).length : Int)) := by
 have ho : ofM L 0 = L := by
  unfold ofM
  rw [List.filter_eq_self]
  intro c hc
  simp [h c hc]
 have hm : macs L = [0] := by
  have h1 : (macs L).Nodup := nodup_nub _
  have h2 : ∀ x ∈ macs L, x = 0 := fun x hx => by
   rw [mem_macs] at hx
   obtain ⟨c, hc, rfl⟩ := hx
   exact h c hc
  have h3 : (0 : Int) ∈ macs L := by
   obtain ⟨c, hc⟩ := List.exists_mem_of_ne_nil L hne
   exact (mem_macs L 0).2 ⟨c, hc, h c hc⟩
  have h4 : (macs L).length = 1 := Nat.le_antisymm (nodup_length_le _ [0] h1 fun x hx => by simp [h2 x hx]) (List.length_pos_of_mem h3)
  obtain ⟨y, hy⟩ := List.length_eq_one_iff.1 h4
  rw [hy] at h3 ⊢
  rw [List.mem_singleton.1 h3]
 unfold gathR
 rw [hm]
 simp only [sm_cons, sm_nil, Int.add_zero, List.length_singleton]
 unfold seenM lookM brokM missM lastM seqsM
 rw [ho]
 rfl
theorem gath_nil (p : Int) : gathR [] p = (p, 0, 0, 0, 0, 0) := rfl
end Go.Proofs.Ytfdoncgljohndaa.R
namespace Go.Proofs.Ytfdoncgljohndaa.Pure
open Go.RowKit Go.Fld Go.Proofs.Ytfdoncgljohndaa.P Go.Proofs.Ytfdoncgljohndaa.R Go.Proofs.YtfdoncgljohndaaW.PrintWords Go.Proofs.YtfdoncgljohndaaW.PrintLast Go.Proofs.YtfdoncgljohndaaW.PrintMore
def rowOk (x : S53) : Prop := (0 ≤ x.f0 ∧ x.f0 ≤ 255) ∧ (0 ≤ x.f1 ∧ x.f1 ≤ 255) ∧ (0 ≤ x.f2 ∧ x.f2 ≤ 255)
def nowR (x : S53) (i : Nat) (s k b : Int) : S28 := ⟨0, ((i + 1 : Nat) : Int), 5, s + (x.f0 / 200 + x.f1 % 9 + x.f2), k + (x.f0 / 200 + x.f1 % 9), b + x.f0 / 200, 0⟩
def sentFrom (key : Nat) : List S53 → Nat → Int → Int → Int → List S28
 | [], _, _, _, _ => []
 | x :: l, i, s, k, b => signN key (nowR x i s k b) :: sentFrom key l (i + 1) (s + (x.f0 / 200 + x.f1 % 9 + x.f2)) (k + (x.f0 / 200 + x.f1 % 9)) (b + x.f0 / 200)
def Le (a c : S28) : Prop := a.f1 < c.f1 ∧ a.f3 ≤ c.f3 ∧ a.f4 ≤ c.f4 ∧ a.f5 ≤ c.f5
theorem sent_length (key : Nat) : ∀ (l : List S53) (i : Nat) (s k b : Int), (sentFrom key l i s k b).length = l.length
 | [], _, _, _, _ => rfl
 | x :: l, i, s, k, b => by simp [sentFrom, sent_length key l]
theorem sent_lower (key : Nat) : ∀ (l : List S53) (hl : ∀ x ∈ l, rowOk x) (i : Nat) (s k b : Int), ∀ c ∈ sentFrom key l i s k b, (i : Int) < c.f1 ∧ s ≤ c.f3 ∧ k ≤ c.f4 ∧ b ≤ c.f5
 | [], _, _, _, _, _, c, hc => by simp [sentFrom] at hc
 | x :: l, hl, i, s, k, b, c, hc => by
  have hx := hl x (by simp)
  unfold rowOk at hx
  simp only [sentFrom, List.mem_cons] at hc
  rcases hc with rfl | hc
  ·simp only [signN, nowR]; omega
  ·have := sent_lower key l (fun y hy => hl y (by simp [hy])) (i + 1) _ _ _ c hc
   omega
theorem sent_pairwise (key : Nat) : ∀ (l : List S53) (hl : ∀ x ∈ l, rowOk x) (i : Nat) (s k b : Int), (sentFrom key l i s k b).Pairwise Le
 | [], _, _, _, _, _ => List.Pairwise.nil
 | x :: l, hl, i, s, k, b => by
  simp only [sentFrom, List.pairwise_cons]
  refine ⟨fun c hc => ?_, sent_pairwise key l (fun y hy => hl y (by simp [hy])) _ _ _ _⟩
  have := sent_lower key l (fun y hy => hl y (by simp [hy])) (i + 1) _ _ _ c hc
  unfold Le
  simp only [signN, nowR]
  omega
theorem now_right (key : Nat) (x : S53) (hx : rowOk x) (i : Nat) (s k b : Int) (h1 : i + 1 ≤ 20) (h2 : 0 ≤ b) (h3 : b ≤ k) (h4 : k ≤ s) (h5 : s ≤ i * 1000) : rightB [(key : Int)] (signN key (nowR x i s k b)) = true := by
 unfold rowOk at hx
 have hka : keyAt [(key : Int)] (nowR x i s k b).f0 = key := by simp [keyAt, rd, nowR]
 have hsh : shapeB [(key : Int)].length (nowR x i s k b) = true := shapeB_iff.2 (by simp only [nowR, List.length_singleton]; omega)
 have := right_sign hsh
 rw [hka] at this
 exact this
theorem sent_right (key : Nat) (l : List S53) : ∀ (hl : ∀ x ∈ l, rowOk x) (i : Nat) (s k b : Int), i + l.length ≤ 20 → 0 ≤ b → b ≤ k → k ≤ s → s ≤ i * 1000 →
  ∀ c ∈ sentFrom key l i s k b, rightB [(key : Int)] c = true ∧ c.f0 = 0 ∧ c.f2 = 5 ∧ c.f3 ≤ 100000 ∧ c.f1 ≤ 20 ∧ 0 ≤ c.f5 := by
 induction l with
 | nil => intro _ i s k b _ _ _ _ _ c hc; simp [sentFrom] at hc
 | cons x l ih =>
  intro hl i s k b h1 h2 h3 h4 h5 c hc
  have hx0 := hl x (by simp)
  have hx := hx0
  unfold rowOk at hx
  simp only [List.length_cons] at h1
  simp only [sentFrom, List.mem_cons] at hc
  rcases hc with rfl | hc
  ·refine ⟨now_right key x hx0 i s k b (by omega) h2 h3 h4 h5, rfl, rfl, ?_, ?_, ?_⟩
   ·simp only [signN, nowR]; omega
   ·simp only [signN, nowR]; omega
   ·simp only [signN, nowR]; omega
  ·exact ih (fun y hy => hl y (by simp [hy])) (i + 1) _ _ _ (by omega) (by omega) (by omega) (by omega) (by omega) c hc
/-- What has come: the last one is the greatest. -/
structure Came (L came : List S28) (last : Int × Int × Int × Int × Int × Int × Int) (i : Nat) : Prop where
 sub : ∀ c ∈ came, c ∈ L.take i
 nodup : (came.map (·.f1)).Nodup
 none_ : came = [] → last = (0, 0, 0, 0, 0, 0, 0)
 some_ : came ≠ [] → ∃ m ∈ came, last = tup m ∧ ∀ c ∈ came, c.f1 ≤ m.f1 ∧ c.f3 ≤ m.f3 ∧ c.f4 ≤ m.f4 ∧ c.f5 ≤ m.f5
 len : came.length ≤ i
theorem lost_l1 {L : List S28} (hp : L.Pairwise Le) (hL : L.length ≤ 20) (a1 key : Int) (r : Bool)
  (hend : ∀ came last, Came L came last L.length → Ev (fun k => (if (came.length : Int) > 0 then (if (true : Bool) = true then ((field_Gather.f k (([key] : List Int)) came 5).bind fun bt138 => (some (bt138.1 == 5 && (bt138.2.1 == 1 && (bt138.2.2.1 == last.2.2.2.1 && (bt138.2.2.2.1 == last.2.2.2.2.1 && (bt138.2.2.2.2.1 == last.2.2.2.2.2.1 && (bt138.2.2.2.2.2 == (wrap64 (last.2.1 - (came.length : Int))))))))))) else (some false)) else (if (true : Bool) = true then ((field_Gather.f k (([key] : List Int)) came 5).bind fun bt147 => (some (bt147.1 == 5 && (bt147.2.1 == 0 && (bt147.2.2.1 == 0 && (bt147.2.2.2.1 == 0 && (bt147.2.2.2.2.1 == 0 && (bt147.2.2.2.2.2 == 0)))))))) else (some false)))) r) :
  ∀ (d i : Nat) (came : List S28) (last : Int × Int × Int × Int × Int × Int × Int), i + d = L.length → Came L came last i →
  Ev (fun k => parolelaw32_FieldLost.l1 k a1 key true L came (i : Int) last.1 last.2.1 last.2.2.1 last.2.2.2.1 last.2.2.2.2.1 last.2.2.2.2.2.1 last.2.2.2.2.2.2) r := by
 intro d
 induction d with
 | zero =>
  intro i came last hi hc
  refine Ev.succ ?_
  unfold parolelaw32_FieldLost.l1
  refine Ev.neg (by omega) ?_
  obtain rfl : i = L.length := by omega
  exact hend came last hc
 | succ d ih =>
  intro i came last hi hc
  refine Ev.succ ?_
  unfold parolelaw32_FieldLost.l1
  have hil : i < L.length := by omega
  have er : rd_T28 L (i : Int) = L[i] := by unfold rd_T28; simp [hil]
  have hw : wrap64 ((i : Int) + 1) = ((i + 1 : Nat) : Int) := by rw [wrap64_of (by omega) (by omega)]; omega
  have hu : IntKind.u64.wrap (i : Int) = (i : Int) := u64_of (by omega) (by omega)
  have htake : L.take (i + 1) = L.take i ++ [L[i]] := by rw [List.take_add_one]; simp [hil]
  have hle : ∀ c ∈ L.take i, Le c L[i] := fun c hc => by
   obtain ⟨j, hj, rfl⟩ := List.mem_iff_getElem.1 hc
   simp only [List.length_take] at hj
   rw [List.getElem_take]
   exact (List.pairwise_iff_getElem.1 hp) j i (by omega) hil (by omega)
  have hlen := hc.len
  rw [er, hw, hu]
  refine Ev.pos (by omega) (Ev.pos (by omega) ?_)
  by_cases hb : Go.bits .and .u32 (shr .u32 a1 (i : Int)) 1 = 0
  ·refine Ev.pos hb (Ev.pos (by omega) (Ev.cbind rfl (Ev.pos (by simp; omega) ?_)))
   refine ih (i + 1) ([L[i]] ++ came) (tup L[i]) (by omega) ?_
   refine ⟨fun c h => ?_, ?_, fun h => by simp at h, fun _ => ⟨L[i], by simp, rfl, fun c h => ?_⟩, by simp; omega⟩
   ·rw [htake, List.mem_append, List.mem_singleton]
    simp only [List.cons_append, List.nil_append, List.mem_cons] at h
    rcases h with rfl | h
    ·exact .inr rfl
    ·exact .inl (hc.sub c h)
   ·simp only [List.cons_append, List.nil_append, List.map_cons, List.nodup_cons]
    refine ⟨fun h => ?_, hc.nodup⟩
    obtain ⟨c, h1, h2⟩ := List.mem_map.1 h
    have := (hle c (hc.sub c h1)).1
    omega
   ·simp only [List.cons_append, List.nil_append, List.mem_cons] at h
    rcases h with rfl | h
    ·omega
    ·have := hle c (hc.sub c h)
     unfold Le at this
     omega
  ·refine Ev.neg hb ?_
   refine ih (i + 1) came last (by omega) ⟨fun c h => ?_, hc.nodup, hc.none_, hc.some_, by omega⟩
   rw [htake]
   exact List.mem_append_left _ (hc.sub c h)
theorem lost_l0 (l : List S53) (hl : ∀ x ∈ l, rowOk x) (a1 : Int) (key : Nat) (hkey : key < 18446744073709551616) (r : Bool) : ∀ (d i : Nat) (acc : List S28) (s k b q : Int), i + d = 20 → acc.length ≤ i → 0 ≤ b → b ≤ k → k ≤ s → s ≤ i * 1000 →
  Ev (fun n => parolelaw32_FieldLost.j1 n a1 (key : Int) true (acc ++ sentFrom key ((l.drop i).take d) i s k b)) r → Ev (fun n => parolelaw32_FieldLost.l0 n l a1 (key : Int) true acc (i : Int) 0 q 5 s k b 0) r := by
 intro d
 induction d with
 | zero =>
  intro i acc s k b q hi ha h1 h2 h3 h4 hj
  rw [List.take_zero] at hj
  simp only [sentFrom, List.append_nil] at hj
  refine Ev.succ ?_
  unfold parolelaw32_FieldLost.l0
  by_cases h : (i : Int) < (l.length : Int)
  ·exact Ev.pos h (Ev.neg (by omega) hj)
  ·exact Ev.neg h hj
 | succ d ih =>
  intro i acc s k b q hi ha h1 h2 h3 h4 hj
  refine Ev.succ ?_
  unfold parolelaw32_FieldLost.l0
  by_cases h : i < l.length
  ·have hx := hl l[i] (List.getElem_mem h)
   unfold rowOk at hx
   refine Ev.pos (by omega) (Ev.pos (by omega) (Ev.pos (by omega) ?_))
   have er : rd_T53 l (i : Int) = l[i] := by unfold rd_T53; simp [h]
   have hw : wrap64 ((i : Int) + 1) = ((i + 1 : Nat) : Int) := by rw [wrap64_of (by omega) (by omega)]; omega
   rw [List.drop_eq_getElem_cons h, List.take_succ_cons] at hj
   rw [er, hw]
   generalize l[i] = x at hx hj
   have e1 : wrap64 (Int.tdiv (wrap64 x.f0) 200) = x.f0 / 200 := by
    rw [wrap64_of (n := x.f0) (by omega) (by omega), Int.tdiv_eq_ediv_of_nonneg hx.1.1, wrap64_of (by omega) (by omega)]
   have e2 : wrap64 (x.f0 / 200 + wrap64 (Int.tmod x.f1 9)) = x.f0 / 200 + x.f1 % 9 := by
    rw [Int.tmod_eq_emod_of_nonneg hx.2.1.1, wrap64_of (n := x.f1 % 9) (by omega) (by omega), wrap64_of (by omega) (by omega)]
   have e3 : wrap64 (x.f0 / 200 + x.f1 % 9 + wrap64 x.f2) = x.f0 / 200 + x.f1 % 9 + x.f2 := by
    rw [wrap64_of (n := x.f2) (by omega) (by omega), wrap64_of (by omega) (by omega)]
   have e4 : wrap64 (s + (x.f0 / 200 + x.f1 % 9 + x.f2)) = s + (x.f0 / 200 + x.f1 % 9 + x.f2) := wrap64_of (by omega) (by omega)
   have e5 : wrap64 (k + (x.f0 / 200 + x.f1 % 9)) = k + (x.f0 / 200 + x.f1 % 9) := wrap64_of (by omega) (by omega)
   have e6 : wrap64 (b + x.f0 / 200) = b + x.f0 / 200 := wrap64_of (by omega) (by omega)
   rw [e1, e2, e3, e4, e5, e6]
   refine Ev.bind (ev_Sign key hkey (nowR x i s k b)) (Ev.pos (by omega) ?_)
   rw [mk28]
   refine ih (i + 1) (acc ++ [signN key (nowR x i s k b)]) _ _ _ _ (by omega) (by simp; omega) (by omega) (by omega) (by omega) (by omega) ?_
   rw [List.append_assoc]
   exact hj
  ·rw [List.drop_eq_nil_of_le (by omega)] at hj
   simp only [List.take_nil, sentFrom, List.append_nil] at hj
   exact Ev.neg (by omega) hj
theorem FieldLost : parolelaw32_FieldLost.Pure := by
 intro l0 a1 a2 h0 h1 h2
 have hl : ∀ x ∈ l0, rowOk x := fun x hx => by
  have := h0.2 x hx
  exact ⟨wf_u8 this.1, wf_u8 this.2.1, wf_u8 this.2.2⟩
 have b2 := wf_u64 h2
 refine Ev.rounds (g := fun k => parolelaw32_FieldLost.f k l0 a1 a2) ?_
 unfold parolelaw32_FieldLost.f
 refine Ev.cbind (a := true) rfl (Ev.pos rfl ?_)
 obtain ⟨key, rfl⟩ := Int.eq_ofNat_of_zero_le b2.1
 have hkey : key < 18446744073709551616 := by omega
 refine lost_l0 l0 hl a1 key hkey true 20 0 [] 0 0 0 0 (by omega) (by simp) (by omega) (by omega) (by omega) (by omega) ?_
 rw [List.nil_append, List.drop_zero]
 have hrow : ∀ x ∈ l0.take 20, rowOk x := fun x hx => hl x (List.mem_of_mem_take hx)
 have hlen : (l0.take 20).length ≤ 20 := by rw [List.length_take]; omega
 have hp := sent_pairwise key (l0.take 20) hrow 0 0 0 0
 have hr := sent_right key (l0.take 20) hrow 0 0 0 0 (by omega) (by omega) (by omega) (by omega) (by omega)
 have hL : (sentFrom key (l0.take 20) 0 0 0 0).length ≤ 20 := by rw [sent_length]; exact hlen
 generalize sentFrom key (l0.take 20) 0 0 0 0 = L at hp hr hL
 refine Ev.succ ?_
 unfold parolelaw32_FieldLost.j1
 refine lost_l1 hp hL a1 (key : Int) true ?_ L.length 0 [] (0, 0, 0, 0, 0, 0, 0) (by omega) ⟨by simp, by simp, fun _ => rfl, fun h => absurd rfl h, by simp⟩
 intro came last hc
 have hk : KeysOk [(key : Int)] := fun x hx => by rw [List.mem_singleton.1 hx]; omega
 have hlen := hc.len
 have hcr : ∀ c ∈ came, rightB [(key : Int)] c = true ∧ c.f0 = 0 ∧ c.f2 = 5 ∧ c.f3 ≤ 100000 ∧ c.f1 ≤ 20 ∧ 0 ≤ c.f5 := fun c h => hr c (List.mem_of_mem_take (hc.sub c h))
 have hf : came.filter (accB [(key : Int)] 5) = came := by
  rw [List.filter_eq_self]
  intro c h
  unfold accB
  rw [(hcr c h).1, (hcr c h).2.2.1]
  rfl
 have hG := ev_Gather hk came 5 (by simp) (by omega)
 unfold evid at hG
 rw [hf] at hG
 by_cases hne : came = []
 ·refine Ev.neg (by rw [hne]; simp) (Ev.pos rfl (Ev.bind hG ?_))
  rw [hne, gath_nil]
  exact Ev.now _
 ·have hpos : 0 < came.length := List.length_pos_iff.2 hne
  obtain ⟨m, hm, rfl, hmax⟩ := hc.some_ hne
  have hok := acc_okB (keys := [(key : Int)]) (p := 5) (c := m) (by unfold accB; rw [(hcr m hm).1, (hcr m hm).2.2.1]; rfl)
  have hb := hok.1
  unfold okB at hb
  refine Ev.pos (by omega) (Ev.pos rfl (Ev.bind hG ?_))
  have hcm := (hcr m hm)
  rw [gath_one (fun c h => (hcr c h).2.1) hne, maxs_eq (List.mem_map.2 ⟨m, hm, rfl⟩) (by omega) (fun x hx => by obtain ⟨c, h, rfl⟩ := List.mem_map.1 hx; exact (hmax c h).2.1),
   maxs_eq (List.mem_map.2 ⟨m, hm, rfl⟩) (by omega) (fun x hx => by obtain ⟨c, h, rfl⟩ := List.mem_map.1 hx; exact (hmax c h).2.2.1),
   maxs_eq (List.mem_map.2 ⟨m, hm, rfl⟩) (by omega) (fun x hx => by obtain ⟨c, h, rfl⟩ := List.mem_map.1 hx; exact (hmax c h).2.2.2),
   maxs_eq (List.mem_map.2 ⟨m, hm, rfl⟩) (by omega) (fun x hx => by obtain ⟨c, h, rfl⟩ := List.mem_map.1 hx; exact (hmax c h).1), nub_of_nodup hc.nodup, List.length_map]
  have hw : wrap64 ((tup m).2.1 - (came.length : Int)) = m.f1 - (came.length : Int) := wrap64_of (by simp only [tup]; omega) (by simp only [tup]; omega)
  rw [hw]
  simp only [tup, beq_self_eq_true, Bool.and_self]
  exact Ev.now _
end Go.Proofs.Ytfdoncgljohndaa.Pure
namespace Go.Proofs.YtfdoncgljohndaaH
open Go.RowKit Go.Proofs.YtfdoncgljohndaaW.PrintWords
variable {P : Program}
/-- What can be read as_ a value of type t is a value of kind d, and g holds of it. -/
def Opens (P : Program) (t : TypeId) {α : Type} (d : Kd α) (g : α → Prop) : Prop :=
 ∀ {H : Type} (enc : TypeId × Value → H) (W : World) (sp : Nat → Bool) (fuel : Nat) (cs : List Value) (x : DataW H × List MemPlace), DataW.trod enc P W 0 sp true fuel t cs = some x → ∃ y, d.K W y cs ∧ g y
theorem opens_int {t : TypeId} {k : IntKind} (ht : P.underlying t = some (.int k)) : Opens P t (Kd.int k) (fun n => (Lit.int k n).wf = true) := by
 intro H enc W sp fuel cs x h
 obtain ⟨n, rfl, _, hw⟩ := DataW.trod_int ht h
 exact ⟨n, rfl, hw⟩
theorem opens_slice {t e : TypeId} {α : Type} {d : Kd α} {g : α → Prop} (ht : P.underlying t = some (.slice e)) (hd : Opens P e d g) (hs : P.cellsOf e = d.sz) :
  Opens P t (Kd.slice e d) (fun l => l.length ≤ maxLen ∧ ∀ x ∈ l, g x) := by
 intro H enc W sp fuel cs x h
 rcases Deep.open_slice ht h with ⟨rfl, _⟩ | ⟨a, len, cap, m, n, D, Pl, rfl, _, hl, hm, hme, _, hel⟩
 ·refine ⟨[], ⟨none, 0, rfl, Nat.le_refl _, rfl, Nat.zero_le _, fun h => absurd h (Nat.lt_irrefl _)⟩, Nat.zero_le _, by simp⟩
 ·have hlm : len ≤ m := by rw [hme]; split <;> omega
  have h1 : ∀ i, ∃ z : Option α, i < len → ∃ y c, z = some y ∧ W.cells? 0 (a.add (i * P.cellsOf e)) (P.cellsOf e) = some c ∧ d.K W y c ∧ g y := by
   intro i
   by_cases hi : i < len
   ·obtain ⟨c, hc, hx⟩ := hel i (by omega)
    obtain ⟨y, hy, hg⟩ := hd enc W sp n c _ hx
    exact ⟨some y, fun _ => ⟨y, c, rfl, hc, hy, hg⟩⟩
   ·exact ⟨none, fun h => absurd h hi⟩
  obtain ⟨f, hf⟩ := Classical.axiomOfChoice h1
  have h2 : ∀ i, i < len → ∃ y c, f i = some y ∧ W.cells? 0 (a.add (i * P.cellsOf e)) (P.cellsOf e) = some c ∧ d.K W y c ∧ g y := fun i hi => hf i hi
  have key : ∀ k, k ≤ len → ∃ l : List α, l.length = k ∧ ∀ i, i < k → l[i]? = f i := by
   intro k
   induction k with
   | zero => intro _; exact ⟨[], rfl, fun i hi => absurd hi (Nat.not_lt_zero _)⟩
   | succ k ih =>
    intro hk
    obtain ⟨l, hll, hli⟩ := ih (by omega)
    obtain ⟨y, c, hy, _⟩ := h2 k (by omega)
    refine ⟨l ++ [y], by simp [hll], fun i hi => ?_⟩
    by_cases hik : i < k
    ·rw [List.getElem?_append_left (by omega)]; exact hli i hik
    ·have : i = k := by omega
     subst this
     rw [List.getElem?_append_right (by omega), hll]
     simp [hy]
  obtain ⟨l, hll, hli⟩ := key len (Nat.le_refl _)
  refine ⟨l, ⟨some a, cap, by rw [hll], by omega, rfl, ?_, fun _ => ⟨a, rfl, ?_⟩⟩, by omega, ?_⟩
  ·rw [hll]; unfold maxLen at hm; omega
  ·intro j p hj
   have hjl : j < len := by rw [← hll]; exact (List.getElem?_eq_some_iff.1 hj).1
   obtain ⟨y, c, hy, hc, hK, _⟩ := h2 j hjl
   have : p = y := by
    rw [hli j hjl, hy] at hj
    exact (Option.some.inj hj).symm
   subst this
   refine ⟨c, d.K_len hK, hK, fun i u hu => ?_⟩
   obtain ⟨_, hcl, hcc⟩ := World.cells?_some hc
   have hi : i < P.cellsOf e := by rw [← hcl]; exact (List.getElem?_eq_some_iff.1 hu).1
   rw [← hs, ← Deep.add_add, hcc i hi, hu]
  ·intro x hx
   obtain ⟨j, hj⟩ := List.getElem?_of_mem hx
   have hjl : j < len := by rw [← hll]; exact (List.getElem?_eq_some_iff.1 hj).1
   obtain ⟨y, c, hy, hc, hK, hg⟩ := h2 j hjl
   rw [hli j hjl, hy] at hj
   rw [← Option.some.inj hj]
   exact hg
/-- The fields from an offset on. -/
def OpensAt (P : Program) (off : Nat) (fs : List (TypeId × Nat)) {α : Type} (d : Kd α) (g : α → Prop) : Prop :=
 ∀ {H : Type} (enc : TypeId × Value → H) (W : World) (sp : Nat → Bool) (fuel : Nat) (cs : List Value), cs.length = off + d.sz → (∀ f ∈ fs, ∃ x, DataW.trod enc P W 0 sp true fuel f.1 ((cs.drop f.2).take (P.cellsOf f.1)) = some x) → ∃ y, d.K W y (cs.drop off) ∧ g y
theorem opens_last {off : Nat} {t : TypeId} {α : Type} {d : Kd α} {g : α → Prop} (ho : Opens P t d g) (hs : P.cellsOf t = d.sz) : OpensAt P off [(t, off)] d g := by
 intro H enc W sp fuel cs hl hf
 obtain ⟨x, hx⟩ := hf (t, off) (by simp)
 have e : (cs.drop off).take (P.cellsOf t) = cs.drop off := List.take_of_length_le (by rw [List.length_drop, hs]; omega)
 rw [e] at hx
 exact ho enc W sp fuel _ x hx
theorem opens_next {off : Nat} {t : TypeId} {fs : List (TypeId × Nat)} {α β : Type} {d : Kd α} {d' : Kd β} {g : α → Prop} {g' : β → Prop} (ho : Opens P t d g) (hs : P.cellsOf t = d.sz) (hr : OpensAt P (off + d.sz) fs d' g') :
  OpensAt P off ((t, off) :: fs) (Kd.pair d d') (fun x => g x.1 ∧ g' x.2) := by
 intro H enc W sp fuel cs hl hf
 have hl' : cs.length = off + d.sz + d'.sz := by have : (Kd.pair d d').sz = d.sz + d'.sz := rfl; omega
 obtain ⟨x, hx⟩ := hf (t, off) (by simp)
 obtain ⟨y, hy, hg⟩ := ho enc W sp fuel _ x hx
 obtain ⟨y', hy', hg'⟩ := hr enc W sp fuel cs hl' (fun f h => hf f (by simp [h]))
 refine ⟨(y, y'), ⟨_, _, ?_, hy, hy'⟩, hg, hg'⟩
 show cs.drop off = (cs.drop off).take (P.cellsOf t) ++ cs.drop (off + d.sz)
 rw [hs, ← List.drop_drop, List.take_append_drop]
theorem opens_array {t e : TypeId} {n : Nat} {α : Type} {d : Kd α} {g : α → Prop} (ht : P.underlying t = some (.array n e)) (ho : OpensAt P 0 ((List.range n).map fun i => (e, i * P.cellsOf e)) d g) (hs : P.cellsOf t = d.sz) : Opens P t d g := by
 intro H enc W sp fuel cs x h
 obtain ⟨xs, m, _, _, hl, hlen, hf⟩ := DataW.trod_array ht h
 have := ho enc W sp m cs (by omega) (fun f hfm => by
  obtain ⟨i, hm, rfl⟩ := List.mem_map.1 hfm
  have hlt : i < n := by simpa using hm
  have := hf i hlt
  rw [List.getElem?_eq_getElem (by omega)] at this
  exact ⟨_, this⟩)
 simpa using this
theorem opens_iso {t : TypeId} {α β : Type} {d : Kd α} {g : α → Prop} (f : β → α) (mk : α → β) (hf : ∀ a, f (mk a) = a) (ho : Opens P t d g) : Opens P t (Kd.iso d f) (fun b => g (f b)) := by
 intro H enc W sp fuel cs x h
 obtain ⟨y, hy, hg⟩ := ho enc W sp fuel cs x h
 refine ⟨mk y, ?_, ?_⟩
 ·show d.K W (f (mk y)) cs
  rw [hf]
  exact hy
 ·show g (f (mk y))
  rw [hf]
  exact hg
theorem Opens.at_ {H : Type} {enc : TypeId × Value → H} {W : World} {sp : Nat → Bool} {t : TypeId} {v : Value} {x : DataW H} {ps : List MemPlace} {α : Type} {d : Kd α} {g : α → Prop} (ho : Opens P t d g) (h : DataW.Trod enc P W 0 sp true t v x ps) : ∃ y, d.K W y v.cells.toList ∧ g y := by
 obtain ⟨fuel, hf⟩ := h
 exact ho enc W sp fuel _ _ hf
end Go.Proofs.YtfdoncgljohndaaH
namespace Go.Proofs.Ytfdoncgljohndaa.fieldLost
open Go.ChangeShapes Go.WideShapes Go.ChangeAt Go.RowKit Go.Proofs.YtfdoncgljohndaaH Go.Proofs.Ytfdoncgljohndaa.P Go.Proofs.YtfdoncgljohndaaW.PrintWords
open Go.ChangeMaps (open_string shut_string)
theorem own : ownKnob Try.prog.godebug = none := by kernel_rfl
theorem laidOut : laidOutB Try.prog = true := by kernel_rfl
set_option maxRecDepth 100000 in
set_option maxHeartbeats 4000000 in
theorem lifted (os : Os) (started : os.Started) (H : Type) (enc : TypeId × Value → H) :
  ReturnsInHanded {} Try.checked os 6 .any (Rows.fieldLostSpec.pre6 enc Try.prog Try.f6 Rows.fieldLostRow.domain false) (Rows.fieldLostSpec.post enc Try.prog Try.f6 false true false false) := by
 refine returnsInHanded_of_change_sized (C := Try.checked) own started (by kernel_rfl) Try.func6
  (ChangeSpec.witness6 (enc := enc) (C := Try.checked) false ⟨#[], #[.slice none 0 0, .int .u32 0, .int .u64 0], []⟩ 8 (by kernel_rfl) (by kernel_rfl) (by kernel_rfl) (by kernel_rfl)) ?_
 intro W base args ds gs before hval0 hW hcnd hsz0 _
 have hval : ∀ (j : Nat) t v, Try.f6.params[j]? = some t → args[j]? = some v → Value.okWide Try.prog W .any base t v := hval0
 have hW' := hW
 obtain ⟨p, q, hA0, hV, rfl, hfz, hnd⟩ := hW
 have hA : DataW.TrodAll enc Try.prog W 0 (fun _ => true) true Try.f6.params.toList args.toList ds p := hA0
 rw [Try.params6] at hA hval
 obtain ⟨v0, vs0, d0, ds0, p0, q0, hargs, rfl, rfl, h0, r0⟩ := trodAll_cons hA
 obtain ⟨v1, vs1, d1, ds1, p1, q1, rfl, rfl, rfl, h1, r1⟩ := trodAll_cons r0
 obtain ⟨v2, vs2, d2, ds2, p2, q2, rfl, rfl, rfl, h2, r2⟩ := trodAll_cons r1
 obtain ⟨rfl, rfl, rfl⟩ := trodAll_nil r2
 obtain rfl : args = #[v0, v1, v2] := by cases args; simp_all
 obtain ⟨rfl, rfl⟩ := trodVars_none hV
 obtain ⟨a0, n0, c0, rfl⟩ := okWide_slice Try.underlying51 (hval 0 51 v0 rfl rfl)
 have k0 := h0
 have lt0 : ∀ x ∈ p0, x.block < W.heap.size := by obtain ⟨m, hm⟩ := k0; exact DataW.trod_lt m _ _ _ hm
 obtain ⟨y0, K0, g0⟩ := Opens.at_ (opens_slice Try.underlying51 (show Opens Try.prog 53 k53 _ from opens_iso (fun x : S53 => (x.f0, x.f1, x.f2)) (fun y => (⟨y.1, y.2.1, y.2.2⟩ : S53)) (fun _ => rfl) (opens_array Try.underlying53 (opens_next (opens_int Try.underlying5) (by kernel_rfl) (opens_next (opens_int Try.underlying5) (by kernel_rfl) (opens_last (opens_int Try.underlying5) (by kernel_rfl)))) (by kernel_rfl))) (by kernel_rfl)) h0
 obtain ⟨A0, C0, e0, l0, rr0⟩ := K0
 obtain ⟨rfl, rfl, rfl⟩ : a0 = A0 ∧ n0 = y0.length ∧ c0 = C0 := by simpa [Value.cells] using e0
 obtain ⟨a1, rfl, rfl, rfl, w1⟩ := open_int Try.underlying52 (hval 1 52 v1 rfl rfl) h1
 obtain ⟨a2, rfl, rfl, rfl, w2⟩ := open_int Try.underlying26 (hval 2 26 v2 rfl rfl) h2
 obtain ⟨k, hk⟩ := Pure.FieldLost y0 a1 a2 g0 w1 w2
 clear hA0 hval0 hsz0
 refine (parolelaw32_FieldLost.calls k _ _ y0 a1 a2 true W rr0 l0 rfl hk).mono fun e W' hpost => ?_
 obtain ⟨he, bel0⟩ := hpost
 have bel : Below W.heap.size W W' := bel0
 subst he
 exact ⟨_, rfl, _, _, _, [], _, [], hW', trodAll_mk1 (shut_bool Try.underlying4 _), (trodAll_cons_mk (Below.trod laidOut (by kernel_rfl) (of_decide_eq_true (by kernel_rfl)) k0 bel lt0) (trodAll_cons_mk (shut_int Try.underlying52 w1) (trodAll_cons_mk (shut_int Try.underlying26 w2) trodAll_mk0))), rfl, bel.frame _, fun h => by cases h⟩
theorem over : Rows.fieldLostRow.holds Try.pinned (OpenSpec.ofChange Rows.fieldLostSpec) :=
 OpenClaim.holds_of_wide 6 Try.f6 rfl rfl rfl rfl rfl rfl rfl ⟨rfl, rfl, rfl, rfl, rfl⟩ rfl rfl rfl rfl rfl (by kernel_rfl) Try.func6 (by kernel_rfl)
  (of_decide_eq_true (by kernel_rfl)) (by unfold Func.isWrapper; first | (rw [if_pos (by decide +kernel)]; kernel_rfl) | (rw [if_neg (by decide +kernel)]; exact ⟨rfl, rfl⟩))
  (fun os started H enc _ => lifted os started H enc)
theorem proved : Rows.FieldLostSaid := over
end Go.Proofs.Ytfdoncgljohndaa.fieldLost
namespace Go.Proofs.Ytfdoncgljohndaa
/-- The row, under a short name, for the claim. -/
theorem fieldLost_holds : Rows.FieldLostSaid := fieldLost.proved
end Go.Proofs.Ytfdoncgljohndaa

/- A part of the claim FieldMatchesReference: lemmas, printed functions with their contracts, plain laws. -/
import Derived.Test.YtfdoncgljohndaacFieldMatchesReference5
set_option linter.unusedVariables false
set_option linter.unusedSimpArgs false
namespace Go.Proofs.Ytfdoncgljohndaa.P
open Go.Proofs.YtfdoncgljohndaaH Go.RowKit Go.Proofs.YtfdoncgljohndaaW.PrintWords Go.Proofs.YtfdoncgljohndaaW.PrintLast Go.Proofs.YtfdoncgljohndaaW.PrintMore
attribute [local go_sem] max2_int min2_int max_two min_two max_three min_three max_four min_four   -- for this text's walks alone
def paroleref32_Right.f (k : Nat) (l0 : List Int) (a1_0 : Int) (a1_1 : Int) (a1_2 : Int) (a1_3 : Int) (a1_4 : Int) (a1_5 : Int) (a1_6 : Int) : Option (Int) := if a1_0 < 0 then (some 320) else (if a1_0 ≥ (l0.length : Int) then (some 320) else (if a1_1 < 1 then (some 320) else (if a1_1 > 1073741824 then (some 320) else (if a1_5 < 0 then (some 320) else (if a1_4 < a1_5 then (some 320) else (if a1_3 < a1_4 then (some 320) else (if a1_3 > 1099511627776 then (some 320) else (if 0 ≤ a1_0 then (if a1_0 < (l0.length : Int) then ((paroleref32_Tag.f k (rd l0 a1_0) a1_0 a1_1 a1_2 a1_3 a1_4 a1_5 a1_6).bind fun t103 => (if a1_6 = t103 then (some 0) else (some 320))) else (none)) else (none)))))))))
def paroleref32_Right.T1 : Bool × List (List Nat × List Nat) := (true, [([], []), ([0], [0]), ([1], [1]), ([2], [2]), ([3], [3]), ([4, 3], [3, 4]), ([3], [3]), ([6, 3], [3, 6]), ([5, 7, 3], [3, 5, 7]), ([3, 8], [3, 8]), ([9, 3], [9]), ([10], [10]), ([11, 10], [10, 11]), ([12, 10], [10, 12]), ([10, 13], [10, 13]), ([14, 10], [14]), ([15], [15]), ([16, 15], [15, 16]), ([17, 15], [15, 17]), ([15, 18], [15, 18]), ([19, 15], [19]), ([20], [20]), ([21, 20], [20, 21]), ([22, 20], [20, 22]), ([20, 23], [20, 23]), ([24, 20], [24]), ([25], [25]), ([26, 25], [25, 26]), ([25], [25]), ([28, 25], [25, 28]), ([27, 29, 25], [25, 27, 29]), ([25, 30], [25, 30]), ([31, 25], [31]), ([32], [32]), ([33, 32], [32, 33]), ([32], [32]), ([35, 32], [32, 35]), ([34, 36, 32], [32, 34, 36]), ([32, 37], [32, 37]), ([38, 32], [38]), ([39], [39]), ([40, 39], [39, 40]), ([41, 39], [39, 41]), ([39, 42], [39, 42]), ([43, 39], [43]), ([44], [44]), ([45, 44], [44, 45]), ([44], [44]), ([44], [44]), ([48, 44], [44, 48]), ([47, 49, 44], [44, 47, 49]), ([50, 44], [44, 50]), ([44], [44]), ([51, 52, 44, 44], [44, 51, 52]), ([46, 53, 44], [44, 46, 53]), ([44, 54], [44, 54])])
def paroleref32_Right.B1 : List Nat := [0, 1, 3, 7, 15, 31, 15, 79, 255, 511, 1023, 2047, 4095, 8191, 16383, 32767, 65535, 131071, 262143, 524287, 1048575, 2097151, 4194303, 8388607, 16777215, 33554431, 67108863, 134217727, 67108863, 335544319, 1073741823, 2147483647, 4294967295, 8589934591, 17179869183, 8589934591, 42949672959, 137438953471, 274877906943, 549755813887, 1099511627775, 2199023255551, 4398046511103, 8796093022207, 17592186044415, 35184372088831, 70368744177663, 35184372088831, 35184372088831, 316659348799487, 1020346790576127, 2146246697418751, 35184372088831, 8901646138474495, 18014398509481983, 36028797018963967]
theorem paroleref32_Right.tab1 : rtab .any (opsOf Try.f18 1) = paroleref32_Right.T1 := by kernel_rfl
theorem paroleref32_Right.bits1 : waitsOk paroleref32_Right.T1.2 paroleref32_Right.B1 = true := by kernel_rfl
set_option maxHeartbeats 40000000 in
set_option maxRecDepth 100000 in
theorem paroleref32_Right.calls (k : Nat) (A0 : Option Addr) (c0 : Nat) (l0 : List Int) (a1_0 : Int) (a1_1 : Int) (a1_2 : Int) (a1_3 : Int) (a1_4 : Int) (a1_5 : Int) (a1_6 : Int) (r : Int) (w : World) (hr0 : Kd.C (Kd.int .u64) w A0 l0.length l0) (hc0 : l0.length ≤ c0) (h : paroleref32_Right.f k l0 a1_0 a1_1 a1_2 a1_3 a1_4 a1_5 a1_6 = some r) :
  Calls Try.prog 18 #[.slice A0 l0.length c0, .agg #[.int .i64 a1_0, .int .i64 a1_1, .int .i64 a1_2, .int .i64 a1_3, .int .i64 a1_4, .int .i64 a1_5, .int .u64 a1_6]] w fun e w' => e = .returned (.int .i64 r) ∧ Below w.heap.size w w' := by
 have hu28 := Try.underlying28; have HR0 := aM hr0; have HC0 := aM hc0; clear hr0 hc0; have HB := aM (Below.refl w.heap.size w)
 have H : (if a1_0 < 0 then (some 320) else (if a1_0 ≥ (l0.length : Int) then (some 320) else (if a1_1 < 1 then (some 320) else (if a1_1 > 1073741824 then (some 320) else (if a1_5 < 0 then (some 320) else (if a1_4 < a1_5 then (some 320) else (if a1_3 < a1_4 then (some 320) else (if a1_3 > 1099511627776 then (some 320) else (if 0 ≤ a1_0 then (if a1_0 < (l0.length : Int) then ((paroleref32_Tag.f k (rd l0 a1_0) a1_0 a1_1 a1_2 a1_3 a1_4 a1_5 a1_6).bind fun t103 => (if a1_6 = t103 then (some 0) else (some 320))) else (none)) else (none)))))))))) = some r := h
 clear h
 by_cases c3 : a1_0 < 0
 ·rw [if_pos c3] at H
  have c3b0 : decide (a1_0 < 0) = true := decide_eq_true c3
  clear c3
  obtain rfl := Option.some.inj H
  go_enter Try.func18, Try.ntmps18
  try go_wp2_with (first | ((with_reducible refine gate_dst (N := 3) rfl ?_); (try (refine gate_guard (by rfl) ?_; dsimp only)); refine bE (N := 3) (cs := #[.int .i64 a1_0, .int .i64 a1_1, .int .i64 a1_2, .int .i64 a1_3, .int .i64 a1_4, .int .i64 a1_5, .int .u64 a1_6]) (t := 28) ?_; intro gb101 hg w4 hbox hb; have BK101 := aM (hbox); have GW101 := gE hg HB; have GE101 := gE hg HB; replace HB := sB HB hb; clear hb hbox hg))
  replace BK101 := aM (blk_drew BK101.out); replace HB := aM (below_drew1 HB.out)
  refine start_ (n := 56) (S := fun w' => w'.cell? ⟨gb101, 0, none⟩ = some (.int .i64 a1_0) ∧ w'.cell? ⟨gb101, 1, none⟩ = some (.int .i64 a1_1) ∧ w'.cell? ⟨gb101, 2, none⟩ = some (.int .i64 a1_2) ∧ w'.cell? ⟨gb101, 3, none⟩ = some (.int .i64 a1_3) ∧ w'.cell? ⟨gb101, 4, none⟩ = some (.int .i64 a1_4) ∧ w'.cell? ⟨gb101, 5, none⟩ = some (.int .i64 a1_5) ∧ w'.cell? ⟨gb101, 6, none⟩ = some (.int .u64 a1_6)) (ds := []) #[false, false, false, false, false, false, false, false, false, false, false, false, false, false, false, false, false, false, false, false, false, false, false, false, false, false, false, false, false, false, false, false, false, false, false, false, false, false, false, false, false, false, false, false, false, false, false, false, false, false, false, false, false, false, false, false] (by kernel_rfl) rfl rfl ⟨cE BK101 0, cE BK101 1, cE BK101 2, cE BK101 3, cE BK101 4, cE BK101 5, cE BK101 6⟩ (fun hHeld => ?_); refine with_tabW paroleref32_Right.tab1 paroleref32_Right.bits1 (fun HT_ HW_ => ?_)
  generalize w4.drew = w5 at BK101 HB hHeld ⊢
  refine pX (i := 0) (N := some 5) rfl rfl HT_ ?_
  refine tX (i := 1) (N := some 6) rfl rfl HT_ HW_ hHeld (Or.inl ⟨by rfl, by rintro w' ⟨s0, s1, s2, s3, s4, s5, s6⟩; go_simp; with_reducible rfl⟩) ?_
  refine pX (i := 2) (N := some 7) rfl rfl HT_ ?_
  refine pX (i := 3) (N := some 8) rfl rfl HT_ ?_
  refine pU (i := 4) (N := some 9) rfl rfl HT_ ?_
  refine pU (i := 5) (N := some 10) rfl rfl HT_ ?_
  refine pU (i := 6) (N := some 11) rfl rfl HT_ ?_
  refine pU (i := 7) (N := some 12) rfl rfl HT_ ?_
  refine pU (i := 8) (N := some 13) rfl rfl HT_ ?_
  refine pX (i := 9) (N := some 14) rfl rfl HT_ ?_
  refine pX (i := 10) (N := some 15) rfl rfl HT_ ?_
  refine pU (i := 11) (N := some 16) rfl rfl HT_ ?_
  refine pU (i := 12) (N := some 17) rfl rfl HT_ ?_
  refine pU (i := 13) (N := some 18) rfl rfl HT_ ?_
  refine pX (i := 14) (N := some 19) rfl rfl HT_ ?_
  refine pX (i := 15) (N := some 20) rfl rfl HT_ ?_
  refine pU (i := 16) (N := some 21) rfl rfl HT_ ?_
  refine pU (i := 17) (N := some 22) rfl rfl HT_ ?_
  refine pU (i := 18) (N := some 23) rfl rfl HT_ ?_
  refine pX (i := 19) (N := some 24) rfl rfl HT_ ?_
  refine pX (i := 20) (N := some 25) rfl rfl HT_ ?_
  refine pU (i := 21) (N := some 26) rfl rfl HT_ ?_
  refine pU (i := 22) (N := some 27) rfl rfl HT_ ?_
  refine pU (i := 23) (N := some 28) rfl rfl HT_ ?_
  refine pX (i := 24) (N := some 29) rfl rfl HT_ ?_
  refine pX (i := 25) (N := some 30) rfl rfl HT_ ?_
  refine pU (i := 26) (N := some 31) rfl rfl HT_ ?_
  refine pU (i := 27) (N := some 32) rfl rfl HT_ ?_
  refine pU (i := 28) (N := some 33) rfl rfl HT_ ?_
  refine pU (i := 29) (N := some 34) rfl rfl HT_ ?_
  refine pU (i := 30) (N := some 35) rfl rfl HT_ ?_
  refine pX (i := 31) (N := some 36) rfl rfl HT_ ?_
  refine pX (i := 32) (N := some 37) rfl rfl HT_ ?_
  refine pU (i := 33) (N := some 38) rfl rfl HT_ ?_
  refine pU (i := 34) (N := some 39) rfl rfl HT_ ?_
  refine pU (i := 35) (N := some 40) rfl rfl HT_ ?_
  refine pU (i := 36) (N := some 41) rfl rfl HT_ ?_
  refine pU (i := 37) (N := some 42) rfl rfl HT_ ?_
  refine pX (i := 38) (N := some 43) rfl rfl HT_ ?_
  refine pX (i := 39) (N := some 44) rfl rfl HT_ ?_
  refine pU (i := 40) (N := some 45) rfl rfl HT_ ?_
  refine pU (i := 41) (N := some 46) rfl rfl HT_ ?_
  refine pU (i := 42) (N := some 47) rfl rfl HT_ ?_
  refine pX (i := 43) (N := some 48) rfl rfl HT_ ?_
  refine pX (i := 44) (N := some 49) rfl rfl HT_ ?_
  refine pU (i := 45) (N := some 50) rfl rfl HT_ ?_
  refine pU (i := 46) (N := some 51) rfl rfl HT_ ?_
  refine pU (i := 47) (N := some 52) rfl rfl HT_ ?_
  refine pU (i := 48) (N := some 53) rfl rfl HT_ ?_
  refine pU (i := 49) (N := some 54) rfl rfl HT_ ?_
  refine pU (i := 50) (N := some 55) rfl rfl HT_ ?_
  refine pU (i := 51) (N := some 56) rfl rfl HT_ ?_
  refine pU (i := 52) (N := some 57) rfl rfl HT_ ?_
  refine pU (i := 53) (N := some 58) rfl rfl HT_ ?_
  refine pU (i := 54) (N := some 59) rfl rfl HT_ ?_
  refine pX (i := 55) (N := some 60) rfl rfl HT_ ?_
  refine done_ (done_of HT_.out (by kernel_rfl)) ?_
  try go_wp2
  go_ret
  exact ⟨by first | rfl | (simp [errW_none, errW_some] <;> rfl) | (simp [*, errW_none, errW_some] <;> rfl), sD HB⟩
 rw [if_neg c3] at H
 have c3b0 : decide (a1_0 < 0) = false := decide_eq_false c3
 clear c3
 by_cases c6 : a1_0 ≥ (l0.length : Int)
 ·rw [if_pos c6] at H
  have c6b0 : decide ((l0.length : Int) ≤ a1_0) = true := decide_eq_true c6
  clear c6
  obtain rfl := Option.some.inj H
  go_enter Try.func18, Try.ntmps18
  try go_wp2_with (first | ((with_reducible refine gate_dst (N := 3) rfl ?_); (try (refine gate_guard (by rfl) ?_; dsimp only)); refine bE (N := 3) (cs := #[.int .i64 a1_0, .int .i64 a1_1, .int .i64 a1_2, .int .i64 a1_3, .int .i64 a1_4, .int .i64 a1_5, .int .u64 a1_6]) (t := 28) ?_; intro gb101 hg w7 hbox hb; have BK101 := aM (hbox); have GW101 := gE hg HB; have GE101 := gE hg HB; replace HB := sB HB hb; clear hb hbox hg))
  replace BK101 := aM (blk_drew BK101.out); replace HB := aM (below_drew1 HB.out)
  refine start_ (n := 56) (S := fun w' => w'.cell? ⟨gb101, 0, none⟩ = some (.int .i64 a1_0) ∧ w'.cell? ⟨gb101, 1, none⟩ = some (.int .i64 a1_1) ∧ w'.cell? ⟨gb101, 2, none⟩ = some (.int .i64 a1_2) ∧ w'.cell? ⟨gb101, 3, none⟩ = some (.int .i64 a1_3) ∧ w'.cell? ⟨gb101, 4, none⟩ = some (.int .i64 a1_4) ∧ w'.cell? ⟨gb101, 5, none⟩ = some (.int .i64 a1_5) ∧ w'.cell? ⟨gb101, 6, none⟩ = some (.int .u64 a1_6)) (ds := []) #[false, false, false, false, false, false, false, false, false, false, false, false, false, false, false, false, false, false, false, false, false, false, false, false, false, false, false, false, false, false, false, false, false, false, false, false, false, false, false, false, false, false, false, false, false, false, false, false, false, false, false, false, false, false, false, false] (by kernel_rfl) rfl rfl ⟨cE BK101 0, cE BK101 1, cE BK101 2, cE BK101 3, cE BK101 4, cE BK101 5, cE BK101 6⟩ (fun hHeld => ?_); refine with_tabW paroleref32_Right.tab1 paroleref32_Right.bits1 (fun HT_ HW_ => ?_)
  generalize w7.drew = w8 at BK101 HB hHeld ⊢
  refine pX (i := 0) (N := some 5) rfl rfl HT_ ?_
  refine tX (i := 1) (N := some 6) rfl rfl HT_ HW_ hHeld (Or.inl ⟨by rfl, by rintro w' ⟨s0, s1, s2, s3, s4, s5, s6⟩; go_simp; with_reducible rfl⟩) ?_
  refine pX (i := 2) (N := some 7) rfl rfl HT_ ?_
  refine pX (i := 3) (N := some 8) rfl rfl HT_ ?_
  refine pX (i := 4) (N := some 9) rfl rfl HT_ ?_
  refine pX (i := 6) (N := some 11) rfl rfl HT_ ?_
  refine pX (i := 7) (N := some 12) rfl rfl HT_ ?_
  refine tX (i := 5) (N := some 10) rfl rfl HT_ HW_ hHeld (Or.inl ⟨by rfl, by rintro w' ⟨s0, s1, s2, s3, s4, s5, s6⟩; go_simp; with_reducible rfl⟩) ?_
  refine pX (i := 8) (N := some 13) rfl rfl HT_ ?_
  refine pX (i := 9) (N := some 14) rfl rfl HT_ ?_
  refine pX (i := 10) (N := some 15) rfl rfl HT_ ?_
  refine pU (i := 11) (N := some 16) rfl rfl HT_ ?_
  refine pU (i := 12) (N := some 17) rfl rfl HT_ ?_
  refine pU (i := 13) (N := some 18) rfl rfl HT_ ?_
  refine pX (i := 14) (N := some 19) rfl rfl HT_ ?_
  refine pX (i := 15) (N := some 20) rfl rfl HT_ ?_
  refine pU (i := 16) (N := some 21) rfl rfl HT_ ?_
  refine pU (i := 17) (N := some 22) rfl rfl HT_ ?_
  refine pU (i := 18) (N := some 23) rfl rfl HT_ ?_
  refine pX (i := 19) (N := some 24) rfl rfl HT_ ?_
  refine pX (i := 20) (N := some 25) rfl rfl HT_ ?_
  refine pU (i := 21) (N := some 26) rfl rfl HT_ ?_
  refine pU (i := 22) (N := some 27) rfl rfl HT_ ?_
  refine pU (i := 23) (N := some 28) rfl rfl HT_ ?_
  refine pX (i := 24) (N := some 29) rfl rfl HT_ ?_
  refine pX (i := 25) (N := some 30) rfl rfl HT_ ?_
  refine pU (i := 26) (N := some 31) rfl rfl HT_ ?_
  refine pU (i := 27) (N := some 32) rfl rfl HT_ ?_
  refine pU (i := 28) (N := some 33) rfl rfl HT_ ?_
  refine pU (i := 29) (N := some 34) rfl rfl HT_ ?_
  refine pU (i := 30) (N := some 35) rfl rfl HT_ ?_
  refine pX (i := 31) (N := some 36) rfl rfl HT_ ?_
  refine pX (i := 32) (N := some 37) rfl rfl HT_ ?_
  refine pU (i := 33) (N := some 38) rfl rfl HT_ ?_
  refine pU (i := 34) (N := some 39) rfl rfl HT_ ?_
  refine pU (i := 35) (N := some 40) rfl rfl HT_ ?_
  refine pU (i := 36) (N := some 41) rfl rfl HT_ ?_
  refine pU (i := 37) (N := some 42) rfl rfl HT_ ?_
  refine pX (i := 38) (N := some 43) rfl rfl HT_ ?_
  refine pX (i := 39) (N := some 44) rfl rfl HT_ ?_
  refine pU (i := 40) (N := some 45) rfl rfl HT_ ?_
  refine pU (i := 41) (N := some 46) rfl rfl HT_ ?_
  refine pU (i := 42) (N := some 47) rfl rfl HT_ ?_
  refine pX (i := 43) (N := some 48) rfl rfl HT_ ?_
  refine pX (i := 44) (N := some 49) rfl rfl HT_ ?_
  refine pU (i := 45) (N := some 50) rfl rfl HT_ ?_
  refine pU (i := 46) (N := some 51) rfl rfl HT_ ?_
  refine pU (i := 47) (N := some 52) rfl rfl HT_ ?_
  refine pU (i := 48) (N := some 53) rfl rfl HT_ ?_
  refine pU (i := 49) (N := some 54) rfl rfl HT_ ?_
  refine pU (i := 50) (N := some 55) rfl rfl HT_ ?_
  refine pU (i := 51) (N := some 56) rfl rfl HT_ ?_
  refine pU (i := 52) (N := some 57) rfl rfl HT_ ?_
  refine pU (i := 53) (N := some 58) rfl rfl HT_ ?_
  refine pU (i := 54) (N := some 59) rfl rfl HT_ ?_
  refine pX (i := 55) (N := some 60) rfl rfl HT_ ?_
  refine done_ (done_of HT_.out (by kernel_rfl)) ?_
  try go_wp2
  go_ret
  exact ⟨by first | rfl | (simp [errW_none, errW_some] <;> rfl) | (simp [*, errW_none, errW_some] <;> rfl), sD HB⟩
 rw [if_neg c6] at H
 have c6b0 : decide ((l0.length : Int) ≤ a1_0) = false := decide_eq_false c6
 clear c6
 by_cases c9 : a1_1 < 1
 ·rw [if_pos c9] at H
  have c9b0 : decide (a1_1 < 1) = true := decide_eq_true c9
  clear c9
  obtain rfl := Option.some.inj H
  go_enter Try.func18, Try.ntmps18
  try go_wp2_with (first | ((with_reducible refine gate_dst (N := 3) rfl ?_); (try (refine gate_guard (by rfl) ?_; dsimp only)); refine bE (N := 3) (cs := #[.int .i64 a1_0, .int .i64 a1_1, .int .i64 a1_2, .int .i64 a1_3, .int .i64 a1_4, .int .i64 a1_5, .int .u64 a1_6]) (t := 28) ?_; intro gb101 hg w10 hbox hb; have BK101 := aM (hbox); have GW101 := gE hg HB; have GE101 := gE hg HB; replace HB := sB HB hb; clear hb hbox hg))
  replace BK101 := aM (blk_drew BK101.out); replace HB := aM (below_drew1 HB.out)
  refine start_ (n := 56) (S := fun w' => w'.cell? ⟨gb101, 0, none⟩ = some (.int .i64 a1_0) ∧ w'.cell? ⟨gb101, 1, none⟩ = some (.int .i64 a1_1) ∧ w'.cell? ⟨gb101, 2, none⟩ = some (.int .i64 a1_2) ∧ w'.cell? ⟨gb101, 3, none⟩ = some (.int .i64 a1_3) ∧ w'.cell? ⟨gb101, 4, none⟩ = some (.int .i64 a1_4) ∧ w'.cell? ⟨gb101, 5, none⟩ = some (.int .i64 a1_5) ∧ w'.cell? ⟨gb101, 6, none⟩ = some (.int .u64 a1_6)) (ds := []) #[false, false, false, false, false, false, false, false, false, false, false, false, false, false, false, false, false, false, false, false, false, false, false, false, false, false, false, false, false, false, false, false, false, false, false, false, false, false, false, false, false, false, false, false, false, false, false, false, false, false, false, false, false, false, false, false] (by kernel_rfl) rfl rfl ⟨cE BK101 0, cE BK101 1, cE BK101 2, cE BK101 3, cE BK101 4, cE BK101 5, cE BK101 6⟩ (fun hHeld => ?_); refine with_tabW paroleref32_Right.tab1 paroleref32_Right.bits1 (fun HT_ HW_ => ?_)
  generalize w10.drew = w11 at BK101 HB hHeld ⊢
  refine pX (i := 0) (N := some 5) rfl rfl HT_ ?_
  refine tX (i := 1) (N := some 6) rfl rfl HT_ HW_ hHeld (Or.inl ⟨by rfl, by rintro w' ⟨s0, s1, s2, s3, s4, s5, s6⟩; go_simp; with_reducible rfl⟩) ?_
  refine pX (i := 2) (N := some 7) rfl rfl HT_ ?_
  refine pX (i := 3) (N := some 8) rfl rfl HT_ ?_
  refine pX (i := 4) (N := some 9) rfl rfl HT_ ?_
  refine pX (i := 6) (N := some 11) rfl rfl HT_ ?_
  refine pX (i := 7) (N := some 12) rfl rfl HT_ ?_
  refine tX (i := 5) (N := some 10) rfl rfl HT_ HW_ hHeld (Or.inl ⟨by rfl, by rintro w' ⟨s0, s1, s2, s3, s4, s5, s6⟩; go_simp; with_reducible rfl⟩) ?_
  refine pX (i := 8) (N := some 13) rfl rfl HT_ ?_
  refine pX (i := 9) (N := some 14) rfl rfl HT_ ?_
  refine pX (i := 10) (N := some 15) rfl rfl HT_ ?_
  refine pX (i := 11) (N := some 16) rfl rfl HT_ ?_
  refine tX (i := 12) (N := some 17) rfl rfl HT_ HW_ hHeld (Or.inl ⟨by rfl, by rintro w' ⟨s0, s1, s2, s3, s4, s5, s6⟩; go_simp; with_reducible rfl⟩) ?_
  refine pX (i := 13) (N := some 18) rfl rfl HT_ ?_
  refine pX (i := 14) (N := some 19) rfl rfl HT_ ?_
  refine pX (i := 15) (N := some 20) rfl rfl HT_ ?_
  refine pU (i := 16) (N := some 21) rfl rfl HT_ ?_
  refine pU (i := 17) (N := some 22) rfl rfl HT_ ?_
  refine pU (i := 18) (N := some 23) rfl rfl HT_ ?_
  refine pX (i := 19) (N := some 24) rfl rfl HT_ ?_
  refine pX (i := 20) (N := some 25) rfl rfl HT_ ?_
  refine pU (i := 21) (N := some 26) rfl rfl HT_ ?_
  refine pU (i := 22) (N := some 27) rfl rfl HT_ ?_
  refine pU (i := 23) (N := some 28) rfl rfl HT_ ?_
  refine pX (i := 24) (N := some 29) rfl rfl HT_ ?_
  refine pX (i := 25) (N := some 30) rfl rfl HT_ ?_
  refine pU (i := 26) (N := some 31) rfl rfl HT_ ?_
  refine pU (i := 27) (N := some 32) rfl rfl HT_ ?_
  refine pU (i := 28) (N := some 33) rfl rfl HT_ ?_
  refine pU (i := 29) (N := some 34) rfl rfl HT_ ?_
  refine pU (i := 30) (N := some 35) rfl rfl HT_ ?_
  refine pX (i := 31) (N := some 36) rfl rfl HT_ ?_
  refine pX (i := 32) (N := some 37) rfl rfl HT_ ?_
  refine pU (i := 33) (N := some 38) rfl rfl HT_ ?_
  refine pU (i := 34) (N := some 39) rfl rfl HT_ ?_
  refine pU (i := 35) (N := some 40) rfl rfl HT_ ?_
  refine pU (i := 36) (N := some 41) rfl rfl HT_ ?_
  refine pU (i := 37) (N := some 42) rfl rfl HT_ ?_
  refine pX (i := 38) (N := some 43) rfl rfl HT_ ?_
  refine pX (i := 39) (N := some 44) rfl rfl HT_ ?_
  refine pU (i := 40) (N := some 45) rfl rfl HT_ ?_
  refine pU (i := 41) (N := some 46) rfl rfl HT_ ?_
  refine pU (i := 42) (N := some 47) rfl rfl HT_ ?_
  refine pX (i := 43) (N := some 48) rfl rfl HT_ ?_
  refine pX (i := 44) (N := some 49) rfl rfl HT_ ?_
  refine pU (i := 45) (N := some 50) rfl rfl HT_ ?_
  refine pU (i := 46) (N := some 51) rfl rfl HT_ ?_
  refine pU (i := 47) (N := some 52) rfl rfl HT_ ?_
  refine pU (i := 48) (N := some 53) rfl rfl HT_ ?_
  refine pU (i := 49) (N := some 54) rfl rfl HT_ ?_
  refine pU (i := 50) (N := some 55) rfl rfl HT_ ?_
  refine pU (i := 51) (N := some 56) rfl rfl HT_ ?_
  refine pU (i := 52) (N := some 57) rfl rfl HT_ ?_
  refine pU (i := 53) (N := some 58) rfl rfl HT_ ?_
  refine pU (i := 54) (N := some 59) rfl rfl HT_ ?_
  refine pX (i := 55) (N := some 60) rfl rfl HT_ ?_
  refine done_ (done_of HT_.out (by kernel_rfl)) ?_
  try go_wp2
  go_ret
  exact ⟨by first | rfl | (simp [errW_none, errW_some] <;> rfl) | (simp [*, errW_none, errW_some] <;> rfl), sD HB⟩
 rw [if_neg c9] at H
 have c9b0 : decide (a1_1 < 1) = false := decide_eq_false c9
 clear c9
 by_cases c12 : a1_1 > 1073741824
 ·rw [if_pos c12] at H
  have c12b0 : decide (1073741824 < a1_1) = true := decide_eq_true c12
  clear c12
  obtain rfl := Option.some.inj H
  go_enter Try.func18, Try.ntmps18
  try go_wp2_with (first | ((with_reducible refine gate_dst (N := 3) rfl ?_); (try (refine gate_guard (by rfl) ?_; dsimp only)); refine bE (N := 3) (cs := #[.int .i64 a1_0, .int .i64 a1_1, .int .i64 a1_2, .int .i64 a1_3, .int .i64 a1_4, .int .i64 a1_5, .int .u64 a1_6]) (t := 28) ?_; intro gb101 hg w13 hbox hb; have BK101 := aM (hbox); have GW101 := gE hg HB; have GE101 := gE hg HB; replace HB := sB HB hb; clear hb hbox hg))
  replace BK101 := aM (blk_drew BK101.out); replace HB := aM (below_drew1 HB.out)
  refine start_ (n := 56) (S := fun w' => w'.cell? ⟨gb101, 0, none⟩ = some (.int .i64 a1_0) ∧ w'.cell? ⟨gb101, 1, none⟩ = some (.int .i64 a1_1) ∧ w'.cell? ⟨gb101, 2, none⟩ = some (.int .i64 a1_2) ∧ w'.cell? ⟨gb101, 3, none⟩ = some (.int .i64 a1_3) ∧ w'.cell? ⟨gb101, 4, none⟩ = some (.int .i64 a1_4) ∧ w'.cell? ⟨gb101, 5, none⟩ = some (.int .i64 a1_5) ∧ w'.cell? ⟨gb101, 6, none⟩ = some (.int .u64 a1_6)) (ds := []) #[false, false, false, false, false, false, false, false, false, false, false, false, false, false, false, false, false, false, false, false, false, false, false, false, false, false, false, false, false, false, false, false, false, false, false, false, false, false, false, false, false, false, false, false, false, false, false, false, false, false, false, false, false, false, false, false] (by kernel_rfl) rfl rfl ⟨cE BK101 0, cE BK101 1, cE BK101 2, cE BK101 3, cE BK101 4, cE BK101 5, cE BK101 6⟩ (fun hHeld => ?_); refine with_tabW paroleref32_Right.tab1 paroleref32_Right.bits1 (fun HT_ HW_ => ?_)
  generalize w13.drew = w14 at BK101 HB hHeld ⊢
  refine pX (i := 0) (N := some 5) rfl rfl HT_ ?_
  refine tX (i := 1) (N := some 6) rfl rfl HT_ HW_ hHeld (Or.inl ⟨by rfl, by rintro w' ⟨s0, s1, s2, s3, s4, s5, s6⟩; go_simp; with_reducible rfl⟩) ?_
  refine pX (i := 2) (N := some 7) rfl rfl HT_ ?_
  refine pX (i := 3) (N := some 8) rfl rfl HT_ ?_
  refine pX (i := 4) (N := some 9) rfl rfl HT_ ?_
  refine pX (i := 6) (N := some 11) rfl rfl HT_ ?_
  refine pX (i := 7) (N := some 12) rfl rfl HT_ ?_
  refine tX (i := 5) (N := some 10) rfl rfl HT_ HW_ hHeld (Or.inl ⟨by rfl, by rintro w' ⟨s0, s1, s2, s3, s4, s5, s6⟩; go_simp; with_reducible rfl⟩) ?_
  refine pX (i := 8) (N := some 13) rfl rfl HT_ ?_
  refine pX (i := 9) (N := some 14) rfl rfl HT_ ?_
  refine pX (i := 10) (N := some 15) rfl rfl HT_ ?_
  refine pX (i := 11) (N := some 16) rfl rfl HT_ ?_
  refine tX (i := 12) (N := some 17) rfl rfl HT_ HW_ hHeld (Or.inl ⟨by rfl, by rintro w' ⟨s0, s1, s2, s3, s4, s5, s6⟩; go_simp; with_reducible rfl⟩) ?_
  refine pX (i := 13) (N := some 18) rfl rfl HT_ ?_
  refine pX (i := 14) (N := some 19) rfl rfl HT_ ?_
  refine pX (i := 15) (N := some 20) rfl rfl HT_ ?_
  refine pX (i := 16) (N := some 21) rfl rfl HT_ ?_
  refine tX (i := 17) (N := some 22) rfl rfl HT_ HW_ hHeld (Or.inl ⟨by rfl, by rintro w' ⟨s0, s1, s2, s3, s4, s5, s6⟩; go_simp; with_reducible rfl⟩) ?_
  refine pX (i := 18) (N := some 23) rfl rfl HT_ ?_
  refine pX (i := 19) (N := some 24) rfl rfl HT_ ?_
  refine pX (i := 20) (N := some 25) rfl rfl HT_ ?_
  refine pU (i := 21) (N := some 26) rfl rfl HT_ ?_
  refine pU (i := 22) (N := some 27) rfl rfl HT_ ?_
  refine pU (i := 23) (N := some 28) rfl rfl HT_ ?_
  refine pX (i := 24) (N := some 29) rfl rfl HT_ ?_
  refine pX (i := 25) (N := some 30) rfl rfl HT_ ?_
  refine pU (i := 26) (N := some 31) rfl rfl HT_ ?_
  refine pU (i := 27) (N := some 32) rfl rfl HT_ ?_
  refine pU (i := 28) (N := some 33) rfl rfl HT_ ?_
  refine pU (i := 29) (N := some 34) rfl rfl HT_ ?_
  refine pU (i := 30) (N := some 35) rfl rfl HT_ ?_
  refine pX (i := 31) (N := some 36) rfl rfl HT_ ?_
  refine pX (i := 32) (N := some 37) rfl rfl HT_ ?_
  refine pU (i := 33) (N := some 38) rfl rfl HT_ ?_
  refine pU (i := 34) (N := some 39) rfl rfl HT_ ?_
  refine pU (i := 35) (N := some 40) rfl rfl HT_ ?_
  refine pU (i := 36) (N := some 41) rfl rfl HT_ ?_
  refine pU (i := 37) (N := some 42) rfl rfl HT_ ?_
  refine pX (i := 38) (N := some 43) rfl rfl HT_ ?_
  refine pX (i := 39) (N := some 44) rfl rfl HT_ ?_
  refine pU (i := 40) (N := some 45) rfl rfl HT_ ?_
  refine pU (i := 41) (N := some 46) rfl rfl HT_ ?_
  refine pU (i := 42) (N := some 47) rfl rfl HT_ ?_
  refine pX (i := 43) (N := some 48) rfl rfl HT_ ?_
  refine pX (i := 44) (N := some 49) rfl rfl HT_ ?_
  refine pU (i := 45) (N := some 50) rfl rfl HT_ ?_
  refine pU (i := 46) (N := some 51) rfl rfl HT_ ?_
  refine pU (i := 47) (N := some 52) rfl rfl HT_ ?_
  refine pU (i := 48) (N := some 53) rfl rfl HT_ ?_
  refine pU (i := 49) (N := some 54) rfl rfl HT_ ?_
  refine pU (i := 50) (N := some 55) rfl rfl HT_ ?_
  refine pU (i := 51) (N := some 56) rfl rfl HT_ ?_
  refine pU (i := 52) (N := some 57) rfl rfl HT_ ?_
  refine pU (i := 53) (N := some 58) rfl rfl HT_ ?_
  refine pU (i := 54) (N := some 59) rfl rfl HT_ ?_
  refine pX (i := 55) (N := some 60) rfl rfl HT_ ?_
  refine done_ (done_of HT_.out (by kernel_rfl)) ?_
  try go_wp2
  go_ret
  exact ⟨by first | rfl | (simp [errW_none, errW_some] <;> rfl) | (simp [*, errW_none, errW_some] <;> rfl), sD HB⟩
 rw [if_neg c12] at H
 have c12b0 : decide (1073741824 < a1_1) = false := decide_eq_false c12
 clear c12
 by_cases c15 : a1_5 < 0
 ·rw [if_pos c15] at H
  have c15b0 : decide (a1_5 < 0) = true := decide_eq_true c15
  clear c15
  obtain rfl := Option.some.inj H
  go_enter Try.func18, Try.ntmps18
  try go_wp2_with (first | ((with_reducible refine gate_dst (N := 3) rfl ?_); (try (refine gate_guard (by rfl) ?_; dsimp only)); refine bE (N := 3) (cs := #[.int .i64 a1_0, .int .i64 a1_1, .int .i64 a1_2, .int .i64 a1_3, .int .i64 a1_4, .int .i64 a1_5, .int .u64 a1_6]) (t := 28) ?_; intro gb101 hg w16 hbox hb; have BK101 := aM (hbox); have GW101 := gE hg HB; have GE101 := gE hg HB; replace HB := sB HB hb; clear hb hbox hg))
  replace BK101 := aM (blk_drew BK101.out); replace HB := aM (below_drew1 HB.out)
  refine start_ (n := 56) (S := fun w' => w'.cell? ⟨gb101, 0, none⟩ = some (.int .i64 a1_0) ∧ w'.cell? ⟨gb101, 1, none⟩ = some (.int .i64 a1_1) ∧ w'.cell? ⟨gb101, 2, none⟩ = some (.int .i64 a1_2) ∧ w'.cell? ⟨gb101, 3, none⟩ = some (.int .i64 a1_3) ∧ w'.cell? ⟨gb101, 4, none⟩ = some (.int .i64 a1_4) ∧ w'.cell? ⟨gb101, 5, none⟩ = some (.int .i64 a1_5) ∧ w'.cell? ⟨gb101, 6, none⟩ = some (.int .u64 a1_6)) (ds := []) #[false, false, false, false, false, false, false, false, false, false, false, false, false, false, false, false, false, false, false, false, false, false, false, false, false, false, false, false, false, false, false, false, false, false, false, false, false, false, false, false, false, false, false, false, false, false, false, false, false, false, false, false, false, false, false, false] (by kernel_rfl) rfl rfl ⟨cE BK101 0, cE BK101 1, cE BK101 2, cE BK101 3, cE BK101 4, cE BK101 5, cE BK101 6⟩ (fun hHeld => ?_); refine with_tabW paroleref32_Right.tab1 paroleref32_Right.bits1 (fun HT_ HW_ => ?_)
  generalize w16.drew = w17 at BK101 HB hHeld ⊢
  refine pX (i := 0) (N := some 5) rfl rfl HT_ ?_
  refine tX (i := 1) (N := some 6) rfl rfl HT_ HW_ hHeld (Or.inl ⟨by rfl, by rintro w' ⟨s0, s1, s2, s3, s4, s5, s6⟩; go_simp; with_reducible rfl⟩) ?_
  refine pX (i := 2) (N := some 7) rfl rfl HT_ ?_
  refine pX (i := 3) (N := some 8) rfl rfl HT_ ?_
  refine pX (i := 4) (N := some 9) rfl rfl HT_ ?_
  refine pX (i := 6) (N := some 11) rfl rfl HT_ ?_
  refine pX (i := 7) (N := some 12) rfl rfl HT_ ?_
  refine tX (i := 5) (N := some 10) rfl rfl HT_ HW_ hHeld (Or.inl ⟨by rfl, by rintro w' ⟨s0, s1, s2, s3, s4, s5, s6⟩; go_simp; with_reducible rfl⟩) ?_
  refine pX (i := 8) (N := some 13) rfl rfl HT_ ?_
  refine pX (i := 9) (N := some 14) rfl rfl HT_ ?_
  refine pX (i := 10) (N := some 15) rfl rfl HT_ ?_
  refine pX (i := 11) (N := some 16) rfl rfl HT_ ?_
  refine tX (i := 12) (N := some 17) rfl rfl HT_ HW_ hHeld (Or.inl ⟨by rfl, by rintro w' ⟨s0, s1, s2, s3, s4, s5, s6⟩; go_simp; with_reducible rfl⟩) ?_
  refine pX (i := 13) (N := some 18) rfl rfl HT_ ?_
  refine pX (i := 14) (N := some 19) rfl rfl HT_ ?_
  refine pX (i := 15) (N := some 20) rfl rfl HT_ ?_
  refine pX (i := 16) (N := some 21) rfl rfl HT_ ?_
  refine tX (i := 17) (N := some 22) rfl rfl HT_ HW_ hHeld (Or.inl ⟨by rfl, by rintro w' ⟨s0, s1, s2, s3, s4, s5, s6⟩; go_simp; with_reducible rfl⟩) ?_
  refine pX (i := 18) (N := some 23) rfl rfl HT_ ?_
  refine pX (i := 19) (N := some 24) rfl rfl HT_ ?_
  refine pX (i := 20) (N := some 25) rfl rfl HT_ ?_
  refine pX (i := 21) (N := some 26) rfl rfl HT_ ?_
  refine tX (i := 22) (N := some 27) rfl rfl HT_ HW_ hHeld (Or.inl ⟨by rfl, by rintro w' ⟨s0, s1, s2, s3, s4, s5, s6⟩; go_simp; with_reducible rfl⟩) ?_
  refine pX (i := 23) (N := some 28) rfl rfl HT_ ?_
  refine pX (i := 24) (N := some 29) rfl rfl HT_ ?_
  refine pX (i := 25) (N := some 30) rfl rfl HT_ ?_
  refine pU (i := 26) (N := some 31) rfl rfl HT_ ?_
  refine pU (i := 27) (N := some 32) rfl rfl HT_ ?_
  refine pU (i := 28) (N := some 33) rfl rfl HT_ ?_
  refine pU (i := 29) (N := some 34) rfl rfl HT_ ?_
  refine pU (i := 30) (N := some 35) rfl rfl HT_ ?_
  refine pX (i := 31) (N := some 36) rfl rfl HT_ ?_
  refine pX (i := 32) (N := some 37) rfl rfl HT_ ?_
  refine pU (i := 33) (N := some 38) rfl rfl HT_ ?_
  refine pU (i := 34) (N := some 39) rfl rfl HT_ ?_
  refine pU (i := 35) (N := some 40) rfl rfl HT_ ?_
  refine pU (i := 36) (N := some 41) rfl rfl HT_ ?_
  refine pU (i := 37) (N := some 42) rfl rfl HT_ ?_
  refine pX (i := 38) (N := some 43) rfl rfl HT_ ?_
  refine pX (i := 39) (N := some 44) rfl rfl HT_ ?_
  refine pU (i := 40) (N := some 45) rfl rfl HT_ ?_
  refine pU (i := 41) (N := some 46) rfl rfl HT_ ?_
  refine pU (i := 42) (N := some 47) rfl rfl HT_ ?_
  refine pX (i := 43) (N := some 48) rfl rfl HT_ ?_
  refine pX (i := 44) (N := some 49) rfl rfl HT_ ?_
  refine pU (i := 45) (N := some 50) rfl rfl HT_ ?_
  refine pU (i := 46) (N := some 51) rfl rfl HT_ ?_
  refine pU (i := 47) (N := some 52) rfl rfl HT_ ?_
  refine pU (i := 48) (N := some 53) rfl rfl HT_ ?_
  refine pU (i := 49) (N := some 54) rfl rfl HT_ ?_
  refine pU (i := 50) (N := some 55) rfl rfl HT_ ?_
  refine pU (i := 51) (N := some 56) rfl rfl HT_ ?_
  refine pU (i := 52) (N := some 57) rfl rfl HT_ ?_
  refine pU (i := 53) (N := some 58) rfl rfl HT_ ?_
  refine pU (i := 54) (N := some 59) rfl rfl HT_ ?_
  refine pX (i := 55) (N := some 60) rfl rfl HT_ ?_
  refine done_ (done_of HT_.out (by kernel_rfl)) ?_
  try go_wp2
  go_ret
  exact ⟨by first | rfl | (simp [errW_none, errW_some] <;> rfl) | (simp [*, errW_none, errW_some] <;> rfl), sD HB⟩
 rw [if_neg c15] at H
 have c15b0 : decide (a1_5 < 0) = false := decide_eq_false c15
 clear c15
 by_cases c18 : a1_4 < a1_5
 ·rw [if_pos c18] at H
  have c18b0 : decide (a1_4 < a1_5) = true := decide_eq_true c18
  clear c18
  obtain rfl := Option.some.inj H
  go_enter Try.func18, Try.ntmps18
  try go_wp2_with (first | ((with_reducible refine gate_dst (N := 3) rfl ?_); (try (refine gate_guard (by rfl) ?_; dsimp only)); refine bE (N := 3) (cs := #[.int .i64 a1_0, .int .i64 a1_1, .int .i64 a1_2, .int .i64 a1_3, .int .i64 a1_4, .int .i64 a1_5, .int .u64 a1_6]) (t := 28) ?_; intro gb101 hg w19 hbox hb; have BK101 := aM (hbox); have GW101 := gE hg HB; have GE101 := gE hg HB; replace HB := sB HB hb; clear hb hbox hg))
  replace BK101 := aM (blk_drew BK101.out); replace HB := aM (below_drew1 HB.out)
  refine start_ (n := 56) (S := fun w' => w'.cell? ⟨gb101, 0, none⟩ = some (.int .i64 a1_0) ∧ w'.cell? ⟨gb101, 1, none⟩ = some (.int .i64 a1_1) ∧ w'.cell? ⟨gb101, 2, none⟩ = some (.int .i64 a1_2) ∧ w'.cell? ⟨gb101, 3, none⟩ = some (.int .i64 a1_3) ∧ w'.cell? ⟨gb101, 4, none⟩ = some (.int .i64 a1_4) ∧ w'.cell? ⟨gb101, 5, none⟩ = some (.int .i64 a1_5) ∧ w'.cell? ⟨gb101, 6, none⟩ = some (.int .u64 a1_6)) (ds := []) #[false, false, false, false, false, false, false, false, false, false, false, false, false, false, false, false, false, false, false, false, false, false, false, false, false, false, false, false, false, false, false, false, false, false, false, false, false, false, false, false, false, false, false, false, false, false, false, false, false, false, false, false, false, false, false, false] (by kernel_rfl) rfl rfl ⟨cE BK101 0, cE BK101 1, cE BK101 2, cE BK101 3, cE BK101 4, cE BK101 5, cE BK101 6⟩ (fun hHeld => ?_); refine with_tabW paroleref32_Right.tab1 paroleref32_Right.bits1 (fun HT_ HW_ => ?_)
  generalize w19.drew = w20 at BK101 HB hHeld ⊢
  refine pX (i := 0) (N := some 5) rfl rfl HT_ ?_
  refine tX (i := 1) (N := some 6) rfl rfl HT_ HW_ hHeld (Or.inl ⟨by rfl, by rintro w' ⟨s0, s1, s2, s3, s4, s5, s6⟩; go_simp; with_reducible rfl⟩) ?_
  refine pX (i := 2) (N := some 7) rfl rfl HT_ ?_
  refine pX (i := 3) (N := some 8) rfl rfl HT_ ?_
  refine pX (i := 4) (N := some 9) rfl rfl HT_ ?_
  refine pX (i := 6) (N := some 11) rfl rfl HT_ ?_
  refine pX (i := 7) (N := some 12) rfl rfl HT_ ?_
  refine tX (i := 5) (N := some 10) rfl rfl HT_ HW_ hHeld (Or.inl ⟨by rfl, by rintro w' ⟨s0, s1, s2, s3, s4, s5, s6⟩; go_simp; with_reducible rfl⟩) ?_
  refine pX (i := 8) (N := some 13) rfl rfl HT_ ?_
  refine pX (i := 9) (N := some 14) rfl rfl HT_ ?_
  refine pX (i := 10) (N := some 15) rfl rfl HT_ ?_
  refine pX (i := 11) (N := some 16) rfl rfl HT_ ?_
  refine tX (i := 12) (N := some 17) rfl rfl HT_ HW_ hHeld (Or.inl ⟨by rfl, by rintro w' ⟨s0, s1, s2, s3, s4, s5, s6⟩; go_simp; with_reducible rfl⟩) ?_
  refine pX (i := 13) (N := some 18) rfl rfl HT_ ?_
  refine pX (i := 14) (N := some 19) rfl rfl HT_ ?_
  refine pX (i := 15) (N := some 20) rfl rfl HT_ ?_
  refine pX (i := 16) (N := some 21) rfl rfl HT_ ?_
  refine tX (i := 17) (N := some 22) rfl rfl HT_ HW_ hHeld (Or.inl ⟨by rfl, by rintro w' ⟨s0, s1, s2, s3, s4, s5, s6⟩; go_simp; with_reducible rfl⟩) ?_
  refine pX (i := 18) (N := some 23) rfl rfl HT_ ?_
  refine pX (i := 19) (N := some 24) rfl rfl HT_ ?_
  refine pX (i := 20) (N := some 25) rfl rfl HT_ ?_
  refine pX (i := 21) (N := some 26) rfl rfl HT_ ?_
  refine tX (i := 22) (N := some 27) rfl rfl HT_ HW_ hHeld (Or.inl ⟨by rfl, by rintro w' ⟨s0, s1, s2, s3, s4, s5, s6⟩; go_simp; with_reducible rfl⟩) ?_
  refine pX (i := 23) (N := some 28) rfl rfl HT_ ?_
  refine pX (i := 24) (N := some 29) rfl rfl HT_ ?_
  refine pX (i := 25) (N := some 30) rfl rfl HT_ ?_
  refine pX (i := 26) (N := some 31) rfl rfl HT_ ?_
  refine pX (i := 28) (N := some 33) rfl rfl HT_ ?_
  refine tX (i := 27) (N := some 32) rfl rfl HT_ HW_ hHeld (Or.inl ⟨by rfl, by rintro w' ⟨s0, s1, s2, s3, s4, s5, s6⟩; go_simp; with_reducible rfl⟩) ?_
  refine tX (i := 29) (N := some 34) rfl rfl HT_ HW_ hHeld (Or.inl ⟨by rfl, by rintro w' ⟨s0, s1, s2, s3, s4, s5, s6⟩; go_simp; with_reducible rfl⟩) ?_
  refine pX (i := 30) (N := some 35) rfl rfl HT_ ?_
  refine pX (i := 31) (N := some 36) rfl rfl HT_ ?_
  refine pX (i := 32) (N := some 37) rfl rfl HT_ ?_
  refine pU (i := 33) (N := some 38) rfl rfl HT_ ?_
  refine pU (i := 34) (N := some 39) rfl rfl HT_ ?_
  refine pU (i := 35) (N := some 40) rfl rfl HT_ ?_
  refine pU (i := 36) (N := some 41) rfl rfl HT_ ?_
  refine pU (i := 37) (N := some 42) rfl rfl HT_ ?_
  refine pX (i := 38) (N := some 43) rfl rfl HT_ ?_
  refine pX (i := 39) (N := some 44) rfl rfl HT_ ?_
  refine pU (i := 40) (N := some 45) rfl rfl HT_ ?_
  refine pU (i := 41) (N := some 46) rfl rfl HT_ ?_
  refine pU (i := 42) (N := some 47) rfl rfl HT_ ?_
  refine pX (i := 43) (N := some 48) rfl rfl HT_ ?_
  refine pX (i := 44) (N := some 49) rfl rfl HT_ ?_
  refine pU (i := 45) (N := some 50) rfl rfl HT_ ?_
  refine pU (i := 46) (N := some 51) rfl rfl HT_ ?_
  refine pU (i := 47) (N := some 52) rfl rfl HT_ ?_
  refine pU (i := 48) (N := some 53) rfl rfl HT_ ?_
  refine pU (i := 49) (N := some 54) rfl rfl HT_ ?_
  refine pU (i := 50) (N := some 55) rfl rfl HT_ ?_
  refine pU (i := 51) (N := some 56) rfl rfl HT_ ?_
  refine pU (i := 52) (N := some 57) rfl rfl HT_ ?_
  refine pU (i := 53) (N := some 58) rfl rfl HT_ ?_
  refine pU (i := 54) (N := some 59) rfl rfl HT_ ?_
  refine pX (i := 55) (N := some 60) rfl rfl HT_ ?_
  refine done_ (done_of HT_.out (by kernel_rfl)) ?_
  try go_wp2
  go_ret
  exact ⟨by first | rfl | (simp [errW_none, errW_some] <;> rfl) | (simp [*, errW_none, errW_some] <;> rfl), sD HB⟩
 rw [if_neg c18] at H
 have c18b0 : decide (a1_4 < a1_5) = false := decide_eq_false c18
 clear c18
 by_cases c21 : a1_3 < a1_4
 ·rw [if_pos c21] at H
  have c21b0 : decide (a1_3 < a1_4) = true := decide_eq_true c21
  clear c21
  obtain rfl := Option.some.inj H
  go_enter Try.func18, Try.ntmps18
  try go_wp2_with (first | ((with_reducible refine gate_dst (N := 3) rfl ?_); (try (refine gate_guard (by rfl) ?_; dsimp only)); refine bE (N := 3) (cs := #[.int .i64 a1_0, .int .i64 a1_1, .int .i64 a1_2, .int .i64 a1_3, .int .i64 a1_4, .int .i64 a1_5, .int .u64 a1_6]) (t := 28) ?_; intro gb101 hg w22 hbox hb; have BK101 := aM (hbox); have GW101 := gE hg HB; have GE101 := gE hg HB; replace HB := sB HB hb; clear hb hbox hg))
  replace BK101 := aM (blk_drew BK101.out); replace HB := aM (below_drew1 HB.out)
  refine start_ (n := 56) (S := fun w' => w'.cell? ⟨gb101, 0, none⟩ = some (.int .i64 a1_0) ∧ w'.cell? ⟨gb101, 1, none⟩ = some (.int .i64 a1_1) ∧ w'.cell? ⟨gb101, 2, none⟩ = some (.int .i64 a1_2) ∧ w'.cell? ⟨gb101, 3, none⟩ = some (.int .i64 a1_3) ∧ w'.cell? ⟨gb101, 4, none⟩ = some (.int .i64 a1_4) ∧ w'.cell? ⟨gb101, 5, none⟩ = some (.int .i64 a1_5) ∧ w'.cell? ⟨gb101, 6, none⟩ = some (.int .u64 a1_6)) (ds := []) #[false, false, false, false, false, false, false, false, false, false, false, false, false, false, false, false, false, false, false, false, false, false, false, false, false, false, false, false, false, false, false, false, false, false, false, false, false, false, false, false, false, false, false, false, false, false, false, false, false, false, false, false, false, false, false, false] (by kernel_rfl) rfl rfl ⟨cE BK101 0, cE BK101 1, cE BK101 2, cE BK101 3, cE BK101 4, cE BK101 5, cE BK101 6⟩ (fun hHeld => ?_); refine with_tabW paroleref32_Right.tab1 paroleref32_Right.bits1 (fun HT_ HW_ => ?_)
  generalize w22.drew = w23 at BK101 HB hHeld ⊢
  refine pX (i := 0) (N := some 5) rfl rfl HT_ ?_
  refine tX (i := 1) (N := some 6) rfl rfl HT_ HW_ hHeld (Or.inl ⟨by rfl, by rintro w' ⟨s0, s1, s2, s3, s4, s5, s6⟩; go_simp; with_reducible rfl⟩) ?_
  refine pX (i := 2) (N := some 7) rfl rfl HT_ ?_
  refine pX (i := 3) (N := some 8) rfl rfl HT_ ?_
  refine pX (i := 4) (N := some 9) rfl rfl HT_ ?_
  refine pX (i := 6) (N := some 11) rfl rfl HT_ ?_
  refine pX (i := 7) (N := some 12) rfl rfl HT_ ?_
  refine tX (i := 5) (N := some 10) rfl rfl HT_ HW_ hHeld (Or.inl ⟨by rfl, by rintro w' ⟨s0, s1, s2, s3, s4, s5, s6⟩; go_simp; with_reducible rfl⟩) ?_
  refine pX (i := 8) (N := some 13) rfl rfl HT_ ?_
  refine pX (i := 9) (N := some 14) rfl rfl HT_ ?_
  refine pX (i := 10) (N := some 15) rfl rfl HT_ ?_
  refine pX (i := 11) (N := some 16) rfl rfl HT_ ?_
  refine tX (i := 12) (N := some 17) rfl rfl HT_ HW_ hHeld (Or.inl ⟨by rfl, by rintro w' ⟨s0, s1, s2, s3, s4, s5, s6⟩; go_simp; with_reducible rfl⟩) ?_
  refine pX (i := 13) (N := some 18) rfl rfl HT_ ?_
  refine pX (i := 14) (N := some 19) rfl rfl HT_ ?_
  refine pX (i := 15) (N := some 20) rfl rfl HT_ ?_
  refine pX (i := 16) (N := some 21) rfl rfl HT_ ?_
  refine tX (i := 17) (N := some 22) rfl rfl HT_ HW_ hHeld (Or.inl ⟨by rfl, by rintro w' ⟨s0, s1, s2, s3, s4, s5, s6⟩; go_simp; with_reducible rfl⟩) ?_
  refine pX (i := 18) (N := some 23) rfl rfl HT_ ?_
  refine pX (i := 19) (N := some 24) rfl rfl HT_ ?_
  refine pX (i := 20) (N := some 25) rfl rfl HT_ ?_
  refine pX (i := 21) (N := some 26) rfl rfl HT_ ?_
  refine tX (i := 22) (N := some 27) rfl rfl HT_ HW_ hHeld (Or.inl ⟨by rfl, by rintro w' ⟨s0, s1, s2, s3, s4, s5, s6⟩; go_simp; with_reducible rfl⟩) ?_
  refine pX (i := 23) (N := some 28) rfl rfl HT_ ?_
  refine pX (i := 24) (N := some 29) rfl rfl HT_ ?_
  refine pX (i := 25) (N := some 30) rfl rfl HT_ ?_
  refine pX (i := 26) (N := some 31) rfl rfl HT_ ?_
  refine pX (i := 28) (N := some 33) rfl rfl HT_ ?_
  refine tX (i := 27) (N := some 32) rfl rfl HT_ HW_ hHeld (Or.inl ⟨by rfl, by rintro w' ⟨s0, s1, s2, s3, s4, s5, s6⟩; go_simp; with_reducible rfl⟩) ?_
  refine tX (i := 29) (N := some 34) rfl rfl HT_ HW_ hHeld (Or.inl ⟨by rfl, by rintro w' ⟨s0, s1, s2, s3, s4, s5, s6⟩; go_simp; with_reducible rfl⟩) ?_
  refine pX (i := 30) (N := some 35) rfl rfl HT_ ?_
  refine pX (i := 31) (N := some 36) rfl rfl HT_ ?_
  refine pX (i := 32) (N := some 37) rfl rfl HT_ ?_
  refine pX (i := 33) (N := some 38) rfl rfl HT_ ?_
  refine pX (i := 35) (N := some 40) rfl rfl HT_ ?_
  refine tX (i := 34) (N := some 39) rfl rfl HT_ HW_ hHeld (Or.inl ⟨by rfl, by rintro w' ⟨s0, s1, s2, s3, s4, s5, s6⟩; go_simp; with_reducible rfl⟩) ?_
  refine tX (i := 36) (N := some 41) rfl rfl HT_ HW_ hHeld (Or.inl ⟨by rfl, by rintro w' ⟨s0, s1, s2, s3, s4, s5, s6⟩; go_simp; with_reducible rfl⟩) ?_
  refine pX (i := 37) (N := some 42) rfl rfl HT_ ?_
  refine pX (i := 38) (N := some 43) rfl rfl HT_ ?_
  refine pX (i := 39) (N := some 44) rfl rfl HT_ ?_
  refine pU (i := 40) (N := some 45) rfl rfl HT_ ?_
  refine pU (i := 41) (N := some 46) rfl rfl HT_ ?_
  refine pU (i := 42) (N := some 47) rfl rfl HT_ ?_
  refine pX (i := 43) (N := some 48) rfl rfl HT_ ?_
  refine pX (i := 44) (N := some 49) rfl rfl HT_ ?_
  refine pU (i := 45) (N := some 50) rfl rfl HT_ ?_
  refine pU (i := 46) (N := some 51) rfl rfl HT_ ?_
  refine pU (i := 47) (N := some 52) rfl rfl HT_ ?_
  refine pU (i := 48) (N := some 53) rfl rfl HT_ ?_
  refine pU (i := 49) (N := some 54) rfl rfl HT_ ?_
  refine pU (i := 50) (N := some 55) rfl rfl HT_ ?_
  refine pU (i := 51) (N := some 56) rfl rfl HT_ ?_
  refine pU (i := 52) (N := some 57) rfl rfl HT_ ?_
  refine pU (i := 53) (N := some 58) rfl rfl HT_ ?_
  refine pU (i := 54) (N := some 59) rfl rfl HT_ ?_
  refine pX (i := 55) (N := some 60) rfl rfl HT_ ?_
  refine done_ (done_of HT_.out (by kernel_rfl)) ?_
  try go_wp2
  go_ret
  exact ⟨by first | rfl | (simp [errW_none, errW_some] <;> rfl) | (simp [*, errW_none, errW_some] <;> rfl), sD HB⟩
 rw [if_neg c21] at H
 have c21b0 : decide (a1_3 < a1_4) = false := decide_eq_false c21
 clear c21
 by_cases c24 : a1_3 > 1099511627776
 ·rw [if_pos c24] at H
  have c24b0 : decide (1099511627776 < a1_3) = true := decide_eq_true c24
  clear c24
  obtain rfl := Option.some.inj H
  go_enter Try.func18, Try.ntmps18
  try go_wp2_with (first | ((with_reducible refine gate_dst (N := 3) rfl ?_); (try (refine gate_guard (by rfl) ?_; dsimp only)); refine bE (N := 3) (cs := #[.int .i64 a1_0, .int .i64 a1_1, .int .i64 a1_2, .int .i64 a1_3, .int .i64 a1_4, .int .i64 a1_5, .int .u64 a1_6]) (t := 28) ?_; intro gb101 hg w25 hbox hb; have BK101 := aM (hbox); have GW101 := gE hg HB; have GE101 := gE hg HB; replace HB := sB HB hb; clear hb hbox hg))
  replace BK101 := aM (blk_drew BK101.out); replace HB := aM (below_drew1 HB.out)
  refine start_ (n := 56) (S := fun w' => w'.cell? ⟨gb101, 0, none⟩ = some (.int .i64 a1_0) ∧ w'.cell? ⟨gb101, 1, none⟩ = some (.int .i64 a1_1) ∧ w'.cell? ⟨gb101, 2, none⟩ = some (.int .i64 a1_2) ∧ w'.cell? ⟨gb101, 3, none⟩ = some (.int .i64 a1_3) ∧ w'.cell? ⟨gb101, 4, none⟩ = some (.int .i64 a1_4) ∧ w'.cell? ⟨gb101, 5, none⟩ = some (.int .i64 a1_5) ∧ w'.cell? ⟨gb101, 6, none⟩ = some (.int .u64 a1_6)) (ds := []) #[false, false, false, false, false, false, false, false, false, false, false, false, false, false, false, false, false, false, false, false, false, false, false, false, false, false, false, false, false, false, false, false, false, false, false, false, false, false, false, false, false, false, false, false, false, false, false, false, false, false, false, false, false, false, false, false] (by kernel_rfl) rfl rfl ⟨cE BK101 0, cE BK101 1, cE BK101 2, cE BK101 3, cE BK101 4, cE BK101 5, cE BK101 6⟩ (fun hHeld => ?_); refine with_tabW paroleref32_Right.tab1 paroleref32_Right.bits1 (fun HT_ HW_ => ?_)
  generalize w25.drew = w26 at BK101 HB hHeld ⊢
  refine pX (i := 0) (N := some 5) rfl rfl HT_ ?_
  refine tX (i := 1) (N := some 6) rfl rfl HT_ HW_ hHeld (Or.inl ⟨by rfl, by rintro w' ⟨s0, s1, s2, s3, s4, s5, s6⟩; go_simp; with_reducible rfl⟩) ?_
  refine pX (i := 2) (N := some 7) rfl rfl HT_ ?_
  refine pX (i := 3) (N := some 8) rfl rfl HT_ ?_
  refine pX (i := 4) (N := some 9) rfl rfl HT_ ?_
  refine pX (i := 6) (N := some 11) rfl rfl HT_ ?_
  refine pX (i := 7) (N := some 12) rfl rfl HT_ ?_
  refine tX (i := 5) (N := some 10) rfl rfl HT_ HW_ hHeld (Or.inl ⟨by rfl, by rintro w' ⟨s0, s1, s2, s3, s4, s5, s6⟩; go_simp; with_reducible rfl⟩) ?_
  refine pX (i := 8) (N := some 13) rfl rfl HT_ ?_
  refine pX (i := 9) (N := some 14) rfl rfl HT_ ?_
  refine pX (i := 10) (N := some 15) rfl rfl HT_ ?_
  refine pX (i := 11) (N := some 16) rfl rfl HT_ ?_
  refine tX (i := 12) (N := some 17) rfl rfl HT_ HW_ hHeld (Or.inl ⟨by rfl, by rintro w' ⟨s0, s1, s2, s3, s4, s5, s6⟩; go_simp; with_reducible rfl⟩) ?_
  refine pX (i := 13) (N := some 18) rfl rfl HT_ ?_
  refine pX (i := 14) (N := some 19) rfl rfl HT_ ?_
  refine pX (i := 15) (N := some 20) rfl rfl HT_ ?_
  refine pX (i := 16) (N := some 21) rfl rfl HT_ ?_
  refine tX (i := 17) (N := some 22) rfl rfl HT_ HW_ hHeld (Or.inl ⟨by rfl, by rintro w' ⟨s0, s1, s2, s3, s4, s5, s6⟩; go_simp; with_reducible rfl⟩) ?_
  refine pX (i := 18) (N := some 23) rfl rfl HT_ ?_
  refine pX (i := 19) (N := some 24) rfl rfl HT_ ?_
  refine pX (i := 20) (N := some 25) rfl rfl HT_ ?_
  refine pX (i := 21) (N := some 26) rfl rfl HT_ ?_
  refine tX (i := 22) (N := some 27) rfl rfl HT_ HW_ hHeld (Or.inl ⟨by rfl, by rintro w' ⟨s0, s1, s2, s3, s4, s5, s6⟩; go_simp; with_reducible rfl⟩) ?_
  refine pX (i := 23) (N := some 28) rfl rfl HT_ ?_
  refine pX (i := 24) (N := some 29) rfl rfl HT_ ?_
  refine pX (i := 25) (N := some 30) rfl rfl HT_ ?_
  refine pX (i := 26) (N := some 31) rfl rfl HT_ ?_
  refine pX (i := 28) (N := some 33) rfl rfl HT_ ?_
  refine tX (i := 27) (N := some 32) rfl rfl HT_ HW_ hHeld (Or.inl ⟨by rfl, by rintro w' ⟨s0, s1, s2, s3, s4, s5, s6⟩; go_simp; with_reducible rfl⟩) ?_
  refine tX (i := 29) (N := some 34) rfl rfl HT_ HW_ hHeld (Or.inl ⟨by rfl, by rintro w' ⟨s0, s1, s2, s3, s4, s5, s6⟩; go_simp; with_reducible rfl⟩) ?_
  refine pX (i := 30) (N := some 35) rfl rfl HT_ ?_
  refine pX (i := 31) (N := some 36) rfl rfl HT_ ?_
  refine pX (i := 32) (N := some 37) rfl rfl HT_ ?_
  refine pX (i := 33) (N := some 38) rfl rfl HT_ ?_
  refine pX (i := 35) (N := some 40) rfl rfl HT_ ?_
  refine tX (i := 34) (N := some 39) rfl rfl HT_ HW_ hHeld (Or.inl ⟨by rfl, by rintro w' ⟨s0, s1, s2, s3, s4, s5, s6⟩; go_simp; with_reducible rfl⟩) ?_
  refine tX (i := 36) (N := some 41) rfl rfl HT_ HW_ hHeld (Or.inl ⟨by rfl, by rintro w' ⟨s0, s1, s2, s3, s4, s5, s6⟩; go_simp; with_reducible rfl⟩) ?_
  refine pX (i := 37) (N := some 42) rfl rfl HT_ ?_
  refine pX (i := 38) (N := some 43) rfl rfl HT_ ?_
  refine pX (i := 39) (N := some 44) rfl rfl HT_ ?_
  refine pX (i := 40) (N := some 45) rfl rfl HT_ ?_
  refine tX (i := 41) (N := some 46) rfl rfl HT_ HW_ hHeld (Or.inl ⟨by rfl, by rintro w' ⟨s0, s1, s2, s3, s4, s5, s6⟩; go_simp; with_reducible rfl⟩) ?_
  refine pX (i := 42) (N := some 47) rfl rfl HT_ ?_
  refine pX (i := 43) (N := some 48) rfl rfl HT_ ?_
  refine pX (i := 44) (N := some 49) rfl rfl HT_ ?_
  refine pU (i := 45) (N := some 50) rfl rfl HT_ ?_
  refine pU (i := 46) (N := some 51) rfl rfl HT_ ?_
  refine pU (i := 47) (N := some 52) rfl rfl HT_ ?_
  refine pU (i := 48) (N := some 53) rfl rfl HT_ ?_
  refine pU (i := 49) (N := some 54) rfl rfl HT_ ?_
  refine pU (i := 50) (N := some 55) rfl rfl HT_ ?_
  refine pU (i := 51) (N := some 56) rfl rfl HT_ ?_
  refine pU (i := 52) (N := some 57) rfl rfl HT_ ?_
  refine pU (i := 53) (N := some 58) rfl rfl HT_ ?_
  refine pU (i := 54) (N := some 59) rfl rfl HT_ ?_
  refine pX (i := 55) (N := some 60) rfl rfl HT_ ?_
  refine done_ (done_of HT_.out (by kernel_rfl)) ?_
  try go_wp2
  go_ret
  exact ⟨by first | rfl | (simp [errW_none, errW_some] <;> rfl) | (simp [*, errW_none, errW_some] <;> rfl), sD HB⟩
 rw [if_neg c24] at H
 have c24b0 : decide (1099511627776 < a1_3) = false := decide_eq_false c24
 clear c24
 by_cases c27 : 0 ≤ a1_0
 rotate_left
 ·rw [if_neg c27] at H
  exact absurd H (by simp)
 rw [if_pos c27] at H
 have c27b0 : decide (0 ≤ a1_0) = true := decide_eq_true c27
 clear c27
 by_cases c28 : a1_0 < (l0.length : Int)
 rotate_left
 ·rw [if_neg c28] at H
  exact absurd H (by simp)
 rw [if_pos c28] at H
 have c28b0 : decide (a1_0 < (l0.length : Int)) = true := decide_eq_true c28
 clear c28; replace H := Option.bind_eq_some_iff.mp H
 obtain ⟨t103, A290, H⟩ := H
 replace H : (if a1_6 = t103 then (some 0) else (some 320)) = some r := H
 have A29 := aM A290; clear A290
 by_cases c30 : a1_6 = t103
 rotate_left
 ·rw [if_neg c30] at H
  have c30b0 : (a1_6 == t103) = false := beq_eq_false_iff_ne.mpr c30
  have c30b1 : (a1_6 != t103) = true := bne_iff_ne.mpr c30
  obtain rfl := Option.some.inj H
  go_enter Try.func18, Try.ntmps18
  try go_wp2_with (first | ((with_reducible refine gate_dst (N := 3) rfl ?_); (try (refine gate_guard (by rfl) ?_; dsimp only)); refine bE (N := 3) (cs := #[.int .i64 a1_0, .int .i64 a1_1, .int .i64 a1_2, .int .i64 a1_3, .int .i64 a1_4, .int .i64 a1_5, .int .u64 a1_6]) (t := 28) ?_; intro gb101 hg w34 hbox hb; have BK101 := aM (hbox); have GW101 := gE hg HB; have GE101 := gE hg HB; replace HB := sB HB hb; clear hb hbox hg))
  replace BK101 := aM (blk_drew BK101.out); replace HB := aM (below_drew1 HB.out)
  have p102 : 0 ≤ (a1_0 : Int) := of_decide_eq_true (by first | (with_reducible assumption) | assumption)
  have q102 : a1_0 < (l0.length : Int) := of_decide_eq_true (by first | (with_reducible assumption) | assumption)
  obtain ⟨ad102, e102, hx102_0⟩ := Kd.at_int HR0.out a1_0 p102 q102
  have hw102_0 := hx102_0
  cases e102
  replace hx102_0 := (HB.out.cell (World.block_lt_of_cell? w _ hx102_0)).trans hx102_0; replace p102 := eq_true p102; replace q102 := eq_true q102
  refine start_ (n := 56) (S := fun w' => w'.cell? ⟨gb101, 0, none⟩ = some (.int .i64 a1_0) ∧ w'.cell? ⟨gb101, 1, none⟩ = some (.int .i64 a1_1) ∧ w'.cell? ⟨gb101, 2, none⟩ = some (.int .i64 a1_2) ∧ w'.cell? ⟨gb101, 3, none⟩ = some (.int .i64 a1_3) ∧ w'.cell? ⟨gb101, 4, none⟩ = some (.int .i64 a1_4) ∧ w'.cell? ⟨gb101, 5, none⟩ = some (.int .i64 a1_5) ∧ w'.cell? ⟨gb101, 6, none⟩ = some (.int .u64 a1_6) ∧ w'.cell? (ad102.add (a1_0).toNat) = some (.int .u64 (rd l0 a1_0))) (ds := []) #[false, false, false, false, false, false, false, false, false, false, false, false, false, false, false, false, false, false, false, false, false, false, false, false, false, false, false, false, false, false, false, false, false, false, false, false, false, false, false, false, false, false, false, false, false, false, false, false, false, false, false, false, false, false, false, false] (by kernel_rfl) rfl rfl ⟨cE BK101 0, cE BK101 1, cE BK101 2, cE BK101 3, cE BK101 4, cE BK101 5, cE BK101 6, ((HB.out.cell (World.block_lt_of_cell? w _ hw102_0)).trans hw102_0)⟩ (fun hHeld => ?_); refine with_tabW paroleref32_Right.tab1 paroleref32_Right.bits1 (fun HT_ HW_ => ?_)
  generalize w34.drew = w35 at BK101 HB hx102_0 hHeld ⊢
  refine pX (i := 0) (N := some 5) rfl rfl HT_ ?_
  refine tX (i := 1) (N := some 6) rfl rfl HT_ HW_ hHeld (Or.inl ⟨by rfl, by rintro w' ⟨s0, s1, s2, s3, s4, s5, s6, s7⟩; go_simp; with_reducible rfl⟩) ?_
  refine pX (i := 2) (N := some 7) rfl rfl HT_ ?_
  refine pX (i := 3) (N := some 8) rfl rfl HT_ ?_
  refine pX (i := 4) (N := some 9) rfl rfl HT_ ?_
  refine pX (i := 6) (N := some 11) rfl rfl HT_ ?_
  refine pX (i := 7) (N := some 12) rfl rfl HT_ ?_
  refine tX (i := 5) (N := some 10) rfl rfl HT_ HW_ hHeld (Or.inl ⟨by rfl, by rintro w' ⟨s0, s1, s2, s3, s4, s5, s6, s7⟩; go_simp; with_reducible rfl⟩) ?_
  refine pX (i := 8) (N := some 13) rfl rfl HT_ ?_
  refine pX (i := 9) (N := some 14) rfl rfl HT_ ?_
  refine pX (i := 10) (N := some 15) rfl rfl HT_ ?_
  refine pX (i := 11) (N := some 16) rfl rfl HT_ ?_
  refine tX (i := 12) (N := some 17) rfl rfl HT_ HW_ hHeld (Or.inl ⟨by rfl, by rintro w' ⟨s0, s1, s2, s3, s4, s5, s6, s7⟩; go_simp; with_reducible rfl⟩) ?_
  refine pX (i := 13) (N := some 18) rfl rfl HT_ ?_
  refine pX (i := 14) (N := some 19) rfl rfl HT_ ?_
  refine pX (i := 15) (N := some 20) rfl rfl HT_ ?_
  refine pX (i := 16) (N := some 21) rfl rfl HT_ ?_
  refine tX (i := 17) (N := some 22) rfl rfl HT_ HW_ hHeld (Or.inl ⟨by rfl, by rintro w' ⟨s0, s1, s2, s3, s4, s5, s6, s7⟩; go_simp; with_reducible rfl⟩) ?_
  refine pX (i := 18) (N := some 23) rfl rfl HT_ ?_
  refine pX (i := 19) (N := some 24) rfl rfl HT_ ?_
  refine pX (i := 20) (N := some 25) rfl rfl HT_ ?_
  refine pX (i := 21) (N := some 26) rfl rfl HT_ ?_
  refine tX (i := 22) (N := some 27) rfl rfl HT_ HW_ hHeld (Or.inl ⟨by rfl, by rintro w' ⟨s0, s1, s2, s3, s4, s5, s6, s7⟩; go_simp; with_reducible rfl⟩) ?_
  refine pX (i := 23) (N := some 28) rfl rfl HT_ ?_
  refine pX (i := 24) (N := some 29) rfl rfl HT_ ?_
  refine pX (i := 25) (N := some 30) rfl rfl HT_ ?_
  refine pX (i := 26) (N := some 31) rfl rfl HT_ ?_
  refine pX (i := 28) (N := some 33) rfl rfl HT_ ?_
  refine tX (i := 27) (N := some 32) rfl rfl HT_ HW_ hHeld (Or.inl ⟨by rfl, by rintro w' ⟨s0, s1, s2, s3, s4, s5, s6, s7⟩; go_simp; with_reducible rfl⟩) ?_
  refine tX (i := 29) (N := some 34) rfl rfl HT_ HW_ hHeld (Or.inl ⟨by rfl, by rintro w' ⟨s0, s1, s2, s3, s4, s5, s6, s7⟩; go_simp; with_reducible rfl⟩) ?_
  refine pX (i := 30) (N := some 35) rfl rfl HT_ ?_
  refine pX (i := 31) (N := some 36) rfl rfl HT_ ?_
  refine pX (i := 32) (N := some 37) rfl rfl HT_ ?_
  refine pX (i := 33) (N := some 38) rfl rfl HT_ ?_
  refine pX (i := 35) (N := some 40) rfl rfl HT_ ?_
  refine tX (i := 34) (N := some 39) rfl rfl HT_ HW_ hHeld (Or.inl ⟨by rfl, by rintro w' ⟨s0, s1, s2, s3, s4, s5, s6, s7⟩; go_simp; with_reducible rfl⟩) ?_
  refine tX (i := 36) (N := some 41) rfl rfl HT_ HW_ hHeld (Or.inl ⟨by rfl, by rintro w' ⟨s0, s1, s2, s3, s4, s5, s6, s7⟩; go_simp; with_reducible rfl⟩) ?_
  refine pX (i := 37) (N := some 42) rfl rfl HT_ ?_
  refine pX (i := 38) (N := some 43) rfl rfl HT_ ?_
  refine pX (i := 39) (N := some 44) rfl rfl HT_ ?_
  refine pX (i := 40) (N := some 45) rfl rfl HT_ ?_
  refine tX (i := 41) (N := some 46) rfl rfl HT_ HW_ hHeld (Or.inl ⟨by rfl, by rintro w' ⟨s0, s1, s2, s3, s4, s5, s6, s7⟩; go_simp; with_reducible rfl⟩) ?_
  refine pX (i := 42) (N := some 47) rfl rfl HT_ ?_
  refine pX (i := 43) (N := some 48) rfl rfl HT_ ?_
  refine pX (i := 44) (N := some 49) rfl rfl HT_ ?_
  refine pX (i := 45) (N := some 50) rfl rfl HT_ ?_
  refine pX (i := 47) (N := some 52) rfl rfl HT_ ?_
  refine pX (i := 48) (N := some 53) rfl rfl HT_ ?_
  refine tX (i := 46) (N := some 51) rfl rfl HT_ HW_ hHeld (Or.inl ⟨by rfl, by rintro w' ⟨s0, s1, s2, s3, s4, s5, s6, s7⟩; go_simp; with_reducible rfl⟩) ?_
  refine tX (i := 49) (N := some 54) rfl rfl HT_ HW_ hHeld (Or.inl ⟨by rfl, by rintro w' ⟨s0, s1, s2, s3, s4, s5, s6, s7⟩; go_simp; with_reducible rfl⟩) ?_
  refine pX (i := 50) (N := some 55) rfl rfl HT_ ?_
  refine tX (i := 51) (N := some 56) rfl rfl HT_ HW_ hHeld (Or.inl ⟨by rfl, by rintro w' ⟨s0, s1, s2, s3, s4, s5, s6, s7⟩; go_simp; with_reducible rfl⟩) ?_
  refine tX (i := 52) (N := some 57) rfl rfl HT_ HW_ hHeld (Or.inl ⟨by rfl, by rintro w' ⟨s0, s1, s2, s3, s4, s5, s6, s7⟩; go_simp; with_reducible rfl⟩) ?_
  refine oX (i := 53) (N := some 58) rfl rfl HT_ (fun K hK => ?_)
  refine gS Try.func15 #[.int .u64 (rd l0 a1_0), .agg #[.int .i64 a1_0, .int .i64 a1_1, .int .i64 a1_2, .int .i64 a1_3, .int .i64 a1_4, .int .i64 a1_5, .int .u64 a1_6]] ?_
  with_reducible refine (paroleref32_Tag.calls k (rd l0 a1_0) a1_0 a1_1 a1_2 a1_3 a1_4 a1_5 a1_6 t103 _ A29.out).mono ?_
  rintro e w36 ⟨rfl, hb⟩
  refine ⟨_, rfl, ?_⟩
  replace BK101 := bB BK101 hb; replace HB := sB HB hb; (try clear hb); (try clear hb2); (try clear hk); (try clear hi)
  refine hK.out _ _ ⟨cE BK101 0, cE BK101 1, cE BK101 2, cE BK101 3, cE BK101 4, cE BK101 5, cE BK101 6, ((HB.out.cell (World.block_lt_of_cell? w _ hw102_0)).trans hw102_0)⟩ (fun hHeld => ?_)
  clear hK K
  refine nX (some 58) ?_
  refine pX (i := 54) (N := some 59) rfl rfl HT_ ?_
  refine pX (i := 55) (N := some 60) rfl rfl HT_ ?_
  refine done_ (done_of HT_.out (by kernel_rfl)) ?_
  try go_wp2
  go_ret
  exact ⟨by first | rfl | (simp [errW_none, errW_some] <;> rfl) | (simp [*, errW_none, errW_some] <;> rfl), sD HB⟩
 rw [if_pos c30] at H
 have c30b0 : (a1_6 == t103) = true := beq_iff_eq.mpr c30
 have c30b1 : (a1_6 != t103) = false := bne_eq_false_iff_eq.mpr c30
 clear c30
 obtain rfl := Option.some.inj H
 go_enter Try.func18, Try.ntmps18
 try go_wp2_with (first | ((with_reducible refine gate_dst (N := 3) rfl ?_); (try (refine gate_guard (by rfl) ?_; dsimp only)); refine bE (N := 3) (cs := #[.int .i64 a1_0, .int .i64 a1_1, .int .i64 a1_2, .int .i64 a1_3, .int .i64 a1_4, .int .i64 a1_5, .int .u64 a1_6]) (t := 28) ?_; intro gb101 hg w31 hbox hb; have BK101 := aM (hbox); have GW101 := gE hg HB; have GE101 := gE hg HB; replace HB := sB HB hb; clear hb hbox hg))
 replace BK101 := aM (blk_drew BK101.out); replace HB := aM (below_drew1 HB.out)
 have p102 : 0 ≤ (a1_0 : Int) := of_decide_eq_true (by first | (with_reducible assumption) | assumption)
 have q102 : a1_0 < (l0.length : Int) := of_decide_eq_true (by first | (with_reducible assumption) | assumption)
 obtain ⟨ad102, e102, hx102_0⟩ := Kd.at_int HR0.out a1_0 p102 q102
 have hw102_0 := hx102_0
 cases e102
 replace hx102_0 := (HB.out.cell (World.block_lt_of_cell? w _ hx102_0)).trans hx102_0; replace p102 := eq_true p102; replace q102 := eq_true q102
 refine start_ (n := 56) (S := fun w' => w'.cell? ⟨gb101, 0, none⟩ = some (.int .i64 a1_0) ∧ w'.cell? ⟨gb101, 1, none⟩ = some (.int .i64 a1_1) ∧ w'.cell? ⟨gb101, 2, none⟩ = some (.int .i64 a1_2) ∧ w'.cell? ⟨gb101, 3, none⟩ = some (.int .i64 a1_3) ∧ w'.cell? ⟨gb101, 4, none⟩ = some (.int .i64 a1_4) ∧ w'.cell? ⟨gb101, 5, none⟩ = some (.int .i64 a1_5) ∧ w'.cell? ⟨gb101, 6, none⟩ = some (.int .u64 a1_6) ∧ w'.cell? (ad102.add (a1_0).toNat) = some (.int .u64 (rd l0 a1_0))) (ds := []) #[false, false, false, false, false, false, false, false, false, false, false, false, false, false, false, false, false, false, false, false, false, false, false, false, false, false, false, false, false, false, false, false, false, false, false, false, false, false, false, false, false, false, false, false, false, false, false, false, false, false, false, false, false, false, false, false] (by kernel_rfl) rfl rfl ⟨cE BK101 0, cE BK101 1, cE BK101 2, cE BK101 3, cE BK101 4, cE BK101 5, cE BK101 6, ((HB.out.cell (World.block_lt_of_cell? w _ hw102_0)).trans hw102_0)⟩ (fun hHeld => ?_); refine with_tabW paroleref32_Right.tab1 paroleref32_Right.bits1 (fun HT_ HW_ => ?_)
 generalize w31.drew = w32 at BK101 HB hx102_0 hHeld ⊢
 refine pX (i := 0) (N := some 5) rfl rfl HT_ ?_
 refine tX (i := 1) (N := some 6) rfl rfl HT_ HW_ hHeld (Or.inl ⟨by rfl, by rintro w' ⟨s0, s1, s2, s3, s4, s5, s6, s7⟩; go_simp; with_reducible rfl⟩) ?_
 refine pX (i := 2) (N := some 7) rfl rfl HT_ ?_
 refine pX (i := 3) (N := some 8) rfl rfl HT_ ?_
 refine pX (i := 4) (N := some 9) rfl rfl HT_ ?_
 refine pX (i := 6) (N := some 11) rfl rfl HT_ ?_
 refine pX (i := 7) (N := some 12) rfl rfl HT_ ?_
 refine tX (i := 5) (N := some 10) rfl rfl HT_ HW_ hHeld (Or.inl ⟨by rfl, by rintro w' ⟨s0, s1, s2, s3, s4, s5, s6, s7⟩; go_simp; with_reducible rfl⟩) ?_
 refine pX (i := 8) (N := some 13) rfl rfl HT_ ?_
 refine pX (i := 9) (N := some 14) rfl rfl HT_ ?_
 refine pX (i := 10) (N := some 15) rfl rfl HT_ ?_
 refine pX (i := 11) (N := some 16) rfl rfl HT_ ?_
 refine tX (i := 12) (N := some 17) rfl rfl HT_ HW_ hHeld (Or.inl ⟨by rfl, by rintro w' ⟨s0, s1, s2, s3, s4, s5, s6, s7⟩; go_simp; with_reducible rfl⟩) ?_
 refine pX (i := 13) (N := some 18) rfl rfl HT_ ?_
 refine pX (i := 14) (N := some 19) rfl rfl HT_ ?_
 refine pX (i := 15) (N := some 20) rfl rfl HT_ ?_
 refine pX (i := 16) (N := some 21) rfl rfl HT_ ?_
 refine tX (i := 17) (N := some 22) rfl rfl HT_ HW_ hHeld (Or.inl ⟨by rfl, by rintro w' ⟨s0, s1, s2, s3, s4, s5, s6, s7⟩; go_simp; with_reducible rfl⟩) ?_
 refine pX (i := 18) (N := some 23) rfl rfl HT_ ?_
 refine pX (i := 19) (N := some 24) rfl rfl HT_ ?_
 refine pX (i := 20) (N := some 25) rfl rfl HT_ ?_
 refine pX (i := 21) (N := some 26) rfl rfl HT_ ?_
 refine tX (i := 22) (N := some 27) rfl rfl HT_ HW_ hHeld (Or.inl ⟨by rfl, by rintro w' ⟨s0, s1, s2, s3, s4, s5, s6, s7⟩; go_simp; with_reducible rfl⟩) ?_
 refine pX (i := 23) (N := some 28) rfl rfl HT_ ?_
 refine pX (i := 24) (N := some 29) rfl rfl HT_ ?_
 refine pX (i := 25) (N := some 30) rfl rfl HT_ ?_
 refine pX (i := 26) (N := some 31) rfl rfl HT_ ?_
 refine pX (i := 28) (N := some 33) rfl rfl HT_ ?_
 refine tX (i := 27) (N := some 32) rfl rfl HT_ HW_ hHeld (Or.inl ⟨by rfl, by rintro w' ⟨s0, s1, s2, s3, s4, s5, s6, s7⟩; go_simp; with_reducible rfl⟩) ?_
 refine tX (i := 29) (N := some 34) rfl rfl HT_ HW_ hHeld (Or.inl ⟨by rfl, by rintro w' ⟨s0, s1, s2, s3, s4, s5, s6, s7⟩; go_simp; with_reducible rfl⟩) ?_
 refine pX (i := 30) (N := some 35) rfl rfl HT_ ?_
 refine pX (i := 31) (N := some 36) rfl rfl HT_ ?_
 refine pX (i := 32) (N := some 37) rfl rfl HT_ ?_
 refine pX (i := 33) (N := some 38) rfl rfl HT_ ?_
 refine pX (i := 35) (N := some 40) rfl rfl HT_ ?_
 refine tX (i := 34) (N := some 39) rfl rfl HT_ HW_ hHeld (Or.inl ⟨by rfl, by rintro w' ⟨s0, s1, s2, s3, s4, s5, s6, s7⟩; go_simp; with_reducible rfl⟩) ?_
 refine tX (i := 36) (N := some 41) rfl rfl HT_ HW_ hHeld (Or.inl ⟨by rfl, by rintro w' ⟨s0, s1, s2, s3, s4, s5, s6, s7⟩; go_simp; with_reducible rfl⟩) ?_
 refine pX (i := 37) (N := some 42) rfl rfl HT_ ?_
 refine pX (i := 38) (N := some 43) rfl rfl HT_ ?_
 refine pX (i := 39) (N := some 44) rfl rfl HT_ ?_
 refine pX (i := 40) (N := some 45) rfl rfl HT_ ?_
 refine tX (i := 41) (N := some 46) rfl rfl HT_ HW_ hHeld (Or.inl ⟨by rfl, by rintro w' ⟨s0, s1, s2, s3, s4, s5, s6, s7⟩; go_simp; with_reducible rfl⟩) ?_
 refine pX (i := 42) (N := some 47) rfl rfl HT_ ?_
 refine pX (i := 43) (N := some 48) rfl rfl HT_ ?_
 refine pX (i := 44) (N := some 49) rfl rfl HT_ ?_
 refine pX (i := 45) (N := some 50) rfl rfl HT_ ?_
 refine pX (i := 47) (N := some 52) rfl rfl HT_ ?_
 refine pX (i := 48) (N := some 53) rfl rfl HT_ ?_
 refine tX (i := 46) (N := some 51) rfl rfl HT_ HW_ hHeld (Or.inl ⟨by rfl, by rintro w' ⟨s0, s1, s2, s3, s4, s5, s6, s7⟩; go_simp; with_reducible rfl⟩) ?_
 refine tX (i := 49) (N := some 54) rfl rfl HT_ HW_ hHeld (Or.inl ⟨by rfl, by rintro w' ⟨s0, s1, s2, s3, s4, s5, s6, s7⟩; go_simp; with_reducible rfl⟩) ?_
 refine pX (i := 50) (N := some 55) rfl rfl HT_ ?_
 refine tX (i := 51) (N := some 56) rfl rfl HT_ HW_ hHeld (Or.inl ⟨by rfl, by rintro w' ⟨s0, s1, s2, s3, s4, s5, s6, s7⟩; go_simp; with_reducible rfl⟩) ?_
 refine tX (i := 52) (N := some 57) rfl rfl HT_ HW_ hHeld (Or.inl ⟨by rfl, by rintro w' ⟨s0, s1, s2, s3, s4, s5, s6, s7⟩; go_simp; with_reducible rfl⟩) ?_
 refine oX (i := 53) (N := some 58) rfl rfl HT_ (fun K hK => ?_)
 refine gS Try.func15 #[.int .u64 (rd l0 a1_0), .agg #[.int .i64 a1_0, .int .i64 a1_1, .int .i64 a1_2, .int .i64 a1_3, .int .i64 a1_4, .int .i64 a1_5, .int .u64 a1_6]] ?_
 with_reducible refine (paroleref32_Tag.calls k (rd l0 a1_0) a1_0 a1_1 a1_2 a1_3 a1_4 a1_5 a1_6 t103 _ A29.out).mono ?_
 rintro e w33 ⟨rfl, hb⟩
 refine ⟨_, rfl, ?_⟩
 replace BK101 := bB BK101 hb; replace HB := sB HB hb; (try clear hb); (try clear hb2); (try clear hk); (try clear hi)
 refine hK.out _ _ ⟨cE BK101 0, cE BK101 1, cE BK101 2, cE BK101 3, cE BK101 4, cE BK101 5, cE BK101 6, ((HB.out.cell (World.block_lt_of_cell? w _ hw102_0)).trans hw102_0)⟩ (fun hHeld => ?_)
 clear hK K
 refine nX (some 58) ?_
 refine pX (i := 54) (N := some 59) rfl rfl HT_ ?_
 refine pX (i := 55) (N := some 60) rfl rfl HT_ ?_
 refine done_ (done_of HT_.out (by kernel_rfl)) ?_
 try go_wp2
 go_ret
 exact ⟨by first | rfl | (simp [errW_none, errW_some] <;> rfl) | (simp [*, errW_none, errW_some] <;> rfl), sD HB⟩
end Go.Proofs.Ytfdoncgljohndaa.P

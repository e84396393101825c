/- A part of the claim FieldBounds: lemmas, printed functions with their contracts, plain laws. -/
import Derived.Test.YtfdoncgljohndaacFieldBounds1
import Derived.Maps.Views
import Derived.Maps.RangeWalk
import Derived.Maps.OwnSet
import Derived.Maps.OwnOps
import Derived.LoopTactic
import Derived.RegionTactic
import Derived.ChangeAlike
import Derived.Outline
set_option linter.unusedVariables false
set_option linter.unusedSimpArgs false
namespace Go.Proofs.Ytfdoncgljohndaa.P
open Go.Proofs.YtfdoncgljohndaaH Go.RowKit Go.Proofs.YtfdoncgljohndaaW.PrintWords Go.Proofs.YtfdoncgljohndaaW.PrintLast Go.Proofs.YtfdoncgljohndaaW.PrintMore
attribute [local go_sem] max2_int min2_int max_two min_two max_three min_three max_four min_four   -- for this text's walks alone
mutual
def field_Right.j0 : Nat → List Int → Bool → Int → Int → Int → Int → Int → Int → Int → Option (Int)
 | 0, _, _, _, _, _, _, _, _, _ => none
 | k + 1, x0, x5, x102000, x102001, x102002, x102003, x102004, x102005, x102006 => if x5 = true then (field_Right.j1 k x0 x5 x102000 x102001 x102002 x102003 x102004 x102005 x102006) else (if x102001 < 1 then (field_Right.j1 k x0 true x102000 x102001 x102002 x102003 x102004 x102005 x102006) else (field_Right.j1 k x0 (decide (x102001 > 1073741824)) x102000 x102001 x102002 x102003 x102004 x102005 x102006))
def field_Right.j1 : Nat → List Int → Bool → Int → Int → Int → Int → Int → Int → Int → Option (Int)
 | 0, _, _, _, _, _, _, _, _, _ => none
 | k + 1, x0, x5, x102000, x102001, x102002, x102003, x102004, x102005, x102006 => if x5 = true then (some 320) else (if x102005 < 0 then (field_Right.j2 k x0 true x102000 x102001 x102002 x102003 x102004 x102005 x102006) else (if x102004 < x102005 then (field_Right.j2 k x0 true x102000 x102001 x102002 x102003 x102004 x102005 x102006) else (if x102003 < x102004 then (field_Right.j2 k x0 true x102000 x102001 x102002 x102003 x102004 x102005 x102006) else (field_Right.j2 k x0 (decide (x102003 > 1099511627776)) x102000 x102001 x102002 x102003 x102004 x102005 x102006))))
def field_Right.j2 : Nat → List Int → Bool → Int → Int → Int → Int → Int → Int → Int → Option (Int)
 | 0, _, _, _, _, _, _, _, _, _ => none
 | k + 1, x0, x24, x102000, x102001, x102002, x102003, x102004, x102005, x102006 => if x24 = true then (some 320) else (if 0 ≤ x102000 then (if x102000 < (x0.length : Int) then ((field_Tag.f k (rd x0 x102000) x102000 x102001 x102002 x102003 x102004 x102005 x102006).bind fun t103 => (if x102006 = t103 then (some 0) else (some 320))) else (none)) else (none))
end
def field_Right.f (k : Nat) (l0 : List Int) (a1_0 : Int) (a1_1 : Int) (a1_2 : Int) (a1_3 : Int) (a1_4 : Int) (a1_5 : Int) (a1_6 : Int) : Option (Int) := if a1_0 < 0 then (field_Right.j0 k l0 true a1_0 a1_1 a1_2 a1_3 a1_4 a1_5 a1_6) else (field_Right.j0 k l0 (decide (a1_0 ≥ (l0.length : Int))) a1_0 a1_1 a1_2 a1_3 a1_4 a1_5 a1_6)
def field_Right.T6 : Bool × List (List Nat × List Nat) := (true, [([], []), ([0], [0]), ([], []), ([], []), ([3], [3]), ([2, 4], [2, 4]), ([5], [5]), ([], []), ([6, 7], [6, 7]), ([1, 8], [1, 8]), ([9, 8], [9])])
def field_Right.B6 : List Nat := [0, 1, 0, 0, 8, 28, 60, 0, 252, 511, 1023]
theorem field_Right.tab6 : rtab .any (opsOf Try.f17 6) = field_Right.T6 := by kernel_rfl
theorem field_Right.bits6 : waitsOk field_Right.T6.2 field_Right.B6 = true := by kernel_rfl
set_option maxHeartbeats 40000000 in
set_option maxRecDepth 100000 in
theorem field_Right.calls (k : Nat) (A0 : Option Addr) (c0 : Nat) (l0 : List Int) (a1_0 : Int) (a1_1 : Int) (a1_2 : Int) (a1_3 : Int) (a1_4 : Int) (a1_5 : Int) (a1_6 : Int) (r : Int) (w : World) (hr0 : Kd.C (Kd.int .u64) w A0 l0.length l0) (hc0 : l0.length ≤ c0) (h : field_Right.f k l0 a1_0 a1_1 a1_2 a1_3 a1_4 a1_5 a1_6 = some r) :
  Calls Try.prog 17 #[.slice A0 l0.length c0, .agg #[.int .i64 a1_0, .int .i64 a1_1, .int .i64 a1_2, .int .i64 a1_3, .int .i64 a1_4, .int .i64 a1_5, .int .u64 a1_6]] w fun e w' => e = .returned (.int .i64 r) ∧ Below w.heap.size w w' := by
 have hu28 := Try.underlying28; have HR0 := aM hr0; have HC0 := aM hc0; clear hr0 hc0; have HB := aM (Below.refl w.heap.size w)
 have H : (if a1_0 < 0 then (field_Right.j0 k l0 true a1_0 a1_1 a1_2 a1_3 a1_4 a1_5 a1_6) else (field_Right.j0 k l0 (decide (a1_0 ≥ (l0.length : Int))) a1_0 a1_1 a1_2 a1_3 a1_4 a1_5 a1_6)) = some r := h
 clear h; have HC3 := aM H; clear H
 go_enter Try.func17, Try.ntmps17
 go_upto_region 1 with (first | ((with_reducible refine gate_dst (N := 3) rfl ?_); (try (refine gate_guard (by rfl) ?_; dsimp only)); refine bE (N := 3) (cs := #[.int .i64 a1_0, .int .i64 a1_1, .int .i64 a1_2, .int .i64 a1_3, .int .i64 a1_4, .int .i64 a1_5, .int .u64 a1_6]) (t := 28) ?_; intro gb101 hg w4 hbox hb; have BK101 := aM (hbox); have GW101 := gE hg HB; have GE101 := gE hg HB; replace HB := sB HB hb; clear hb hbox hg))
 (try simp only [Act.put, List.setIfInBounds_toArray, List.set_cons_zero, List.set_cons_succ])
 go_cut [5] (fun v5 wc => ∃ (kq : Nat) (x5_2 : Bool), v5 = .bool x5_2 ∧ Aside0 (field_Right.j0 kq l0 x5_2 a1_0 a1_1 a1_2 a1_3 a1_4 a1_5 a1_6 = some r) ∧ Aside0 (kq ≤ k) ∧ Aside0 (wc.heap[gb101]? = some (.cells #[.int .i64 a1_0, .int .i64 a1_1, .int .i64 a1_2, .int .i64 a1_3, .int .i64 a1_4, .int .i64 a1_5, .int .u64 a1_6] 28 (0, 0))) ∧ Aside0 (Below w.heap.size w wc))
 case first =>
  have H := HC3.out; clear HC3
  by_cases c5 : a1_0 < 0
  ·rw [if_pos c5] at H
   have c5b0 : decide (a1_0 < 0) = true := decide_eq_true c5
   clear c5
   (first | rw [c5b0] | (simp only [i64_w, i32_w]; rw [c5b0]) | skip)
   have H' := aM H; clear H; obtain ⟨hcz6_0, hcz6_1, hcz6_2, hcz6_3, hcz6_4, hcz6_5, hcz6_6, hfz6_0, hfz6_1, hfz6_2, hfz6_3, hfz6_4, hfz6_5, hfz6_6⟩ := cZ7 BK101
   go_wp2
   go_meet
   case rel => exact ⟨_, (true), (by first | rfl | (simp; done) | (simp [*]; done)), H', ⟨by first | omega | exact Nat.le_refl _⟩, ⟨by exact bD BK101⟩, ⟨sD HB⟩⟩
  ·rw [if_neg c5] at H
   have c5b0 : decide (a1_0 < 0) = false := decide_eq_false c5
   clear c5
   (first | rw [c5b0] | (simp only [i64_w, i32_w]; rw [c5b0]) | skip)
   have H' := aM H; clear H; obtain ⟨hcz7_0, hcz7_1, hcz7_2, hcz7_3, hcz7_4, hcz7_5, hcz7_6, hfz7_0, hfz7_1, hfz7_2, hfz7_3, hfz7_4, hfz7_5, hfz7_6⟩ := cZ7 BK101
   go_wp2
   go_meet
   case rel => exact ⟨_, (decide (a1_0 ≥ (l0.length : Int))), (by first | rfl | (simp; done) | (simp [*]; done)), H', ⟨by first | omega | exact Nat.le_refl _⟩, ⟨by exact bD BK101⟩, ⟨sD HB⟩⟩
 case rest =>
  clear HC3
  try clear c1
  try clear p2
  try clear c5
  try clear c5b0
  try clear hcz6_0
  try clear hcz6_1
  try clear hcz6_2
  try clear hcz6_3
  try clear hcz6_4
  try clear hcz6_5
  try clear hcz6_6
  try clear hcz7_0
  try clear hcz7_1
  try clear hcz7_2
  try clear hcz7_3
  try clear hcz7_4
  try clear hcz7_5
  try clear hcz7_6
  try clear hfz6_0
  try clear hfz6_1
  try clear hfz6_2
  try clear hfz6_3
  try clear hfz6_4
  try clear hfz6_5
  try clear hfz6_6
  try clear hfz7_0
  try clear hfz7_1
  try clear hfz7_2
  try clear hfz7_3
  try clear hfz7_4
  try clear hfz7_5
  try clear hfz7_6
  obtain ⟨kq, x5_2, rfl, HA, HJ2, BK101, HB⟩ := hcut
  cases kq with
  | zero => exact absurd HA.out (by simp [field_Right.j0])
  | succ kj2 =>
   have H := HA.out; clear HA
   simp only [field_Right.j0] at H
   have HC8 := aM H; clear H
   go_upto_if 5 with (fail)
   go_cut [5] (fun v5 wc => ∃ (kq : Nat) (x5_7 : Bool), v5 = .bool x5_7 ∧ Aside0 (field_Right.j1 kq l0 x5_7 a1_0 a1_1 a1_2 a1_3 a1_4 a1_5 a1_6 = some r) ∧ Aside0 (kq ≤ kj2) ∧ Aside0 (wc.heap[gb101]? = some (.cells #[.int .i64 a1_0, .int .i64 a1_1, .int .i64 a1_2, .int .i64 a1_3, .int .i64 a1_4, .int .i64 a1_5, .int .u64 a1_6] 28 (0, 0))) ∧ Aside0 (Below w.heap.size w wc))
   case first =>
    have H := HC8.out; clear HC8
    by_cases c9 : x5_2 = true
    ·subst c9
     have H1 : (field_Right.j1 kj2 l0 true a1_0 a1_1 a1_2 a1_3 a1_4 a1_5 a1_6) = some r := by rw [if_pos rfl] at H; exact H
     clear H; have H := H1; clear H1; have H' := aM H; clear H
     go_wp2
     go_meet
     case rel => exact ⟨_, (true), (by first | rfl | (simp; done) | (simp [*]; done)), H', ⟨by have := HJ2.out; first | omega | exact Nat.le_refl _⟩, ⟨by exact bD BK101⟩, ⟨sD HB⟩⟩
    ·replace c9 := Bool.eq_false_iff.mpr c9
     subst c9
     have H1 : (if a1_1 < 1 then (field_Right.j1 kj2 l0 true a1_0 a1_1 a1_2 a1_3 a1_4 a1_5 a1_6) else (field_Right.j1 kj2 l0 (decide (a1_1 > 1073741824)) a1_0 a1_1 a1_2 a1_3 a1_4 a1_5 a1_6)) = some r := by rw [if_neg (show ¬ (false = true) by decide)] at H; exact H
     clear H; have H := H1; clear H1
     by_cases c10 : a1_1 < 1
     ·rw [if_pos c10] at H
      have c10b0 : decide (a1_1 < 1) = true := decide_eq_true c10
      clear c10
      (first | rw [c10b0] | (simp only [i64_w, i32_w]; rw [c10b0]) | skip)
      have H' := aM H; clear H; obtain ⟨hcz11_0, hcz11_1, hcz11_2, hcz11_3, hcz11_4, hcz11_5, hcz11_6, hfz11_0, hfz11_1, hfz11_2, hfz11_3, hfz11_4, hfz11_5, hfz11_6⟩ := cZ7 BK101
      go_wp2
      go_meet
      case rel => exact ⟨_, (true), (by first | rfl | (simp; done) | (simp [*]; done)), H', ⟨by have := HJ2.out; first | omega | exact Nat.le_refl _⟩, ⟨by exact bD BK101⟩, ⟨sD HB⟩⟩
     ·rw [if_neg c10] at H
      have c10b0 : decide (a1_1 < 1) = false := decide_eq_false c10
      clear c10
      (first | rw [c10b0] | (simp only [i64_w, i32_w]; rw [c10b0]) | skip)
      have H' := aM H; clear H; obtain ⟨hcz12_0, hcz12_1, hcz12_2, hcz12_3, hcz12_4, hcz12_5, hcz12_6, hfz12_0, hfz12_1, hfz12_2, hfz12_3, hfz12_4, hfz12_5, hfz12_6⟩ := cZ7 BK101
      go_wp2
      go_meet
      case rel => exact ⟨_, (decide (a1_1 > 1073741824)), (by first | rfl | (simp; done) | (simp [*]; done)), H', ⟨by have := HJ2.out; first | omega | exact Nat.le_refl _⟩, ⟨by exact bD BK101⟩, ⟨sD HB⟩⟩
   case rest =>
    clear HC8
    try clear c1
    try clear p2
    try clear c5
    try clear c5b0
    try clear c9
    try clear c10
    try clear c10b0
    try clear hcz11_0
    try clear hcz11_1
    try clear hcz11_2
    try clear hcz11_3
    try clear hcz11_4
    try clear hcz11_5
    try clear hcz11_6
    try clear hcz12_0
    try clear hcz12_1
    try clear hcz12_2
    try clear hcz12_3
    try clear hcz12_4
    try clear hcz12_5
    try clear hcz12_6
    try clear hcz6_0
    try clear hcz6_1
    try clear hcz6_2
    try clear hcz6_3
    try clear hcz6_4
    try clear hcz6_5
    try clear hcz6_6
    try clear hcz7_0
    try clear hcz7_1
    try clear hcz7_2
    try clear hcz7_3
    try clear hcz7_4
    try clear hcz7_5
    try clear hcz7_6
    try clear hfz11_0
    try clear hfz11_1
    try clear hfz11_2
    try clear hfz11_3
    try clear hfz11_4
    try clear hfz11_5
    try clear hfz11_6
    try clear hfz12_0
    try clear hfz12_1
    try clear hfz12_2
    try clear hfz12_3
    try clear hfz12_4
    try clear hfz12_5
    try clear hfz12_6
    try clear hfz6_0
    try clear hfz6_1
    try clear hfz6_2
    try clear hfz6_3
    try clear hfz6_4
    try clear hfz6_5
    try clear hfz6_6
    try clear hfz7_0
    try clear hfz7_1
    try clear hfz7_2
    try clear hfz7_3
    try clear hfz7_4
    try clear hfz7_5
    try clear hfz7_6
    try clear p2
    obtain ⟨kq, x5_7, rfl, HA, HJ7, BK101, HB⟩ := hcut
    cases kq with
    | zero => exact absurd HA.out (by simp [field_Right.j1])
    | succ kj7 =>
     have H := HA.out; clear HA
     simp only [field_Right.j1] at H
     by_cases c13 : x5_7 = true
     ·subst c13
      have H1 : (some 320) = some r := by rw [if_pos rfl] at H; exact H
      clear H; have H := H1; clear H1
      obtain rfl := Option.some.inj H
      go_wp2
      go_ret
      exact ⟨by first | rfl | (simp [errW_none, errW_some] <;> rfl) | (simp [*, errW_none, errW_some] <;> rfl), sD HB⟩
     ·replace c13 := Bool.eq_false_iff.mpr c13
      subst c13
      have H1 : (if a1_5 < 0 then (field_Right.j2 kj7 l0 true a1_0 a1_1 a1_2 a1_3 a1_4 a1_5 a1_6) else (if a1_4 < a1_5 then (field_Right.j2 kj7 l0 true a1_0 a1_1 a1_2 a1_3 a1_4 a1_5 a1_6) else (if a1_3 < a1_4 then (field_Right.j2 kj7 l0 true a1_0 a1_1 a1_2 a1_3 a1_4 a1_5 a1_6) else (field_Right.j2 kj7 l0 (decide (a1_3 > 1099511627776)) a1_0 a1_1 a1_2 a1_3 a1_4 a1_5 a1_6)))) = some r := by rw [if_neg (show ¬ (false = true) by decide)] at H; exact H
      clear H; have H := H1; clear H1; have HC14 := aM H; clear H
      go_upto_region 4 with (fail)
      go_cut [24] (fun v24 wc => ∃ (kq : Nat) (x24_13 : Bool), v24 = .bool x24_13 ∧ Aside0 (field_Right.j2 kq l0 x24_13 a1_0 a1_1 a1_2 a1_3 a1_4 a1_5 a1_6 = some r) ∧ Aside0 (kq ≤ kj7) ∧ Aside0 (wc.heap[gb101]? = some (.cells #[.int .i64 a1_0, .int .i64 a1_1, .int .i64 a1_2, .int .i64 a1_3, .int .i64 a1_4, .int .i64 a1_5, .int .u64 a1_6] 28 (0, 0))) ∧ Aside0 (Below w.heap.size w wc))
      case first =>
       have H := HC14.out; clear HC14
       by_cases c15 : a1_5 < 0
       ·rw [if_pos c15] at H
        have c15b0 : decide (a1_5 < 0) = true := decide_eq_true c15
        clear c15
        (first | rw [c15b0] | (simp only [i64_w, i32_w]; rw [c15b0]) | skip)
        have H' := aM H; clear H; obtain ⟨hcz16_0, hcz16_1, hcz16_2, hcz16_3, hcz16_4, hcz16_5, hcz16_6, hfz16_0, hfz16_1, hfz16_2, hfz16_3, hfz16_4, hfz16_5, hfz16_6⟩ := cZ7 BK101
        go_wp2
        go_meet
        case rel => exact ⟨_, (true), (by first | rfl | (simp; done) | (simp [*]; done)), H', ⟨by have := HJ2.out; have := HJ7.out; first | omega | exact Nat.le_refl _⟩, ⟨by exact bD BK101⟩, ⟨sD HB⟩⟩
       ·rw [if_neg c15] at H
        have c15b0 : decide (a1_5 < 0) = false := decide_eq_false c15
        clear c15
        (first | rw [c15b0] | (simp only [i64_w, i32_w]; rw [c15b0]) | skip)
        by_cases c17 : a1_4 < a1_5
        ·rw [if_pos c17] at H
         have c17b0 : decide (a1_4 < a1_5) = true := decide_eq_true c17
         clear c17; have H' := aM H; clear H; obtain ⟨hcz18_0, hcz18_1, hcz18_2, hcz18_3, hcz18_4, hcz18_5, hcz18_6, hfz18_0, hfz18_1, hfz18_2, hfz18_3, hfz18_4, hfz18_5, hfz18_6⟩ := cZ7 BK101
         go_wp2
         go_meet
         case rel => exact ⟨_, (true), (by first | rfl | (simp; done) | (simp [*]; done)), H', ⟨by have := HJ2.out; have := HJ7.out; first | omega | exact Nat.le_refl _⟩, ⟨by exact bD BK101⟩, ⟨sD HB⟩⟩
        ·rw [if_neg c17] at H
         have c17b0 : decide (a1_4 < a1_5) = false := decide_eq_false c17
         clear c17
         by_cases c19 : a1_3 < a1_4
         ·rw [if_pos c19] at H
          have c19b0 : decide (a1_3 < a1_4) = true := decide_eq_true c19
          clear c19; have H' := aM H; clear H; obtain ⟨hcz20_0, hcz20_1, hcz20_2, hcz20_3, hcz20_4, hcz20_5, hcz20_6, hfz20_0, hfz20_1, hfz20_2, hfz20_3, hfz20_4, hfz20_5, hfz20_6⟩ := cZ7 BK101
          go_wp2
          go_meet
          case rel => exact ⟨_, (true), (by first | rfl | (simp; done) | (simp [*]; done)), H', ⟨by have := HJ2.out; have := HJ7.out; first | omega | exact Nat.le_refl _⟩, ⟨by exact bD BK101⟩, ⟨sD HB⟩⟩
         ·rw [if_neg c19] at H
          have c19b0 : decide (a1_3 < a1_4) = false := decide_eq_false c19
          clear c19; have H' := aM H; clear H; obtain ⟨hcz21_0, hcz21_1, hcz21_2, hcz21_3, hcz21_4, hcz21_5, hcz21_6, hfz21_0, hfz21_1, hfz21_2, hfz21_3, hfz21_4, hfz21_5, hfz21_6⟩ := cZ7 BK101
          go_wp2
          go_meet
          case rel => exact ⟨_, (decide (a1_3 > 1099511627776)), (by first | rfl | (simp; done) | (simp [*]; done)), H', ⟨by have := HJ2.out; have := HJ7.out; first | omega | exact Nat.le_refl _⟩, ⟨by exact bD BK101⟩, ⟨sD HB⟩⟩
      case rest =>
       clear HC14
       try clear c1
       try clear p2
       try clear c5
       try clear c5b0
       try clear c9
       try clear c10
       try clear c10b0
       try clear c13
       try clear c15
       try clear c15b0
       try clear c17
       try clear c17b0
       try clear c19
       try clear c19b0
       try clear hcz11_0
       try clear hcz11_1
       try clear hcz11_2
       try clear hcz11_3
       try clear hcz11_4
       try clear hcz11_5
       try clear hcz11_6
       try clear hcz12_0
       try clear hcz12_1
       try clear hcz12_2
       try clear hcz12_3
       try clear hcz12_4
       try clear hcz12_5
       try clear hcz12_6
       try clear hcz16_0
       try clear hcz16_1
       try clear hcz16_2
       try clear hcz16_3
       try clear hcz16_4
       try clear hcz16_5
       try clear hcz16_6
       try clear hcz18_0
       try clear hcz18_1
       try clear hcz18_2
       try clear hcz18_3
       try clear hcz18_4
       try clear hcz18_5
       try clear hcz18_6
       try clear hcz20_0
       try clear hcz20_1
       try clear hcz20_2
       try clear hcz20_3
       try clear hcz20_4
       try clear hcz20_5
       try clear hcz20_6
       try clear hcz21_0
       try clear hcz21_1
       try clear hcz21_2
       try clear hcz21_3
       try clear hcz21_4
       try clear hcz21_5
       try clear hcz21_6
       try clear hcz6_0
       try clear hcz6_1
       try clear hcz6_2
       try clear hcz6_3
       try clear hcz6_4
       try clear hcz6_5
       try clear hcz6_6
       try clear hcz7_0
       try clear hcz7_1
       try clear hcz7_2
       try clear hcz7_3
       try clear hcz7_4
       try clear hcz7_5
       try clear hcz7_6
       try clear hfz11_0
       try clear hfz11_1
       try clear hfz11_2
       try clear hfz11_3
       try clear hfz11_4
       try clear hfz11_5
       try clear hfz11_6
       try clear hfz12_0
       try clear hfz12_1
       try clear hfz12_2
       try clear hfz12_3
       try clear hfz12_4
       try clear hfz12_5
       try clear hfz12_6
       try clear hfz16_0
       try clear hfz16_1
       try clear hfz16_2
       try clear hfz16_3
       try clear hfz16_4
       try clear hfz16_5
       try clear hfz16_6
       try clear hfz18_0
       try clear hfz18_1
       try clear hfz18_2
       try clear hfz18_3
       try clear hfz18_4
       try clear hfz18_5
       try clear hfz18_6
       try clear hfz20_0
       try clear hfz20_1
       try clear hfz20_2
       try clear hfz20_3
       try clear hfz20_4
       try clear hfz20_5
       try clear hfz20_6
       try clear hfz21_0
       try clear hfz21_1
       try clear hfz21_2
       try clear hfz21_3
       try clear hfz21_4
       try clear hfz21_5
       try clear hfz21_6
       try clear hfz6_0
       try clear hfz6_1
       try clear hfz6_2
       try clear hfz6_3
       try clear hfz6_4
       try clear hfz6_5
       try clear hfz6_6
       try clear hfz7_0
       try clear hfz7_1
       try clear hfz7_2
       try clear hfz7_3
       try clear hfz7_4
       try clear hfz7_5
       try clear hfz7_6
       try clear p2
       obtain ⟨kq, x24_13, rfl, HA, HJ13, BK101, HB⟩ := hcut
       cases kq with
       | zero => exact absurd HA.out (by simp [field_Right.j2])
       | succ kj13 =>
        have H := HA.out; clear HA
        simp only [field_Right.j2] at H
        by_cases c22 : x24_13 = true
        ·subst c22
         have H1 : (some 320) = some r := by rw [if_pos rfl] at H; exact H
         clear H; have H := H1; clear H1
         obtain rfl := Option.some.inj H
         go_wp2
         go_ret
         exact ⟨by first | rfl | (simp [errW_none, errW_some] <;> rfl) | (simp [*, errW_none, errW_some] <;> rfl), sD HB⟩
        ·replace c22 := Bool.eq_false_iff.mpr c22
         subst c22
         have H1 : (if 0 ≤ a1_0 then (if a1_0 < (l0.length : Int) then ((field_Tag.f kj13 (rd l0 a1_0) a1_0 a1_1 a1_2 a1_3 a1_4 a1_5 a1_6).bind fun t103 => (if a1_6 = t103 then (some 0) else (some 320))) else (none)) else (none)) = some r := by rw [if_neg (show ¬ (false = true) by decide)] at H; exact H
         clear H; have H := H1; clear H1
         by_cases c23 : 0 ≤ a1_0
         ·rw [if_pos c23] at H
          have c23b0 : decide (0 ≤ a1_0) = true := decide_eq_true c23
          clear c23
          by_cases c24 : a1_0 < (l0.length : Int)
          ·rw [if_pos c24] at H
           have c24b0 : decide (a1_0 < (l0.length : Int)) = true := decide_eq_true c24
           clear c24; replace H := Option.bind_eq_some_iff.mp H
           obtain ⟨t103, A250, H⟩ := H
           replace H : (if a1_6 = t103 then (some 0) else (some 320)) = some r := H
           have A25 := aM A250; clear A250
           by_cases c26 : a1_6 = t103
           ·rw [if_pos c26] at H
            have c26b0 : (a1_6 == t103) = true := beq_iff_eq.mpr c26
            have c26b1 : (a1_6 != t103) = false := bne_eq_false_iff_eq.mpr c26
            clear c26
            obtain rfl := Option.some.inj H
            try go_wp2
            replace BK101 := aM (blk_drew BK101.out); replace HB := aM (below_drew1 HB.out)
            have p102 : 0 ≤ (a1_0 : Int) := of_decide_eq_true (by first | (with_reducible assumption) | assumption)
            have q102 : a1_0 < (l0.length : Int) := of_decide_eq_true (by first | (with_reducible assumption) | assumption)
            obtain ⟨ad102, e102, hx102_0⟩ := Kd.at_int HR0.out a1_0 p102 q102
            have hw102_0 := hx102_0
            cases e102
            replace hx102_0 := (HB.out.cell (World.block_lt_of_cell? w _ hx102_0)).trans hx102_0; replace p102 := eq_true p102; replace q102 := eq_true q102
            refine start_ (n := 11) (S := fun w' => w'.cell? ⟨gb101, 0, none⟩ = some (.int .i64 a1_0) ∧ w'.cell? ⟨gb101, 1, none⟩ = some (.int .i64 a1_1) ∧ w'.cell? ⟨gb101, 2, none⟩ = some (.int .i64 a1_2) ∧ w'.cell? ⟨gb101, 3, none⟩ = some (.int .i64 a1_3) ∧ w'.cell? ⟨gb101, 4, none⟩ = some (.int .i64 a1_4) ∧ w'.cell? ⟨gb101, 5, none⟩ = some (.int .i64 a1_5) ∧ w'.cell? ⟨gb101, 6, none⟩ = some (.int .u64 a1_6) ∧ w'.cell? (ad102.add (a1_0).toNat) = some (.int .u64 (rd l0 a1_0))) (ds := []) #[false, false, false, false, false, false, false, false, false, false, false] (by kernel_rfl) rfl rfl ⟨cE BK101 0, cE BK101 1, cE BK101 2, cE BK101 3, cE BK101 4, cE BK101 5, cE BK101 6, ((HB.out.cell (World.block_lt_of_cell? w _ hw102_0)).trans hw102_0)⟩ (fun hHeld => ?_); refine with_tabW field_Right.tab6 field_Right.bits6 (fun HT_ HW_ => ?_)
            generalize wc.drew = w27 at BK101 HB hx102_0 hHeld ⊢
            refine pX (i := 0) (N := some 48) rfl rfl HT_ ?_
            refine pX (i := 2) (N := some 50) rfl rfl HT_ ?_
            refine pX (i := 3) (N := some 51) rfl rfl HT_ ?_
            refine tX (i := 1) (N := some 49) rfl rfl HT_ HW_ hHeld (Or.inl ⟨by rfl, by rintro w' ⟨s0, s1, s2, s3, s4, s5, s6, s7⟩; go_simp; with_reducible rfl⟩) ?_
            refine tX (i := 4) (N := some 52) rfl rfl HT_ HW_ hHeld (Or.inl ⟨by rfl, by rintro w' ⟨s0, s1, s2, s3, s4, s5, s6, s7⟩; go_simp; with_reducible rfl⟩) ?_
            refine pX (i := 5) (N := some 53) rfl rfl HT_ ?_
            refine tX (i := 6) (N := some 54) rfl rfl HT_ HW_ hHeld (Or.inl ⟨by rfl, by rintro w' ⟨s0, s1, s2, s3, s4, s5, s6, s7⟩; go_simp; with_reducible rfl⟩) ?_
            refine tX (i := 7) (N := some 55) rfl rfl HT_ HW_ hHeld (Or.inl ⟨by rfl, by rintro w' ⟨s0, s1, s2, s3, s4, s5, s6, s7⟩; go_simp; with_reducible rfl⟩) ?_
            refine oX (i := 8) (N := some 56) rfl rfl HT_ (fun K hK => ?_)
            refine gS Try.func14 #[.int .u64 (rd l0 a1_0), .agg #[.int .i64 a1_0, .int .i64 a1_1, .int .i64 a1_2, .int .i64 a1_3, .int .i64 a1_4, .int .i64 a1_5, .int .u64 a1_6]] ?_
            with_reducible refine (field_Tag.calls kj13 (rd l0 a1_0) a1_0 a1_1 a1_2 a1_3 a1_4 a1_5 a1_6 t103 _ A25.out).mono ?_
            rintro e w28 ⟨rfl, hb⟩
            refine ⟨_, rfl, ?_⟩
            replace BK101 := bB BK101 hb; replace HB := sB HB hb; (try clear hb); (try clear hb2); (try clear hk); (try clear hi)
            refine hK.out _ _ ⟨cE BK101 0, cE BK101 1, cE BK101 2, cE BK101 3, cE BK101 4, cE BK101 5, cE BK101 6, ((HB.out.cell (World.block_lt_of_cell? w _ hw102_0)).trans hw102_0)⟩ (fun hHeld => ?_)
            clear hK K
            refine nX (some 56) ?_
            refine pX (i := 9) (N := some 57) rfl rfl HT_ ?_
            refine pX (i := 10) (N := some 47) rfl rfl HT_ ?_
            refine done_ (done_of HT_.out (by kernel_rfl)) ?_
            try go_wp2
            go_ret
            exact ⟨by first | rfl | (simp [errW_none, errW_some] <;> rfl) | (simp [*, errW_none, errW_some] <;> rfl), sD HB⟩
           ·rw [if_neg c26] at H
            have c26b0 : (a1_6 == t103) = false := beq_eq_false_iff_ne.mpr c26
            have c26b1 : (a1_6 != t103) = true := bne_iff_ne.mpr c26
            obtain rfl := Option.some.inj H
            try go_wp2
            replace BK101 := aM (blk_drew BK101.out); replace HB := aM (below_drew1 HB.out)
            have p102 : 0 ≤ (a1_0 : Int) := of_decide_eq_true (by first | (with_reducible assumption) | assumption)
            have q102 : a1_0 < (l0.length : Int) := of_decide_eq_true (by first | (with_reducible assumption) | assumption)
            obtain ⟨ad102, e102, hx102_0⟩ := Kd.at_int HR0.out a1_0 p102 q102
            have hw102_0 := hx102_0
            cases e102
            replace hx102_0 := (HB.out.cell (World.block_lt_of_cell? w _ hx102_0)).trans hx102_0; replace p102 := eq_true p102; replace q102 := eq_true q102
            refine start_ (n := 11) (S := fun w' => w'.cell? ⟨gb101, 0, none⟩ = some (.int .i64 a1_0) ∧ w'.cell? ⟨gb101, 1, none⟩ = some (.int .i64 a1_1) ∧ w'.cell? ⟨gb101, 2, none⟩ = some (.int .i64 a1_2) ∧ w'.cell? ⟨gb101, 3, none⟩ = some (.int .i64 a1_3) ∧ w'.cell? ⟨gb101, 4, none⟩ = some (.int .i64 a1_4) ∧ w'.cell? ⟨gb101, 5, none⟩ = some (.int .i64 a1_5) ∧ w'.cell? ⟨gb101, 6, none⟩ = some (.int .u64 a1_6) ∧ w'.cell? (ad102.add (a1_0).toNat) = some (.int .u64 (rd l0 a1_0))) (ds := []) #[false, false, false, false, false, false, false, false, false, false, false] (by kernel_rfl) rfl rfl ⟨cE BK101 0, cE BK101 1, cE BK101 2, cE BK101 3, cE BK101 4, cE BK101 5, cE BK101 6, ((HB.out.cell (World.block_lt_of_cell? w _ hw102_0)).trans hw102_0)⟩ (fun hHeld => ?_); refine with_tabW field_Right.tab6 field_Right.bits6 (fun HT_ HW_ => ?_)
            generalize wc.drew = w29 at BK101 HB hx102_0 hHeld ⊢
            refine pX (i := 0) (N := some 48) rfl rfl HT_ ?_
            refine pX (i := 2) (N := some 50) rfl rfl HT_ ?_
            refine pX (i := 3) (N := some 51) rfl rfl HT_ ?_
            refine tX (i := 1) (N := some 49) rfl rfl HT_ HW_ hHeld (Or.inl ⟨by rfl, by rintro w' ⟨s0, s1, s2, s3, s4, s5, s6, s7⟩; go_simp; with_reducible rfl⟩) ?_
            refine tX (i := 4) (N := some 52) rfl rfl HT_ HW_ hHeld (Or.inl ⟨by rfl, by rintro w' ⟨s0, s1, s2, s3, s4, s5, s6, s7⟩; go_simp; with_reducible rfl⟩) ?_
            refine pX (i := 5) (N := some 53) rfl rfl HT_ ?_
            refine tX (i := 6) (N := some 54) rfl rfl HT_ HW_ hHeld (Or.inl ⟨by rfl, by rintro w' ⟨s0, s1, s2, s3, s4, s5, s6, s7⟩; go_simp; with_reducible rfl⟩) ?_
            refine tX (i := 7) (N := some 55) rfl rfl HT_ HW_ hHeld (Or.inl ⟨by rfl, by rintro w' ⟨s0, s1, s2, s3, s4, s5, s6, s7⟩; go_simp; with_reducible rfl⟩) ?_
            refine oX (i := 8) (N := some 56) rfl rfl HT_ (fun K hK => ?_)
            refine gS Try.func14 #[.int .u64 (rd l0 a1_0), .agg #[.int .i64 a1_0, .int .i64 a1_1, .int .i64 a1_2, .int .i64 a1_3, .int .i64 a1_4, .int .i64 a1_5, .int .u64 a1_6]] ?_
            with_reducible refine (field_Tag.calls kj13 (rd l0 a1_0) a1_0 a1_1 a1_2 a1_3 a1_4 a1_5 a1_6 t103 _ A25.out).mono ?_
            rintro e w30 ⟨rfl, hb⟩
            refine ⟨_, rfl, ?_⟩
            replace BK101 := bB BK101 hb; replace HB := sB HB hb; (try clear hb); (try clear hb2); (try clear hk); (try clear hi)
            refine hK.out _ _ ⟨cE BK101 0, cE BK101 1, cE BK101 2, cE BK101 3, cE BK101 4, cE BK101 5, cE BK101 6, ((HB.out.cell (World.block_lt_of_cell? w _ hw102_0)).trans hw102_0)⟩ (fun hHeld => ?_)
            clear hK K
            refine nX (some 56) ?_
            refine pX (i := 9) (N := some 57) rfl rfl HT_ ?_
            refine pX (i := 10) (N := some 47) rfl rfl HT_ ?_
            refine done_ (done_of HT_.out (by kernel_rfl)) ?_
            try go_wp2
            go_ret
            exact ⟨by first | rfl | (simp [errW_none, errW_some] <;> rfl) | (simp [*, errW_none, errW_some] <;> rfl), sD HB⟩
          ·rw [if_neg c24] at H
           exact absurd H (by simp)
         ·rw [if_neg c23] at H
          exact absurd H (by simp)
end Go.Proofs.Ytfdoncgljohndaa.P
namespace Go.Proofs.Ytfdoncgljohndaa.P
open Go.Proofs.YtfdoncgljohndaaH Go.RowKit Go.Proofs.YtfdoncgljohndaaW.PrintWords Go.Proofs.YtfdoncgljohndaaW.PrintLast Go.Proofs.YtfdoncgljohndaaW.PrintMore
attribute [local go_sem] max2_int min2_int max_two min_two max_three min_three max_four min_four   -- for this text's walks alone
def rat_abs.f (a0 : Int) : Option (Int) := if a0 < 0 then (some (IntKind.u64.wrap (-(IntKind.u64.wrap (a0))))) else (some (IntKind.u64.wrap (a0)))
set_option maxHeartbeats 40000000 in
set_option maxRecDepth 100000 in
theorem rat_abs.calls (a0 : Int) (r : Int) (w : World) (h : rat_abs.f a0 = some r) :
  Calls Try.prog 59 #[.int .i64 a0] w fun e w' => e = .returned (.int .u64 r) ∧ Drawn0 w w' := by
 have H : (if a0 < 0 then (some (IntKind.u64.wrap (-(IntKind.u64.wrap (a0))))) else (some (IntKind.u64.wrap (a0)))) = some r := h
 clear h
 by_cases c2 : a0 < 0
 ·rw [if_pos c2] at H
  have c2b0 : decide (a0 < 0) = true := decide_eq_true c2
  clear c2
  obtain rfl := Option.some.inj H
  go_enter Try.func59, Try.ntmps59
  go_wp2
  go_ret
  exact ⟨by first | rfl | (simp; done) | (simp [*]; done), by repeat (first | exact Drawn0.refl _ | apply Drawn0.step)⟩
 rw [if_neg c2] at H
 have c2b0 : decide (a0 < 0) = false := decide_eq_false c2
 clear c2
 obtain rfl := Option.some.inj H
 go_enter Try.func59, Try.ntmps59
 go_wp2
 go_ret
 exact ⟨by first | rfl | (simp; done) | (simp [*]; done), by repeat (first | exact Drawn0.refl _ | apply Drawn0.step)⟩
end Go.Proofs.Ytfdoncgljohndaa.P
namespace Go.Proofs.Ytfdoncgljohndaa.P
open Go.Proofs.YtfdoncgljohndaaH Go.RowKit Go.Proofs.YtfdoncgljohndaaW.PrintWords Go.Proofs.YtfdoncgljohndaaW.PrintLast Go.Proofs.YtfdoncgljohndaaW.PrintMore
attribute [local go_sem] max2_int min2_int max_two min_two max_three min_three max_four min_four   -- for this text's walks alone
mutual
def rat_gcd.l0 : Nat → Int → List Int → Int → Int → Option (Int)
 | 0, _, _, _, _ => none
 | k + 1, x3, x10, x11, x12 => if x12 < x11 then (if 0 ≤ x12 then (if x12 < (x10.length : Int) then (rat_gcd.l1 k x3 (rd x10 x12) x10 x11 x12) else (none)) else (none)) else (some x3)
def rat_gcd.l1 : Nat → Int → Int → List Int → Int → Int → Option (Int)
 | 0, _, _, _, _, _ => none
 | k + 1, x3, x5, x10, x11, x12 => if x5 > 0 then (if x5 = 0 then (none) else (rat_gcd.l1 k x5 (Int.tmod x3 x5) x10 x11 x12)) else (rat_gcd.l0 k x3 x10 x11 (wrap64 (x12 + 1)))
end
def rat_gcd.f (k : Nat) (l0 : List Int) : Option (Int) := if 0 < (l0.length : Int) then (if 1 ≤ (l0.length : Int) then (rat_gcd.l0 k (rd l0 0) (l0.drop 1) ((l0.drop 1).length : Int) 0) else (none)) else (none)
set_option maxHeartbeats 40000000 in
set_option maxRecDepth 100000 in
theorem rat_gcd.calls (k : Nat) (A0 : Option Addr) (c0 : Nat) (l0 : List Int) (r : Int) (w : World) (hr0 : Kd.C (Kd.int .u64) w A0 l0.length l0) (hc0 : l0.length ≤ c0) (h : rat_gcd.f k l0 = some r) :
  Calls Try.prog 63 #[.slice A0 l0.length c0] w fun e w' => e = .returned (.int .u64 r) ∧ Drawn0 w w' := by
 have HR0 := aM hr0; have HC0 := aM hc0; clear hr0 hc0
 have H : (if 0 < (l0.length : Int) then (if 1 ≤ (l0.length : Int) then (rat_gcd.l0 k (rd l0 0) (l0.drop 1) ((l0.drop 1).length : Int) 0) else (none)) else (none)) = some r := h
 clear h
 by_cases c2 : 0 < (l0.length : Int)
 rotate_left
 ·rw [if_neg c2] at H
  exact absurd H (by simp)
 rw [if_pos c2] at H
 have c2b0 : decide (0 < (l0.length : Int)) = true := decide_eq_true c2
 have c2b1 : decide (0 < l0.length) = true := decide_eq_true (by omega)
 clear c2
 by_cases c3 : 1 ≤ (l0.length : Int)
 rotate_left
 ·rw [if_neg c3] at H
  exact absurd H (by simp)
 rw [if_pos c3] at H
 have c3b0 := eq_true c3
 have c3b1 : decide (1 ≤ (l0.length : Int)) = true := decide_eq_true c3
 clear c3; have H' := aM H; clear H
 have p101 : 0 ≤ (0 : Int) := (by omega)
 have q101 : 0 < (l0.length : Int) := of_decide_eq_true (by first | (with_reducible assumption) | assumption)
 obtain ⟨ad101, e101, hx101_0⟩ := Kd.at_int HR0.out 0 p101 q101
 cases e101
 have qi101 : (0 < l0.length) = True := eq_true (by omega)
 (try rw [show ((0 : Int)).toNat = 0 from rfl] at hx101_0)
 (try rw [Addr.add_zero'] at hx101_0)
 replace p101 := eq_true p101; replace q101 := eq_true q101
 (try (have qd101 := q101; simp only [List.length_drop] at qd101))
 obtain ⟨i04, hi04, _, hsz4, _⟩ := info_parts info26
 obtain ⟨A4, hcut4, hA4, hC4⟩ := print_drop_of (P := Try.prog) (Value.int .u64) 0 30 26 .i64 Try.underlying30 hi04 hsz4 (some ad101) c0 l0 1 (by omega) (of_decide_eq_true (by first | (with_reducible assumption) | assumption)) HC0.out
 have HR102 := aM (Kd.C_of_reads (h1 := fun _ => rfl) (hA4 _ (Kd.reads_of_C HR0.out))); have HC102 := aM hC4; clear hA4 hC4 hi04 hsz4
 go_enter Try.func63, Try.ntmps63
 go_wp2
 repeat (go_quiet (fail); try go_wp2)
 go_loopg [3, 12] k (fun kq v3 v12 w' => ∃ (x3_1 : Int) (x12_1 : Int), v3 = .int .u64 x3_1 ∧ v12 = .int .i64 x12_1 ∧ Aside0 (rat_gcd.l0 kq x3_1 (l0.drop 1) ((l0.drop 1).length : Int) x12_1 = some r) ∧ Aside0 (kq ≤ k) ∧ Drawn0 w w')
 case atStart => exact ⟨(rd l0 0), (0), (by first | rfl | (simp; done) | (simp [*]; done)), (by first | rfl | (simp; done) | (simp [*]; done)), H', ⟨Nat.le_refl _⟩, by repeat (first | exact Drawn0.refl _ | apply Drawn0.step)⟩
 case round =>
  clear H'
  try clear p1
  try clear q1
  try clear hx1
  try clear qi1
  try clear c2
  try clear c2b0
  try clear c2b1
  try clear p2
  try clear c3
  try clear c3b0
  try clear c3b1
  try clear hx101_0
  try clear p101
  try clear q101
  obtain ⟨x3_1, x12_1, rfl, rfl, HA, HK1, ⟨m1, rfl⟩⟩ := hrel
  cases gk with
  | zero => exact absurd HA.out (by simp [rat_gcd.l0])
  | succ k1 =>
   have H := HA.out; clear HA
   simp only [rat_gcd.l0] at H
   by_cases c5 : x12_1 < ((l0.drop 1).length : Int)
   ·rw [if_pos c5] at H
    have c5b0 : decide (x12_1 < ((l0.drop 1).length : Int)) = true := decide_eq_true c5
    (try (have c5b1 : decide (x12_1 < ((l0.length - 1 : Nat) : Int)) = true := by have h_ : decide (x12_1 < ((l0.drop 1).length : Int)) = true := decide_eq_true c5; simp only [List.length_drop] at h_; exact h_))
    clear c5
    by_cases c6 : 0 ≤ x12_1
    ·rw [if_pos c6] at H
     have c6b0 : decide (0 ≤ x12_1) = true := decide_eq_true c6
     clear c6
     by_cases c7 : x12_1 < ((l0.drop 1).length : Int)
     ·rw [if_pos c7] at H
      have c7b0 : decide (x12_1 < ((l0.drop 1).length : Int)) = true := decide_eq_true c7
      (try (have c7b1 : decide (x12_1 < ((l0.length - 1 : Nat) : Int)) = true := by have h_ : decide (x12_1 < ((l0.drop 1).length : Int)) = true := decide_eq_true c7; simp only [List.length_drop] at h_; exact h_))
      clear c7; have H' := aM H; clear H
      have p103 : 0 ≤ (x12_1 : Int) := of_decide_eq_true (by first | (with_reducible assumption) | assumption)
      have q103 : x12_1 < ((l0.drop 1).length : Int) := of_decide_eq_true (by first | (with_reducible assumption) | assumption)
      obtain ⟨ad103, e103, hx103_0⟩ := Kd.at_int HR102.out x12_1 p103 q103
      cases e103
      replace p103 := eq_true p103; replace q103 := eq_true q103
      (try (have qd103 := q103; simp only [List.length_drop] at qd103))
      go_wp2
      repeat (go_quiet (fail); try go_wp2)
      go_loopg [3, 5] k1 (fun kq v3 v5 w' => ∃ (x3_2 : Int) (x5_2 : Int), v3 = .int .u64 x3_2 ∧ v5 = .int .u64 x5_2 ∧ Aside0 (rat_gcd.l1 kq x3_2 x5_2 (l0.drop 1) ((l0.drop 1).length : Int) x12_1 = some r) ∧ Aside0 (kq ≤ k1) ∧ Drawn0 w w')
      case atStart => exact ⟨(x3_1), (rd (l0.drop 1) x12_1), (by first | rfl | (simp; done) | (simp [*]; done)), (by first | rfl | (simp; done) | (simp [*]; done)), H', ⟨Nat.le_refl _⟩, by repeat (first | exact Drawn0.refl _ | apply Drawn0.step)⟩
      case round =>
       clear H'
       try clear p1
       try clear q1
       try clear hx1
       try clear qi1
       try clear c2
       try clear c2b0
       try clear c2b1
       try clear p2
       try clear c3
       try clear c3b0
       try clear c3b1
       try clear c5
       try clear c5b0
       try clear c5b1
       try clear c6
       try clear c6b0
       try clear c7
       try clear c7b0
       try clear c7b1
       try clear hx101_0
       try clear hx103_0
       try clear p1
       try clear p101
       try clear p103
       try clear p2
       try clear q1
       try clear q101
       try clear q103
       obtain ⟨x3_2, x5_2, rfl, rfl, HA, HK2, ⟨m2, rfl⟩⟩ := hrel
       cases gk with
       | zero => exact absurd HA.out (by simp [rat_gcd.l1])
       | succ k2 =>
        have H := HA.out; clear HA
        simp only [rat_gcd.l1] at H
        by_cases c8 : x5_2 > 0
        ·rw [if_pos c8] at H
         have c8b0 : decide (0 < x5_2) = true := decide_eq_true c8
         clear c8
         by_cases c9 : x5_2 = 0
         ·rw [if_pos c9] at H
          exact absurd H (by simp)
         ·rw [if_neg c9] at H
          have c9b0 : (x5_2 == 0) = false := beq_eq_false_iff_ne.mpr c9
          have c9b1 : (x5_2 != 0) = true := bne_iff_ne.mpr c9
          have H' := aM H; clear H
          go_wp2
          repeat (go_quiet (fail); try go_wp2)
          go_roundg k2
          case measure => have := HK1.out; have := HK2.out; omega
          case rel => exact ⟨(x5_2), (Int.tmod x3_2 x5_2), (by first | rfl | (simp; done) | (simp [*]; done)), (by first | rfl | (simp; done) | (simp [*]; done)), H', ⟨by have := HK1.out; have := HK2.out; omega⟩, by repeat (first | exact Drawn0.refl _ | apply Drawn0.step)⟩
        ·rw [if_neg c8] at H
         have c8b0 : decide (0 < x5_2) = false := decide_eq_false c8
         clear c8; have H' := aM H; clear H
         go_wp2
         repeat (go_quiet (fail); try go_wp2)
         go_roundg k2
         case measure => have := HK1.out; have := HK2.out; omega
         case rel => exact ⟨(x3_2), (wrap64 (x12_1 + 1)), (by first | rfl | (simp; done) | (simp [*]; done)), (by first | rfl | (simp; done) | (simp [*]; done)), H', ⟨by have := HK1.out; have := HK2.out; omega⟩, by repeat (first | exact Drawn0.refl _ | apply Drawn0.step)⟩
     ·rw [if_neg c7] at H
      exact absurd H (by simp)
    ·rw [if_neg c6] at H
     exact absurd H (by simp)
   ·rw [if_neg c5] at H
    have c5b0 : decide (x12_1 < ((l0.drop 1).length : Int)) = false := decide_eq_false c5
    (try (have c5b1 : decide (x12_1 < ((l0.length - 1 : Nat) : Int)) = false := by have h_ : decide (x12_1 < ((l0.drop 1).length : Int)) = false := decide_eq_false c5; simp only [List.length_drop] at h_; exact h_))
    clear c5
    obtain rfl := Option.some.inj H
    go_wp2
    repeat (go_quiet (fail); try go_wp2)
    go_ret
    exact ⟨by first | rfl | (simp; done) | (simp [*]; done), by repeat (first | exact Drawn0.refl _ | apply Drawn0.step)⟩
end Go.Proofs.Ytfdoncgljohndaa.P
namespace Go.Proofs.Ytfdoncgljohndaa.P
open Go.Proofs.YtfdoncgljohndaaH Go.RowKit Go.Proofs.YtfdoncgljohndaaW.PrintWords Go.Proofs.YtfdoncgljohndaaW.PrintLast Go.Proofs.YtfdoncgljohndaaW.PrintMore
attribute [local go_sem] max2_int min2_int max_two min_two max_three min_three max_four min_four   -- for this text's walks alone
attribute [local go_sem] Go.Proofs.YtfdoncgljohndaaH.cell_set_map
def rat_zero.f  : Option (Int × Int × Int) := some (0, 1, 0)
set_option maxHeartbeats 40000000 in
set_option maxRecDepth 100000 in
theorem rat_zero.calls  (r1 : Int) (r2 : Int) (r3 : Int) (w : World) (h : rat_zero.f  = some (r1, r2, r3)) :
  Calls Try.prog 65 #[] w fun e w' => e = .returned (.tuple #[.agg #[.int .i64 r1, .int .i64 r2], .int .i64 r3]) ∧ Below w.heap.size w w' := by
 have hu43 := Try.underlying43; have HB := aM (Below.refl w.heap.size w)
 have H : (some (0, 1, 0)) = some (r1, r2, r3) := h
 clear h
 simp only [Option.some.injEq, Prod.mk.injEq] at H
 obtain ⟨rfl, rfl, rfl⟩ := H
 go_enter Try.func65, Try.ntmps65
 go_wp2_with (first | ((with_reducible refine gate_dst (N := 0) rfl ?_); refine bE (N := 0) (cs := #[.int .i64 0, .int .i64 0]) (t := 43) ?_; intro gb101 hg w1 hbox hb; have BK101 := aM (hbox); have GW101 := gE hg HB; have GE101 := gE hg HB; replace HB := sB HB hb; clear hb hbox hg; obtain ⟨hcz2_0, hcz2_1, hfz2_0, hfz2_1⟩ := cZ2 BK101))
 refine bodyPost_ret (results_ct rfl _ _ gb101 43 #[.int .i64 0, .int .i64 1] (0, 0) _ rfl (by refine bM ?_; refine blk_put (cs := #[.int .i64 0, .int .i64 0]) ?_ 1 _ rfl; refine bM ?_; refine blk_put (cs := #[.int .i64 0, .int .i64 0]) ?_ 0 _ rfl; exact bD BK101) Try.underlying43 rfl (by kernel_rfl)) rfl ?_
 exact ⟨by first | rfl | (simp [errW_none, errW_some] <;> rfl) | (simp [*, errW_none, errW_some] <;> rfl), sD HB⟩
end Go.Proofs.Ytfdoncgljohndaa.P
namespace Go.Proofs.Ytfdoncgljohndaa.P
open Go.Proofs.YtfdoncgljohndaaH Go.RowKit Go.Proofs.YtfdoncgljohndaaW.PrintWords Go.Proofs.YtfdoncgljohndaaW.PrintLast Go.Proofs.YtfdoncgljohndaaW.PrintMore
attribute [local go_sem] max2_int min2_int max_two min_two max_three min_three max_four min_four   -- for this text's walks alone
def rat_wide_number.j0 : Nat → Bool → Bool → Int → Int → Option (Int × Bool)
 | 0, _, _, _, _ => none
 | k + 1, x11, x102000, x102001, x102002 => if x11 = true then (some (0, false)) else (if x102000 = true then (some (wrap64 (-(wrap64 (x102002))), true)) else (some (wrap64 (x102002), true)))
def rat_wide_number.f (k : Nat) (a0_0 : Bool) (a0_1 : Int) (a0_2 : Int) : Option (Int × Bool) := if a0_1 > 0 then (rat_wide_number.j0 k true a0_0 a0_1 a0_2) else (rat_wide_number.j0 k (decide (a0_2 > 4611686018427387904)) a0_0 a0_1 a0_2)
set_option maxHeartbeats 40000000 in
set_option maxRecDepth 100000 in
theorem rat_wide_number.calls (k : Nat) (a0_0 : Bool) (a0_1 : Int) (a0_2 : Int) (r1 : Int) (r2 : Bool) (w : World) (h : rat_wide_number.f k a0_0 a0_1 a0_2 = some (r1, r2)) :
  Calls Try.prog 77 #[.agg #[.bool a0_0, .int .u64 a0_1, .int .u64 a0_2]] w fun e w' => e = .returned (.tuple #[.int .i64 r1, .bool r2]) ∧ Below w.heap.size w w' := by
 have hu100 := Try.underlying100; have HB := aM (Below.refl w.heap.size w)
 have H : (if a0_1 > 0 then (rat_wide_number.j0 k true a0_0 a0_1 a0_2) else (rat_wide_number.j0 k (decide (a0_2 > 4611686018427387904)) a0_0 a0_1 a0_2)) = some (r1, r2) := h
 clear h; have HC2 := aM H; clear H
 go_enter Try.func77, Try.ntmps77
 go_upto_region 1 with (first | ((with_reducible refine gate_dst (N := 1) rfl ?_); refine bE (N := 1) (cs := #[.bool a0_0, .int .u64 a0_1, .int .u64 a0_2]) (t := 100) ?_; intro gb101 hg w3 hbox hb; have BK101 := aM (hbox); have GW101 := gE hg HB; have GE101 := gE hg HB; replace HB := sB HB hb; clear hb hbox hg))
 (try simp only [Act.put, List.setIfInBounds_toArray, List.set_cons_zero, List.set_cons_succ])
 go_cut [11] (fun v11 wc => ∃ (kq : Nat) (x11_1 : Bool), v11 = .bool x11_1 ∧ Aside0 (rat_wide_number.j0 kq x11_1 a0_0 a0_1 a0_2 = some (r1, r2)) ∧ Aside0 (kq ≤ k) ∧ Aside0 (wc.heap[gb101]? = some (.cells #[.bool a0_0, .int .u64 a0_1, .int .u64 a0_2] 100 (0, 0))) ∧ Aside0 (Below w.heap.size w wc))
 case first =>
  have H := HC2.out; clear HC2
  by_cases c4 : a0_1 > 0
  ·rw [if_pos c4] at H
   have c4b0 : decide (0 < a0_1) = true := decide_eq_true c4
   clear c4
   (first | rw [c4b0] | (simp only [i64_w, i32_w]; rw [c4b0]) | skip)
   have H' := aM H; clear H; obtain ⟨hcz5_0, hcz5_1, hcz5_2, hfz5_0, hfz5_1, hfz5_2⟩ := cZ3 BK101
   go_wp2
   go_meet
   case rel => exact ⟨_, (true), (by first | rfl | (simp; done) | (simp [*]; done)), H', ⟨by first | omega | exact Nat.le_refl _⟩, ⟨by exact bD BK101⟩, ⟨sD HB⟩⟩
  ·rw [if_neg c4] at H
   have c4b0 : decide (0 < a0_1) = false := decide_eq_false c4
   clear c4
   (first | rw [c4b0] | (simp only [i64_w, i32_w]; rw [c4b0]) | skip)
   have H' := aM H; clear H; obtain ⟨hcz6_0, hcz6_1, hcz6_2, hfz6_0, hfz6_1, hfz6_2⟩ := cZ3 BK101
   go_wp2
   go_meet
   case rel => exact ⟨_, (decide (a0_2 > 4611686018427387904)), (by first | rfl | (simp; done) | (simp [*]; done)), H', ⟨by first | omega | exact Nat.le_refl _⟩, ⟨by exact bD BK101⟩, ⟨sD HB⟩⟩
 case rest =>
  clear HC2
  try clear p2
  try clear c4
  try clear c4b0
  try clear hcz5_0
  try clear hcz5_1
  try clear hcz5_2
  try clear hcz6_0
  try clear hcz6_1
  try clear hcz6_2
  try clear hfz5_0
  try clear hfz5_1
  try clear hfz5_2
  try clear hfz6_0
  try clear hfz6_1
  try clear hfz6_2
  obtain ⟨kq, x11_1, rfl, HA, HJ1, BK101, HB⟩ := hcut
  cases kq with
  | zero => exact absurd HA.out (by simp [rat_wide_number.j0])
  | succ kj1 =>
   have H := HA.out; clear HA
   simp only [rat_wide_number.j0] at H
   by_cases c7 : x11_1 = true
   ·subst c7
    have H1 : (some (0, false)) = some (r1, r2) := by rw [if_pos rfl] at H; exact H
    clear H; have H := H1; clear H1
    simp only [Option.some.injEq, Prod.mk.injEq] at H
    obtain ⟨rfl, rfl⟩ := H
    go_wp2
    go_ret2
    exact ⟨by first | rfl | (simp [errW_none, errW_some] <;> rfl) | (simp [*, errW_none, errW_some] <;> rfl), sD HB⟩
   ·replace c7 := Bool.eq_false_iff.mpr c7
    subst c7
    have H1 : (if a0_0 = true then (some (wrap64 (-(wrap64 (a0_2))), true)) else (some (wrap64 (a0_2), true))) = some (r1, r2) := by rw [if_neg (show ¬ (false = true) by decide)] at H; exact H
    clear H; have H := H1; clear H1
    by_cases c8 : a0_0 = true
    ·subst c8
     have H1 : (some (wrap64 (-(wrap64 (a0_2))), true)) = some (r1, r2) := by rw [if_pos rfl] at H; exact H
     clear H; have H := H1; clear H1
     simp only [Option.some.injEq, Prod.mk.injEq] at H
     obtain ⟨rfl, rfl⟩ := H
     obtain ⟨hcz9_0, hcz9_1, hcz9_2, hfz9_0, hfz9_1, hfz9_2⟩ := cZ3 BK101
     go_wp2
     go_ret2
     exact ⟨by first | rfl | (simp [errW_none, errW_some] <;> rfl) | (simp [*, errW_none, errW_some] <;> rfl), sD HB⟩
    ·replace c8 := Bool.eq_false_iff.mpr c8
     subst c8
     have H1 : (some (wrap64 (a0_2), true)) = some (r1, r2) := by rw [if_neg (show ¬ (false = true) by decide)] at H; exact H
     clear H; have H := H1; clear H1
     simp only [Option.some.injEq, Prod.mk.injEq] at H
     obtain ⟨rfl, rfl⟩ := H
     obtain ⟨hcz10_0, hcz10_1, hcz10_2, hfz10_0, hfz10_1, hfz10_2⟩ := cZ3 BK101
     go_wp2
     go_ret2
     exact ⟨by first | rfl | (simp [errW_none, errW_some] <;> rfl) | (simp [*, errW_none, errW_some] <;> rfl), sD HB⟩
end Go.Proofs.Ytfdoncgljohndaa.P
namespace Go.Proofs.Ytfdoncgljohndaa.P
open Go.Proofs.YtfdoncgljohndaaH Go.RowKit Go.Proofs.YtfdoncgljohndaaW.PrintWords Go.Proofs.YtfdoncgljohndaaW.PrintLast Go.Proofs.YtfdoncgljohndaaW.PrintMore
attribute [local go_sem] max2_int min2_int max_two min_two max_three min_three max_four min_four   -- for this text's walks alone
attribute [local go_sem] Go.Proofs.YtfdoncgljohndaaH.cell_set_map
def rat_made.f (k : Nat) (a0_0 : Bool) (a0_1 : Int) (a0_2 : Int) (a1_0 : Bool) (a1_1 : Int) (a1_2 : Int) : Option (Int × Int × Int) := (rat_wide_number.f k a0_0 a0_1 a0_2).bind fun bt104 => ((rat_wide_number.f k a1_0 a1_1 a1_2).bind fun bt106 => (if bt104.2 = true then (if bt106.2 = true then (some (bt104.1, bt106.1, 0)) else (some (0, 0, 2))) else (some (0, 0, 2))))
set_option maxHeartbeats 40000000 in
set_option maxRecDepth 100000 in
theorem rat_made.calls (k : Nat) (a0_0 : Bool) (a0_1 : Int) (a0_2 : Int) (a1_0 : Bool) (a1_1 : Int) (a1_2 : Int) (r1 : Int) (r2 : Int) (r3 : Int) (w : World) (h : rat_made.f k a0_0 a0_1 a0_2 a1_0 a1_1 a1_2 = some (r1, r2, r3)) :
  Calls Try.prog 67 #[.agg #[.bool a0_0, .int .u64 a0_1, .int .u64 a0_2], .agg #[.bool a1_0, .int .u64 a1_1, .int .u64 a1_2]] w fun e w' => e = .returned (.tuple #[.agg #[.int .i64 r1, .int .i64 r2], .int .i64 r3]) ∧ Below w.heap.size w w' := by
 have hu100 := Try.underlying100; have hu43 := Try.underlying43; have HB := aM (Below.refl w.heap.size w)
 have H : ((rat_wide_number.f k a0_0 a0_1 a0_2).bind fun bt104 => ((rat_wide_number.f k a1_0 a1_1 a1_2).bind fun bt106 => (if bt104.2 = true then (if bt106.2 = true then (some (bt104.1, bt106.1, 0)) else (some (0, 0, 2))) else (some (0, 0, 2))))) = some (r1, r2, r3) := h
 clear h; replace H := Option.bind_eq_some_iff.mp H
 obtain ⟨⟨t104, t105⟩, A30, H⟩ := H
 replace H : ((rat_wide_number.f k a1_0 a1_1 a1_2).bind fun bt106 => (if t105 = true then (if bt106.2 = true then (some (t104, bt106.1, 0)) else (some (0, 0, 2))) else (some (0, 0, 2)))) = some (r1, r2, r3) := H
 have A3 := aM A30; clear A30; replace H := Option.bind_eq_some_iff.mp H
 obtain ⟨⟨t106, t107⟩, A40, H⟩ := H
 replace H : (if t105 = true then (if t107 = true then (some (t104, t106, 0)) else (some (0, 0, 2))) else (some (0, 0, 2))) = some (r1, r2, r3) := H
 have A4 := aM A40; clear A40
 by_cases c5 : t105 = true
 rotate_left
 ·replace c5 := Bool.eq_false_iff.mpr c5
  subst c5
  have H1 : (some (0, 0, 2)) = some (r1, r2, r3) := by rw [if_neg (show ¬ (false = true) by decide)] at H; exact H
  clear H; have H := H1; clear H1
  simp only [Option.some.injEq, Prod.mk.injEq] at H
  obtain ⟨rfl, rfl, rfl⟩ := H
  go_enter Try.func67, Try.ntmps67
  go_wp2_with (first | ((with_reducible refine gate_dst (N := 2) rfl ?_); refine bE (N := 2) (cs := #[.bool a0_0, .int .u64 a0_1, .int .u64 a0_2]) (t := 100) ?_; intro gb101 hg w29 hbox hb; have BK101 := aM (hbox); have GW101 := gE hg HB; have GE101 := gE hg HB; replace HB := sB HB hb; clear hb hbox hg) | ((with_reducible refine gate_dst (N := 3) rfl ?_); refine bE (N := 3) (cs := #[.bool a1_0, .int .u64 a1_1, .int .u64 a1_2]) (t := 100) ?_; intro gb102 hg w30 hbox hb; have BK102 := aM (hbox); have GW102 := gE hg HB; have GE102 := gE hg HB; have NB101_102 := nL hg BK101; replace BK101 := bB BK101 hb; replace HB := sB HB hb; clear hb hbox hg) | ((with_reducible refine gate_dst (N := 4) rfl ?_); refine bE (N := 4) (cs := #[.int .i64 0, .int .i64 0]) (t := 43) ?_; intro gb103 hg w31 hbox hb; have BK103 := aM (hbox); have GW103 := gE hg HB; have GE103 := gE hg HB; have NB101_103 := nL hg BK101; have NB102_103 := nL hg BK102; replace BK101 := bB BK101 hb; replace BK102 := bB BK102 hb; replace HB := sB HB hb; clear hb hbox hg; have hnb32 := NB101_102.out; have hnc32 := NB101_102.out.symm; have hnb33 := NB101_103.out; have hnc33 := NB101_103.out.symm; obtain ⟨hcz34_0, hcz34_1, hcz34_2, hfz34_0, hfz34_1, hfz34_2⟩ := cZ3 BK101) | ((with_reducible refine gate_callee (f := 77) rfl ?_); refine gL (some 12) Try.func77 #[.agg #[.bool a0_0, .int .u64 a0_1, .int .u64 a0_2]] ?_; (with_reducible refine (rat_wide_number.calls k a0_0 a0_1 a0_2 t104 false _ A3.out).mono ?_); rintro e w35 ⟨rfl, hb⟩; refine ⟨_, rfl, ?_⟩; replace BK101 := bB BK101 hb; replace BK102 := bB BK102 hb; replace BK103 := bB BK103 hb; replace HB := sB HB hb; (try clear hb); have hnb36 := NB102_103.out; have hnc36 := NB102_103.out.symm; obtain ⟨hcz37_0, hcz37_1, hcz37_2, hfz37_0, hfz37_1, hfz37_2⟩ := cZ3 BK102) | ((with_reducible refine gate_callee (f := 77) rfl ?_); refine gL (some 17) Try.func77 #[.agg #[.bool a1_0, .int .u64 a1_1, .int .u64 a1_2]] ?_; (with_reducible refine (rat_wide_number.calls k a1_0 a1_1 a1_2 t106 t107 _ A4.out).mono ?_); rintro e w38 ⟨rfl, hb⟩; refine ⟨_, rfl, ?_⟩; replace BK101 := bB BK101 hb; replace BK102 := bB BK102 hb; replace BK103 := bB BK103 hb; replace HB := sB HB hb; (try clear hb); obtain ⟨hcz39_0, hcz39_1, hfz39_0, hfz39_1⟩ := cZ2 BK103))
  refine bodyPost_ret (results_ct rfl _ _ gb103 43 #[.int .i64 0, .int .i64 0] (0, 0) _ rfl (by refine bM ?_; refine blk_put (cs := #[.int .i64 0, .int .i64 0]) ?_ 1 _ rfl; refine bM ?_; refine blk_put (cs := #[.int .i64 0, .int .i64 0]) ?_ 0 _ rfl; exact bD BK103) Try.underlying43 rfl (by kernel_rfl)) rfl ?_
  exact ⟨by first | rfl | (simp [errW_none, errW_some] <;> rfl) | (simp [*, errW_none, errW_some] <;> rfl), sD HB⟩
 subst c5
 have H1 : (if t107 = true then (some (t104, t106, 0)) else (some (0, 0, 2))) = some (r1, r2, r3) := by rw [if_pos rfl] at H; exact H
 clear H; have H := H1; clear H1
 by_cases c6 : t107 = true
 ·subst c6
  have H1 : (some (t104, t106, 0)) = some (r1, r2, r3) := by rw [if_pos rfl] at H; exact H
  clear H; have H := H1; clear H1
  simp only [Option.some.injEq, Prod.mk.injEq] at H
  obtain ⟨rfl, rfl, rfl⟩ := H
  go_enter Try.func67, Try.ntmps67
  go_wp2_with (first | ((with_reducible refine gate_dst (N := 2) rfl ?_); refine bE (N := 2) (cs := #[.bool a0_0, .int .u64 a0_1, .int .u64 a0_2]) (t := 100) ?_; intro gb101 hg w7 hbox hb; have BK101 := aM (hbox); have GW101 := gE hg HB; have GE101 := gE hg HB; replace HB := sB HB hb; clear hb hbox hg) | ((with_reducible refine gate_dst (N := 3) rfl ?_); refine bE (N := 3) (cs := #[.bool a1_0, .int .u64 a1_1, .int .u64 a1_2]) (t := 100) ?_; intro gb102 hg w8 hbox hb; have BK102 := aM (hbox); have GW102 := gE hg HB; have GE102 := gE hg HB; have NB101_102 := nL hg BK101; replace BK101 := bB BK101 hb; replace HB := sB HB hb; clear hb hbox hg) | ((with_reducible refine gate_dst (N := 4) rfl ?_); refine bE (N := 4) (cs := #[.int .i64 0, .int .i64 0]) (t := 43) ?_; intro gb103 hg w9 hbox hb; have BK103 := aM (hbox); have GW103 := gE hg HB; have GE103 := gE hg HB; have NB101_103 := nL hg BK101; have NB102_103 := nL hg BK102; replace BK101 := bB BK101 hb; replace BK102 := bB BK102 hb; replace HB := sB HB hb; clear hb hbox hg; have hnb10 := NB101_102.out; have hnc10 := NB101_102.out.symm; have hnb11 := NB101_103.out; have hnc11 := NB101_103.out.symm; obtain ⟨hcz12_0, hcz12_1, hcz12_2, hfz12_0, hfz12_1, hfz12_2⟩ := cZ3 BK101) | ((with_reducible refine gate_callee (f := 77) rfl ?_); refine gL (some 12) Try.func77 #[.agg #[.bool a0_0, .int .u64 a0_1, .int .u64 a0_2]] ?_; (with_reducible refine (rat_wide_number.calls k a0_0 a0_1 a0_2 t104 true _ A3.out).mono ?_); rintro e w13 ⟨rfl, hb⟩; refine ⟨_, rfl, ?_⟩; replace BK101 := bB BK101 hb; replace BK102 := bB BK102 hb; replace BK103 := bB BK103 hb; replace HB := sB HB hb; (try clear hb); have hnb14 := NB102_103.out; have hnc14 := NB102_103.out.symm; obtain ⟨hcz15_0, hcz15_1, hcz15_2, hfz15_0, hfz15_1, hfz15_2⟩ := cZ3 BK102) | ((with_reducible refine gate_callee (f := 77) rfl ?_); refine gL (some 17) Try.func77 #[.agg #[.bool a1_0, .int .u64 a1_1, .int .u64 a1_2]] ?_; (with_reducible refine (rat_wide_number.calls k a1_0 a1_1 a1_2 t106 true _ A4.out).mono ?_); rintro e w16 ⟨rfl, hb⟩; refine ⟨_, rfl, ?_⟩; replace BK101 := bB BK101 hb; replace BK102 := bB BK102 hb; replace BK103 := bB BK103 hb; replace HB := sB HB hb; (try clear hb); obtain ⟨hcz17_0, hcz17_1, hfz17_0, hfz17_1⟩ := cZ2 BK103))
  refine bodyPost_ret (results_ct rfl _ _ gb103 43 #[.int .i64 t104, .int .i64 t106] (0, 0) _ rfl (by refine bM ?_; refine blk_put (cs := #[.int .i64 t104, .int .i64 0]) ?_ 1 _ rfl; refine bM ?_; refine blk_put (cs := #[.int .i64 0, .int .i64 0]) ?_ 0 _ rfl; exact bD BK103) Try.underlying43 rfl (by kernel_rfl)) rfl ?_
  exact ⟨by first | rfl | (simp [errW_none, errW_some] <;> rfl) | (simp [*, errW_none, errW_some] <;> rfl), sD HB⟩
 replace c6 := Bool.eq_false_iff.mpr c6
 subst c6
 have H1 : (some (0, 0, 2)) = some (r1, r2, r3) := by rw [if_neg (show ¬ (false = true) by decide)] at H; exact H
 clear H; have H := H1; clear H1
 simp only [Option.some.injEq, Prod.mk.injEq] at H
 obtain ⟨rfl, rfl, rfl⟩ := H
 go_enter Try.func67, Try.ntmps67
 go_wp2_with (first | ((with_reducible refine gate_dst (N := 2) rfl ?_); refine bE (N := 2) (cs := #[.bool a0_0, .int .u64 a0_1, .int .u64 a0_2]) (t := 100) ?_; intro gb101 hg w18 hbox hb; have BK101 := aM (hbox); have GW101 := gE hg HB; have GE101 := gE hg HB; replace HB := sB HB hb; clear hb hbox hg) | ((with_reducible refine gate_dst (N := 3) rfl ?_); refine bE (N := 3) (cs := #[.bool a1_0, .int .u64 a1_1, .int .u64 a1_2]) (t := 100) ?_; intro gb102 hg w19 hbox hb; have BK102 := aM (hbox); have GW102 := gE hg HB; have GE102 := gE hg HB; have NB101_102 := nL hg BK101; replace BK101 := bB BK101 hb; replace HB := sB HB hb; clear hb hbox hg) | ((with_reducible refine gate_dst (N := 4) rfl ?_); refine bE (N := 4) (cs := #[.int .i64 0, .int .i64 0]) (t := 43) ?_; intro gb103 hg w20 hbox hb; have BK103 := aM (hbox); have GW103 := gE hg HB; have GE103 := gE hg HB; have NB101_103 := nL hg BK101; have NB102_103 := nL hg BK102; replace BK101 := bB BK101 hb; replace BK102 := bB BK102 hb; replace HB := sB HB hb; clear hb hbox hg; have hnb21 := NB101_102.out; have hnc21 := NB101_102.out.symm; have hnb22 := NB101_103.out; have hnc22 := NB101_103.out.symm; obtain ⟨hcz23_0, hcz23_1, hcz23_2, hfz23_0, hfz23_1, hfz23_2⟩ := cZ3 BK101) | ((with_reducible refine gate_callee (f := 77) rfl ?_); refine gL (some 12) Try.func77 #[.agg #[.bool a0_0, .int .u64 a0_1, .int .u64 a0_2]] ?_; (with_reducible refine (rat_wide_number.calls k a0_0 a0_1 a0_2 t104 true _ A3.out).mono ?_); rintro e w24 ⟨rfl, hb⟩; refine ⟨_, rfl, ?_⟩; replace BK101 := bB BK101 hb; replace BK102 := bB BK102 hb; replace BK103 := bB BK103 hb; replace HB := sB HB hb; (try clear hb); have hnb25 := NB102_103.out; have hnc25 := NB102_103.out.symm; obtain ⟨hcz26_0, hcz26_1, hcz26_2, hfz26_0, hfz26_1, hfz26_2⟩ := cZ3 BK102) | ((with_reducible refine gate_callee (f := 77) rfl ?_); refine gL (some 17) Try.func77 #[.agg #[.bool a1_0, .int .u64 a1_1, .int .u64 a1_2]] ?_; (with_reducible refine (rat_wide_number.calls k a1_0 a1_1 a1_2 t106 false _ A4.out).mono ?_); rintro e w27 ⟨rfl, hb⟩; refine ⟨_, rfl, ?_⟩; replace BK101 := bB BK101 hb; replace BK102 := bB BK102 hb; replace BK103 := bB BK103 hb; replace HB := sB HB hb; (try clear hb); obtain ⟨hcz28_0, hcz28_1, hfz28_0, hfz28_1⟩ := cZ2 BK103))
 refine bodyPost_ret (results_ct rfl _ _ gb103 43 #[.int .i64 0, .int .i64 0] (0, 0) _ rfl (by refine bM ?_; refine blk_put (cs := #[.int .i64 0, .int .i64 0]) ?_ 1 _ rfl; refine bM ?_; refine blk_put (cs := #[.int .i64 0, .int .i64 0]) ?_ 0 _ rfl; exact bD BK103) Try.underlying43 rfl (by kernel_rfl)) rfl ?_
 exact ⟨by first | rfl | (simp [errW_none, errW_some] <;> rfl) | (simp [*, errW_none, errW_some] <;> rfl), sD HB⟩
end Go.Proofs.Ytfdoncgljohndaa.P
namespace Go.Proofs.Ytfdoncgljohndaa.P
open Go.Proofs.YtfdoncgljohndaaH Go.RowKit Go.Proofs.YtfdoncgljohndaaW.PrintWords Go.Proofs.YtfdoncgljohndaaW.PrintLast Go.Proofs.YtfdoncgljohndaaW.PrintMore
attribute [local go_sem] max2_int min2_int max_two min_two max_three min_three max_four min_four   -- for this text's walks alone
attribute [local go_sem] Go.Proofs.YtfdoncgljohndaaH.cell_set_map
def rat_New.f (k : Nat) (a0 : Int) (a1 : Int) : Option (Int × Int × Int) := if a1 = 0 then (some (0, 0, 20)) else (if a0 = 0 then ((rat_zero.f).bind fun bt102 => (some (bt102.1, bt102.2.1, bt102.2.2))) else ((rat_abs.f a0).bind fun t105 => ((rat_abs.f a1).bind fun t106 => ((rat_gcd.f k (([t105, t106] : List Int))).bind fun t110 => ((rat_abs.f a0).bind fun t111 => (if t110 = 0 then (none) else ((rat_abs.f a1).bind fun t112 => ((rat_made.f k ((decide (a0 < 0)) != (decide (a1 < 0))) 0 (IntKind.u64.wrap (Int.tdiv t111 t110)) false 0 (IntKind.u64.wrap (Int.tdiv t112 t110))).bind fun bt113 => (some (bt113.1, bt113.2.1, bt113.2.2))))))))))
def rat_New.T6 : Bool × List (List Nat × List Nat) := (true, [([], []), ([0], [0]), ([], []), ([2], [2]), ([1, 3], [1, 3]), ([], []), ([5], [5]), ([], []), ([6, 7], [6, 7]), ([4, 8], [4, 8]), ([], []), ([10, 6], [10]), ([], []), ([11, 12], [11, 12]), ([13], [13]), ([9, 14, 11], [9, 14]), ([15], [15]), ([15], [15]), ([16, 15, 0, 1, 2, 3, 4, 5, 6, 7, 8, 9, 10, 11, 12, 13, 14, 15, 16, 17], [16]), ([17, 18, 0, 1, 2, 3, 4, 5, 6, 7, 8, 9, 10, 11, 12, 13, 14, 15, 16, 17, 18], [17])])
def rat_New.B6 : List Nat := [0, 1, 0, 4, 15, 0, 32, 0, 224, 511, 0, 1120, 0, 7264, 15456, 32767, 65535, 65535, 262143, 524287]
theorem rat_New.tab6 : rtab .any (opsOf Try.f53 6) = rat_New.T6 := by kernel_rfl
theorem rat_New.bits6 : waitsOk rat_New.T6.2 rat_New.B6 = true := by kernel_rfl
set_option maxHeartbeats 40000000 in
set_option maxRecDepth 100000 in
theorem rat_New.calls (k : Nat) (a0 : Int) (a1 : Int) (r1 : Int) (r2 : Int) (r3 : Int) (w : World) (h : rat_New.f k a0 a1 = some (r1, r2, r3)) :
  Calls Try.prog 53 #[.int .i64 a0, .int .i64 a1] w fun e w' => e = .returned (.tuple #[.agg #[.int .i64 r1, .int .i64 r2], .int .i64 r3]) ∧ Below w.heap.size w w' := by
 have hu43 := Try.underlying43; have hu100 := Try.underlying100; have HB := aM (Below.refl w.heap.size w)
 have H : (if a1 = 0 then (some (0, 0, 20)) else (if a0 = 0 then ((rat_zero.f).bind fun bt102 => (some (bt102.1, bt102.2.1, bt102.2.2))) else ((rat_abs.f a0).bind fun t105 => ((rat_abs.f a1).bind fun t106 => ((rat_gcd.f k (([t105, t106] : List Int))).bind fun t110 => ((rat_abs.f a0).bind fun t111 => (if t110 = 0 then (none) else ((rat_abs.f a1).bind fun t112 => ((rat_made.f k ((decide (a0 < 0)) != (decide (a1 < 0))) 0 (IntKind.u64.wrap (Int.tdiv t111 t110)) false 0 (IntKind.u64.wrap (Int.tdiv t112 t110))).bind fun bt113 => (some (bt113.1, bt113.2.1, bt113.2.2))))))))))) = some (r1, r2, r3) := h
 clear h
 by_cases c3 : a1 = 0
 ·rw [if_pos c3] at H
  have c3b0 : (a1 == 0) = true := beq_iff_eq.mpr c3
  have c3b1 : (a1 != 0) = false := bne_eq_false_iff_eq.mpr c3
  clear c3
  simp only [Option.some.injEq, Prod.mk.injEq] at H
  obtain ⟨rfl, rfl, rfl⟩ := H
  go_enter Try.func53, Try.ntmps53
  go_wp2_with (first | ((with_reducible refine gate_dst (N := 4) rfl ?_); refine bE (N := 4) (cs := #[.int .i64 0, .int .i64 0]) (t := 43) ?_; intro gb101 hg w4 hbox hb; have BK101 := aM (hbox); have GW101 := gE hg HB; have GE101 := gE hg HB; replace HB := sB HB hb; clear hb hbox hg; obtain ⟨hcz5_0, hcz5_1, hfz5_0, hfz5_1⟩ := cZ2 BK101))
  refine bodyPost_ret (results_ct rfl _ _ gb101 43 #[.int .i64 0, .int .i64 0] (0, 0) _ rfl (by refine bM ?_; refine blk_put (cs := #[.int .i64 0, .int .i64 0]) ?_ 1 _ rfl; refine bM ?_; refine blk_put (cs := #[.int .i64 0, .int .i64 0]) ?_ 0 _ rfl; exact bD BK101) Try.underlying43 rfl (by kernel_rfl)) rfl ?_
  exact ⟨by first | rfl | (simp [errW_none, errW_some] <;> rfl) | (simp [*, errW_none, errW_some] <;> rfl), sD HB⟩
 rw [if_neg c3] at H
 have c3b0 : (a1 == 0) = false := beq_eq_false_iff_ne.mpr c3
 have c3b1 : (a1 != 0) = true := bne_iff_ne.mpr c3
 by_cases c6 : a0 = 0
 ·rw [if_pos c6] at H
  have c6b0 : (a0 == 0) = true := beq_iff_eq.mpr c6
  have c6b1 : (a0 != 0) = false := bne_eq_false_iff_eq.mpr c6
  clear c6; replace H := Option.bind_eq_some_iff.mp H
  obtain ⟨⟨t102, t103, t104⟩, A70, H⟩ := H
  replace H : (some (t102, t103, t104)) = some (r1, r2, r3) := H
  have A7 := aM A70; clear A70
  simp only [Option.some.injEq, Prod.mk.injEq] at H
  obtain ⟨rfl, rfl, rfl⟩ := H
  go_enter Try.func53, Try.ntmps53
  go_wp2_with (first | ((with_reducible refine gate_dst (N := 4) rfl ?_); refine bE (N := 4) (cs := #[.int .i64 0, .int .i64 0]) (t := 43) ?_; intro gb101 hg w8 hbox hb; have BK101 := aM (hbox); have GW101 := gE hg HB; have GE101 := gE hg HB; replace HB := sB HB hb; clear hb hbox hg) | ((with_reducible refine gate_callee (f := 65) rfl ?_); refine gL (some 12) Try.func65 #[] ?_; (with_reducible refine (rat_zero.calls  t102 t103 t104 _ A7.out).mono ?_); rintro e w9 ⟨rfl, hb⟩; refine ⟨_, rfl, ?_⟩; replace BK101 := bB BK101 hb; replace HB := sB HB hb; (try clear hb); obtain ⟨hcz10_0, hcz10_1, hfz10_0, hfz10_1⟩ := cZ2 BK101))
  refine bodyPost_ret (results_ct rfl _ _ gb101 43 #[.int .i64 t102, .int .i64 t103] (0, 0) _ rfl (by refine bM ?_; refine blk_put (cs := #[.int .i64 t102, .int .i64 0]) ?_ 1 _ rfl; refine bM ?_; refine blk_put (cs := #[.int .i64 0, .int .i64 0]) ?_ 0 _ rfl; exact bD BK101) Try.underlying43 rfl (by kernel_rfl)) rfl ?_
  exact ⟨by first | rfl | (simp [errW_none, errW_some] <;> rfl) | (simp [*, errW_none, errW_some] <;> rfl), sD HB⟩
 rw [if_neg c6] at H
 have c6b0 : (a0 == 0) = false := beq_eq_false_iff_ne.mpr c6
 have c6b1 : (a0 != 0) = true := bne_iff_ne.mpr c6
 replace H := Option.bind_eq_some_iff.mp H
 obtain ⟨t105, A110, H⟩ := H
 replace H : ((rat_abs.f a1).bind fun t106 => ((rat_gcd.f k (([t105, t106] : List Int))).bind fun t110 => ((rat_abs.f a0).bind fun t111 => (if t110 = 0 then (none) else ((rat_abs.f a1).bind fun t112 => ((rat_made.f k ((decide (a0 < 0)) != (decide (a1 < 0))) 0 (IntKind.u64.wrap (Int.tdiv t111 t110)) false 0 (IntKind.u64.wrap (Int.tdiv t112 t110))).bind fun bt113 => (some (bt113.1, bt113.2.1, bt113.2.2)))))))) = some (r1, r2, r3) := H
 have A11 := aM A110; clear A110; replace H := Option.bind_eq_some_iff.mp H
 obtain ⟨t106, A120, H⟩ := H
 replace H : ((rat_gcd.f k (([t105, t106] : List Int))).bind fun t110 => ((rat_abs.f a0).bind fun t111 => (if t110 = 0 then (none) else ((rat_abs.f a1).bind fun t112 => ((rat_made.f k ((decide (a0 < 0)) != (decide (a1 < 0))) 0 (IntKind.u64.wrap (Int.tdiv t111 t110)) false 0 (IntKind.u64.wrap (Int.tdiv t112 t110))).bind fun bt113 => (some (bt113.1, bt113.2.1, bt113.2.2))))))) = some (r1, r2, r3) := H
 have A12 := aM A120; clear A120
 obtain ⟨y107, hy107⟩ : ∃ y_ : List Int, y_ = (([t105, t106] : List Int)) := ⟨_, rfl⟩
 replace H : ((rat_gcd.f k y107).bind fun t110 => ((rat_abs.f a0).bind fun t111 => (if t110 = 0 then (none) else ((rat_abs.f a1).bind fun t112 => ((rat_made.f k ((decide (a0 < 0)) != (decide (a1 < 0))) 0 (IntKind.u64.wrap (Int.tdiv t111 t110)) false 0 (IntKind.u64.wrap (Int.tdiv t112 t110))).bind fun bt113 => (some (bt113.1, bt113.2.1, bt113.2.2))))))) = some (r1, r2, r3) := by first | (rw [hy107]; with_reducible exact H) | (have H2_ := (Option.bind_some _ _).symm.trans H; rw [hy107]; with_reducible exact H2_) | (have H2_ := (Option.bind_some _ _).symm.trans H; with_reducible exact H2_) | with_reducible exact H | (rw [hy107]; exact H) | exact H
 have Ny107 := aM hy107; clear hy107; replace H := Option.bind_eq_some_iff.mp H
 obtain ⟨t110, A130, H⟩ := H
 replace H : ((rat_abs.f a0).bind fun t111 => (if t110 = 0 then (none) else ((rat_abs.f a1).bind fun t112 => ((rat_made.f k ((decide (a0 < 0)) != (decide (a1 < 0))) 0 (IntKind.u64.wrap (Int.tdiv t111 t110)) false 0 (IntKind.u64.wrap (Int.tdiv t112 t110))).bind fun bt113 => (some (bt113.1, bt113.2.1, bt113.2.2)))))) = some (r1, r2, r3) := H
 have A13 := aM A130; clear A130; replace H := Option.bind_eq_some_iff.mp H
 obtain ⟨t111, A140, H⟩ := H
 replace H : (if t110 = 0 then (none) else ((rat_abs.f a1).bind fun t112 => ((rat_made.f k ((decide (a0 < 0)) != (decide (a1 < 0))) 0 (IntKind.u64.wrap (Int.tdiv t111 t110)) false 0 (IntKind.u64.wrap (Int.tdiv t112 t110))).bind fun bt113 => (some (bt113.1, bt113.2.1, bt113.2.2))))) = some (r1, r2, r3) := H
 have A14 := aM A140; clear A140
 by_cases c15 : t110 = 0
 ·rw [if_pos c15] at H
  exact absurd H (by simp)
 rw [if_neg c15] at H
 have c15b0 : (t110 == 0) = false := beq_eq_false_iff_ne.mpr c15
 have c15b1 : (t110 != 0) = true := bne_iff_ne.mpr c15
 replace H := Option.bind_eq_some_iff.mp H
 obtain ⟨t112, A160, H⟩ := H
 replace H : ((rat_made.f k ((decide (a0 < 0)) != (decide (a1 < 0))) 0 (IntKind.u64.wrap (Int.tdiv t111 t110)) false 0 (IntKind.u64.wrap (Int.tdiv t112 t110))).bind fun bt113 => (some (bt113.1, bt113.2.1, bt113.2.2))) = some (r1, r2, r3) := H
 have A16 := aM A160; clear A160; replace H := Option.bind_eq_some_iff.mp H
 obtain ⟨⟨t113, t114, t115⟩, A170, H⟩ := H
 replace H : (some (t113, t114, t115)) = some (r1, r2, r3) := H
 have A17 := aM A170; clear A170
 simp only [Option.some.injEq, Prod.mk.injEq] at H
 obtain ⟨rfl, rfl, rfl⟩ := H
 go_enter Try.func53, Try.ntmps53
 try go_wp2_with (first | ((with_reducible refine gate_dst (N := 4) rfl ?_); refine bE (N := 4) (cs := #[.int .i64 0, .int .i64 0]) (t := 43) ?_; intro gb101 hg w18 hbox hb; have BK101 := aM (hbox); have GW101 := gE hg HB; have GE101 := gE hg HB; replace HB := sB HB hb; clear hb hbox hg) | ((with_reducible refine gate_callee (f := 59) rfl ?_); refine gL (some 16) Try.func59 #[.int .i64 a0] ?_; (with_reducible refine (rat_abs.calls a0 t105 _ A11.out).mono ?_); rintro e w' ⟨rfl, ⟨nd, rfl⟩⟩; refine ⟨_, rfl, ?_⟩; (try (rw [drewN_self w18]; generalize hq_ : World.drewN w18 _ = w18; have n0_ : Aside0 (w18.heap[gb101]? = some (.cells #[.int .i64 0, .int .i64 0] 43 (0, 0))) := ⟨by rw [← hq_]; exact (bD BK101)⟩; have n1_ : Aside0 (Below w.heap.size w w18) := ⟨by rw [← hq_]; exact (sD HB)⟩; clear BK101 HB hq_; have BK101 := n0_; have HB := n1_; clear n0_ n1_))) | ((with_reducible refine gate_callee (f := 59) rfl ?_); refine gL (some 18) Try.func59 #[.int .i64 a1] ?_; (with_reducible refine (rat_abs.calls a1 t106 _ A12.out).mono ?_); rintro e w' ⟨rfl, ⟨nd, rfl⟩⟩; refine ⟨_, rfl, ?_⟩; (try (rw [drewN_self w18]; generalize hq_ : World.drewN w18 _ = w18; have n0_ : Aside0 (w18.heap[gb101]? = some (.cells #[.int .i64 0, .int .i64 0] 43 (0, 0))) := ⟨by rw [← hq_]; exact (bD BK101)⟩; have n1_ : Aside0 (Below w.heap.size w w18) := ⟨by rw [← hq_]; exact (sD HB)⟩; clear BK101 HB hq_; have BK101 := n0_; have HB := n1_; clear n0_ n1_))) | ((with_reducible refine gate_dst (N := 19) rfl ?_); refine Kd.R_lit (Kd.int .u64) _ 26 ?hg (N := 19) ?hd (xs := ([t105, t106] : List Int)) (inner := [.int .u64 t105, .int .u64 t106]) (ok := fun _ => True) (okp := fun _ => True) ?hr ?hp (fun _ hk => hk) trivial (Below.refl _ _) (Nat.le_refl _) (by simp) ?_; (case hd => rfl); (case hg => rfl); (case hr => first | (go_simp; done) | (go_simp; rfl)); (case hp => exact (Reps.one (show Kd.M (Kd.int .u64) _ _ _ t105 [.int .u64 t105] from rfl) (Reps.one (show Kd.M (Kd.int .u64) _ _ _ t106 [.int .u64 t106] from rfl) (Reps.none _ _)))); intro v108 w19 ho20 hb hg_ hnew_; clear hg_ hnew_; (first | rw [← Ny107.out] at ho20 | (simp only [Int.reduceToNat] at ho20; rw [← Ny107.out] at ho20)); have HO109 := rL (n := 0) ho20 HB; replace BK101 := bB BK101 hb; replace HB := sB HB hb; clear hb ho20; obtain ⟨Ao21, co21, eo21⟩ := Kd.R_slice HO109.out; subst eo21) | ((with_reducible refine gate_callee (f := 63) rfl ?_); refine gL (some 20) Try.func63 #[.slice Ao21 y107.length co21] ?_; (with_reducible refine (rat_gcd.calls k _ _ y107 t110 _ ?side1 ?side2 A13.out).mono ?_); (case side1 => exact rC HO109); (case side2 => exact rN HO109); rintro e w' ⟨rfl, ⟨nd, rfl⟩⟩; refine ⟨_, rfl, ?_⟩; (try (rw [drewN_self w19]; generalize hq_ : World.drewN w19 _ = w19; have n0_ : Aside0 (Kd.R (Kd.int .u64) 26 w19 w.heap.size (fun _ => True) (.slice Ao21 y107.length co21) y107) := ⟨by rw [← hq_]; exact (rD HO109)⟩; have n1_ : Aside0 (w19.heap[gb101]? = some (.cells #[.int .i64 0, .int .i64 0] 43 (0, 0))) := ⟨by rw [← hq_]; exact (bD BK101)⟩; have n2_ : Aside0 (Below w.heap.size w w19) := ⟨by rw [← hq_]; exact (sD HB)⟩; clear HO109 BK101 HB hq_; have HO109 := n0_; have BK101 := n1_; have HB := n2_; clear n0_ n1_ n2_))))
 replace HO109 := aM (Kd.R_drew HO109.out); replace BK101 := aM (blk_drew BK101.out); replace HB := aM (below_drew1 HB.out)
 refine start_ (n := 20) (S := fun w' => True) (ds := []) #[false, false, false, false, false, false, false, false, false, false, false, false, false, false, false, false, false, false, false, false] (by kernel_rfl) rfl rfl trivial (fun hHeld => ?_); refine with_tabW rat_New.tab6 rat_New.bits6 (fun HT_ HW_ => ?_)
 generalize w19.drew = w22 at HO109 BK101 HB hHeld ⊢
 refine pX (i := 0) (N := some 21) rfl rfl HT_ ?_
 refine pX (i := 1) (N := some 22) rfl rfl HT_ ?_
 refine pX (i := 2) (N := some 23) rfl rfl HT_ ?_
 refine pX (i := 3) (N := some 24) rfl rfl HT_ ?_
 refine pX (i := 4) (N := some 25) rfl rfl HT_ ?_
 refine pX (i := 5) (N := some 26) rfl rfl HT_ ?_
 refine pX (i := 7) (N := some 28) rfl rfl HT_ ?_
 refine pX (i := 10) (N := some 31) rfl rfl HT_ ?_
 refine pX (i := 12) (N := some 33) rfl rfl HT_ ?_
 refine oX (i := 6) (N := some 27) rfl rfl HT_ (fun K hK => ?_)
 refine gS Try.func59 #[.int .i64 a0] ?_
 with_reducible refine (rat_abs.calls a0 t111 _ A14.out).mono ?_
 rintro e w' ⟨rfl, ⟨nd, rfl⟩⟩
 refine ⟨_, rfl, ?_⟩
 refine hK.out _ _ trivial (fun hHeld => ?_)
 clear hK K
 refine nX (some 27) ?_
 refine pX (i := 8) (N := some 29) rfl rfl HT_ ?_
 refine pX (i := 9) (N := some 30) rfl rfl HT_ ?_
 refine oX (i := 11) (N := some 32) rfl rfl HT_ (fun K hK => ?_)
 refine gS Try.func59 #[.int .i64 a1] ?_
 with_reducible refine (rat_abs.calls a1 t112 _ A16.out).mono ?_
 rintro e w' ⟨rfl, ⟨nd, rfl⟩⟩
 refine ⟨_, rfl, ?_⟩
 refine hK.out _ _ trivial (fun hHeld => ?_)
 clear hK K
 refine nX (some 32) ?_
 refine pX (i := 13) (N := some 34) rfl rfl HT_ ?_
 refine pX (i := 14) (N := some 35) rfl rfl HT_ ?_
 refine oX (i := 15) (N := some 36) rfl rfl HT_ (fun K hK => ?_)
 refine gS Try.func67 #[.agg #[.bool ((decide (a0 < 0)) != (decide (a1 < 0))), .int .u64 0, .int .u64 (IntKind.u64.wrap (Int.tdiv t111 t110))], .agg #[.bool false, .int .u64 0, .int .u64 (IntKind.u64.wrap (Int.tdiv t112 t110))]] ?_
 with_reducible refine (rat_made.calls k ((decide (a0 < 0)) != (decide (a1 < 0))) 0 (IntKind.u64.wrap (Int.tdiv t111 t110)) false 0 (IntKind.u64.wrap (Int.tdiv t112 t110)) t113 t114 t115 _ A17.out).mono ?_
 rintro e w23 ⟨rfl, hb⟩
 refine ⟨_, rfl, ?_⟩
 replace HO109 := rB HO109 hb; replace BK101 := bB BK101 hb; replace HB := sB HB hb; (try clear hb); (try clear hb2); (try clear hk); (try clear hi)
 refine hK.out _ _ trivial (fun hHeld => ?_)
 clear hK K
 refine nX (some 36) ?_
 refine pX (i := 16) (N := some 37) rfl rfl HT_ ?_
 refine pX (i := 17) (N := some 38) rfl rfl HT_ ?_
 refine oX (i := 18) (N := none) rfl rfl HT_ (fun K hK => ?_)
 have hs24 : w23.cell? ⟨gb101, 0, none⟩ = some (.int .i64 0) := (blk_cell BK101.out 0).trans rfl
 have hfs24 := blk_frozen BK101.out 0
 have hs25 : w23.cell? ⟨gb101, 1, none⟩ = some (.int .i64 0) := (blk_cell BK101.out 1).trans rfl
 have hfs25 := blk_frozen BK101.out 1
 refine skip_ (w1 := ?_) (by rfl) rfl ?_ ?_
 rotate_left
 ·go_simp
  rfl
 refine hK.out _ _ trivial (fun hHeld => ?_)
 clear hK K
 refine pX (i := 19) (N := some 5) rfl rfl HT_ ?_
 refine done_ (done_of HT_.out (by kernel_rfl)) ?_
 try go_wp2
 refine bodyPost_ret (results_ct rfl _ _ gb101 43 #[.int .i64 t113, .int .i64 t114] (0, 0) _ rfl (by refine bM ?_; refine blk_put (cs := #[.int .i64 t113, .int .i64 0]) ?_ 1 _ rfl; refine bM ?_; refine blk_put (cs := #[.int .i64 0, .int .i64 0]) ?_ 0 _ rfl; exact bD BK101) Try.underlying43 rfl (by kernel_rfl)) rfl ?_
 exact ⟨by first | rfl | (simp [errW_none, errW_some] <;> rfl) | (simp [*, errW_none, errW_some] <;> rfl), sD HB⟩
end Go.Proofs.Ytfdoncgljohndaa.P
namespace Go.Proofs.Ytfdoncgljohndaa.P
open Go.Proofs.YtfdoncgljohndaaH Go.RowKit Go.Proofs.YtfdoncgljohndaaW.PrintWords Go.Proofs.YtfdoncgljohndaaW.PrintLast Go.Proofs.YtfdoncgljohndaaW.PrintMore
attribute [local go_sem] max2_int min2_int max_two min_two max_three min_three max_four min_four   -- for this text's walks alone
attribute [local go_sem] Go.Proofs.YtfdoncgljohndaaH.cell_set_map
def field_Bound.f (k : Nat) (a0_0 : Int) (a0_1 : Int) (a0_2 : Int) (a0_3 : Int) (a0_4 : Int) (a0_5 : Int) : Option (Int × Int × Int) := if a0_4 = 0 then (if a0_3 = a0_2 then ((rat_New.f k 0 1).bind fun bt103 => (some (bt103.1, bt103.2.1, bt103.2.2))) else ((rat_New.f k 19 (mx 19 a0_3)).bind fun bt106 => (some (bt106.1, bt106.2.1, bt106.2.2)))) else (some (0, 0, 320))
set_option maxHeartbeats 40000000 in
set_option maxRecDepth 100000 in
theorem field_Bound.calls (k : Nat) (a0_0 : Int) (a0_1 : Int) (a0_2 : Int) (a0_3 : Int) (a0_4 : Int) (a0_5 : Int) (r1 : Int) (r2 : Int) (r3 : Int) (w : World) (h : field_Bound.f k a0_0 a0_1 a0_2 a0_3 a0_4 a0_5 = some (r1, r2, r3)) :
  Calls Try.prog 38 #[.agg #[.int .i64 a0_0, .int .i64 a0_1, .int .i64 a0_2, .int .i64 a0_3, .int .i64 a0_4, .int .i64 a0_5]] w fun e w' => e = .returned (.tuple #[.agg #[.int .i64 r1, .int .i64 r2], .int .i64 r3]) ∧ Below w.heap.size w w' := by
 have hu40 := Try.underlying40; have hu43 := Try.underlying43; have HB := aM (Below.refl w.heap.size w)
 have H : (if a0_4 = 0 then (if a0_3 = a0_2 then ((rat_New.f k 0 1).bind fun bt103 => (some (bt103.1, bt103.2.1, bt103.2.2))) else ((rat_New.f k 19 (mx 19 a0_3)).bind fun bt106 => (some (bt106.1, bt106.2.1, bt106.2.2)))) else (some (0, 0, 320))) = some (r1, r2, r3) := h
 clear h
 by_cases c2 : a0_4 = 0
 rotate_left
 ·rw [if_neg c2] at H
  have c2b0 : (a0_4 == 0) = false := beq_eq_false_iff_ne.mpr c2
  have c2b1 : (a0_4 != 0) = true := bne_iff_ne.mpr c2
  simp only [Option.some.injEq, Prod.mk.injEq] at H
  obtain ⟨rfl, rfl, rfl⟩ := H
  go_enter Try.func38, Try.ntmps38
  go_wp2_with (first | ((with_reducible refine gate_dst (N := 1) rfl ?_); refine bE (N := 1) (cs := #[.int .i64 a0_0, .int .i64 a0_1, .int .i64 a0_2, .int .i64 a0_3, .int .i64 a0_4, .int .i64 a0_5]) (t := 40) ?_; intro gb101 hg w19 hbox hb; have BK101 := aM (hbox); have GW101 := gE hg HB; have GE101 := gE hg HB; replace HB := sB HB hb; clear hb hbox hg) | ((with_reducible refine gate_dst (N := 2) rfl ?_); refine bE (N := 2) (cs := #[.int .i64 0, .int .i64 0]) (t := 43) ?_; intro gb102 hg w20 hbox hb; have BK102 := aM (hbox); have GW102 := gE hg HB; have GE102 := gE hg HB; have NB101_102 := nL hg BK101; replace BK101 := bB BK101 hb; replace HB := sB HB hb; clear hb hbox hg; have hnb21 := NB101_102.out; have hnc21 := NB101_102.out.symm; obtain ⟨hcz22_0, hcz22_1, hcz22_2, hcz22_3, hcz22_4, hcz22_5, hfz22_0, hfz22_1, hfz22_2, hfz22_3, hfz22_4, hfz22_5⟩ := cZ6 BK101; obtain ⟨hcz23_0, hcz23_1, hfz23_0, hfz23_1⟩ := cZ2 BK102))
  refine bodyPost_ret (results_ct rfl _ _ gb102 43 #[.int .i64 0, .int .i64 0] (0, 0) _ rfl (by refine bM ?_; refine blk_put (cs := #[.int .i64 0, .int .i64 0]) ?_ 1 _ rfl; refine bM ?_; refine blk_put (cs := #[.int .i64 0, .int .i64 0]) ?_ 0 _ rfl; exact bD BK102) Try.underlying43 rfl (by kernel_rfl)) rfl ?_
  exact ⟨by first | rfl | (simp [errW_none, errW_some] <;> rfl) | (simp [*, errW_none, errW_some] <;> rfl), sD HB⟩
 rw [if_pos c2] at H
 have c2b0 : (a0_4 == 0) = true := beq_iff_eq.mpr c2
 have c2b1 : (a0_4 != 0) = false := bne_eq_false_iff_eq.mpr c2
 clear c2
 by_cases c3 : a0_3 = a0_2
 ·rw [if_pos c3] at H
  have c3b0 : (a0_3 == a0_2) = true := beq_iff_eq.mpr c3
  have c3b1 : (a0_3 != a0_2) = false := bne_eq_false_iff_eq.mpr c3
  clear c3; replace H := Option.bind_eq_some_iff.mp H
  obtain ⟨⟨t103, t104, t105⟩, A40, H⟩ := H
  replace H : (some (t103, t104, t105)) = some (r1, r2, r3) := H
  have A4 := aM A40; clear A40
  simp only [Option.some.injEq, Prod.mk.injEq] at H
  obtain ⟨rfl, rfl, rfl⟩ := H
  go_enter Try.func38, Try.ntmps38
  go_wp2_with (first | ((with_reducible refine gate_dst (N := 1) rfl ?_); refine bE (N := 1) (cs := #[.int .i64 a0_0, .int .i64 a0_1, .int .i64 a0_2, .int .i64 a0_3, .int .i64 a0_4, .int .i64 a0_5]) (t := 40) ?_; intro gb101 hg w5 hbox hb; have BK101 := aM (hbox); have GW101 := gE hg HB; have GE101 := gE hg HB; replace HB := sB HB hb; clear hb hbox hg) | ((with_reducible refine gate_dst (N := 2) rfl ?_); refine bE (N := 2) (cs := #[.int .i64 0, .int .i64 0]) (t := 43) ?_; intro gb102 hg w6 hbox hb; have BK102 := aM (hbox); have GW102 := gE hg HB; have GE102 := gE hg HB; have NB101_102 := nL hg BK101; replace BK101 := bB BK101 hb; replace HB := sB HB hb; clear hb hbox hg; have hnb7 := NB101_102.out; have hnc7 := NB101_102.out.symm; obtain ⟨hcz8_0, hcz8_1, hcz8_2, hcz8_3, hcz8_4, hcz8_5, hfz8_0, hfz8_1, hfz8_2, hfz8_3, hfz8_4, hfz8_5⟩ := cZ6 BK101) | ((with_reducible refine gate_callee (f := 53) rfl ?_); refine gL (some 15) Try.func53 #[.int .i64 0, .int .i64 1] ?_; (with_reducible refine (rat_New.calls k 0 1 t103 t104 t105 _ A4.out).mono ?_); rintro e w9 ⟨rfl, hb⟩; refine ⟨_, rfl, ?_⟩; replace BK101 := bB BK101 hb; replace BK102 := bB BK102 hb; replace HB := sB HB hb; (try clear hb); obtain ⟨hcz10_0, hcz10_1, hfz10_0, hfz10_1⟩ := cZ2 BK102))
  refine bodyPost_ret (results_ct rfl _ _ gb102 43 #[.int .i64 t103, .int .i64 t104] (0, 0) _ rfl (by refine bM ?_; refine blk_put (cs := #[.int .i64 t103, .int .i64 0]) ?_ 1 _ rfl; refine bM ?_; refine blk_put (cs := #[.int .i64 0, .int .i64 0]) ?_ 0 _ rfl; exact bD BK102) Try.underlying43 rfl (by kernel_rfl)) rfl ?_
  exact ⟨by first | rfl | (simp [errW_none, errW_some] <;> rfl) | (simp [*, errW_none, errW_some] <;> rfl), sD HB⟩
 rw [if_neg c3] at H
 have c3b0 : (a0_3 == a0_2) = false := beq_eq_false_iff_ne.mpr c3
 have c3b1 : (a0_3 != a0_2) = true := bne_iff_ne.mpr c3
 obtain ⟨ji11, hji11⟩ : ∃ j_ : Int, (mx 19 a0_3) = j_ := ⟨_, rfl⟩
 replace H : ((rat_New.f k 19 (ji11)).bind fun bt106 => (some (bt106.1, bt106.2.1, bt106.2.2))) = some (r1, r2, r3) := by first | (rw [hji11] at H; exact H) | (simp only [hji11] at H ⊢; exact H)
 (try (have hji11l : 19 ≤ ji11 := by (rw [← hji11]; unfold mx; (repeat' split) <;> omega)))
 (try (have hji11m : 0 ≤ ji11 := by omega))
 have hji11_ : (if 19 < a0_3 then a0_3 else 19) = ji11 := hji11
 replace H := Option.bind_eq_some_iff.mp H
 obtain ⟨⟨t106, t107, t108⟩, A120, H⟩ := H
 replace H : (some (t106, t107, t108)) = some (r1, r2, r3) := H
 have A12 := aM A120; clear A120
 simp only [Option.some.injEq, Prod.mk.injEq] at H
 obtain ⟨rfl, rfl, rfl⟩ := H
 go_enter Try.func38, Try.ntmps38
 go_wp2_with (first | ((with_reducible refine gate_dst (N := 1) rfl ?_); refine bE (N := 1) (cs := #[.int .i64 a0_0, .int .i64 a0_1, .int .i64 a0_2, .int .i64 a0_3, .int .i64 a0_4, .int .i64 a0_5]) (t := 40) ?_; intro gb101 hg w13 hbox hb; have BK101 := aM (hbox); have GW101 := gE hg HB; have GE101 := gE hg HB; replace HB := sB HB hb; clear hb hbox hg) | ((with_reducible refine gate_dst (N := 2) rfl ?_); refine bE (N := 2) (cs := #[.int .i64 0, .int .i64 0]) (t := 43) ?_; intro gb102 hg w14 hbox hb; have BK102 := aM (hbox); have GW102 := gE hg HB; have GE102 := gE hg HB; have NB101_102 := nL hg BK101; replace BK101 := bB BK101 hb; replace HB := sB HB hb; clear hb hbox hg; have hnb15 := NB101_102.out; have hnc15 := NB101_102.out.symm; obtain ⟨hcz16_0, hcz16_1, hcz16_2, hcz16_3, hcz16_4, hcz16_5, hfz16_0, hfz16_1, hfz16_2, hfz16_3, hfz16_4, hfz16_5⟩ := cZ6 BK101) | ((with_reducible refine gate_callee (f := 53) rfl ?_); refine gL (some 21) Try.func53 #[.int .i64 19, .int .i64 ji11] ?_ (hargs := by (try simp only [List.map_toArray, List.map_cons, List.map_nil]); first | done | (simp only [hji11]; rfl) | rfl); (with_reducible refine (rat_New.calls k 19 ji11 t106 t107 t108 _ A12.out).mono ?_); rintro e w17 ⟨rfl, hb⟩; refine ⟨_, rfl, ?_⟩; replace BK101 := bB BK101 hb; replace BK102 := bB BK102 hb; replace HB := sB HB hb; (try clear hb); obtain ⟨hcz18_0, hcz18_1, hfz18_0, hfz18_1⟩ := cZ2 BK102))
 refine bodyPost_ret (results_ct rfl _ _ gb102 43 #[.int .i64 t106, .int .i64 t107] (0, 0) _ rfl (by refine bM ?_; refine blk_put (cs := #[.int .i64 t106, .int .i64 0]) ?_ 1 _ rfl; refine bM ?_; refine blk_put (cs := #[.int .i64 0, .int .i64 0]) ?_ 0 _ rfl; exact bD BK102) Try.underlying43 rfl (by kernel_rfl)) rfl ?_
 exact ⟨by first | rfl | (simp [errW_none, errW_some] <;> rfl) | (simp only [← hji11]; first | rfl | (simp [errW_none, errW_some] <;> rfl)) | (simp [*, errW_none, errW_some] <;> rfl), sD HB⟩
end Go.Proofs.Ytfdoncgljohndaa.P
namespace Go.Proofs.Ytfdoncgljohndaa.P
open Go.Proofs.YtfdoncgljohndaaH Go.RowKit Go.Proofs.YtfdoncgljohndaaW.PrintWords Go.Proofs.YtfdoncgljohndaaW.PrintLast Go.Proofs.YtfdoncgljohndaaW.PrintMore
attribute [local go_sem] max2_int min2_int max_two min_two max_three min_three max_four min_four   -- for this text's walks alone
attribute [local go_sem] Go.Proofs.YtfdoncgljohndaaH.cell_set_map
def parolelaw32_bound.f (k : Nat) (a0_0 : Int) (a0_1 : Int) (a0_2 : Int) (a0_3 : Int) (a0_4 : Int) (a0_5 : Int) : Option (Int × Int × Int) := (field_Bound.f k a0_0 a0_1 a0_2 a0_3 a0_4 a0_5).bind fun bt103 => (some (bt103.1, bt103.2.1, bt103.2.2))
set_option maxHeartbeats 40000000 in
set_option maxRecDepth 100000 in
theorem parolelaw32_bound.calls (k : Nat) (a0_0 : Int) (a0_1 : Int) (a0_2 : Int) (a0_3 : Int) (a0_4 : Int) (a0_5 : Int) (r1 : Int) (r2 : Int) (r3 : Int) (w : World) (h : parolelaw32_bound.f k a0_0 a0_1 a0_2 a0_3 a0_4 a0_5 = some (r1, r2, r3)) :
  Calls Try.prog 21 #[.agg #[.int .i64 a0_0, .int .i64 a0_1, .int .i64 a0_2, .int .i64 a0_3, .int .i64 a0_4, .int .i64 a0_5]] w fun e w' => e = .returned (.agg #[.int .i64 r1, .int .i64 r2, .int .i64 r3]) ∧ Below w.heap.size w w' := by
 have hu40 := Try.underlying40; have hu45 := Try.underlying45; have hu43 := Try.underlying43; have HB := aM (Below.refl w.heap.size w)
 have H : ((field_Bound.f k a0_0 a0_1 a0_2 a0_3 a0_4 a0_5).bind fun bt103 => (some (bt103.1, bt103.2.1, bt103.2.2))) = some (r1, r2, r3) := h
 clear h; replace H := Option.bind_eq_some_iff.mp H
 obtain ⟨⟨t103, t104, t105⟩, A20, H⟩ := H
 replace H : (some (t103, t104, t105)) = some (r1, r2, r3) := H
 have A2 := aM A20; clear A20
 simp only [Option.some.injEq, Prod.mk.injEq] at H
 obtain ⟨rfl, rfl, rfl⟩ := H
 go_enter Try.func21, Try.ntmps21
 go_wp2_with (first | ((with_reducible refine gate_dst (N := 1) rfl ?_); refine bE (N := 1) (cs := #[.int .i64 a0_0, .int .i64 a0_1, .int .i64 a0_2, .int .i64 a0_3, .int .i64 a0_4, .int .i64 a0_5]) (t := 40) ?_; intro gb101 hg w3 hbox hb; have BK101 := aM (hbox); have GW101 := gE hg HB; have GE101 := gE hg HB; replace HB := sB HB hb; clear hb hbox hg) | ((with_reducible refine gate_dst (N := 2) rfl ?_); refine bE (N := 2) (cs := #[.int .i64 0, .int .i64 0, .int .i64 0]) (t := 45) ?_; intro gb102 hg w4 hbox hb; have BK102 := aM (hbox); have GW102 := gE hg HB; have GE102 := gE hg HB; have NB101_102 := nL hg BK101; replace BK101 := bB BK101 hb; replace HB := sB HB hb; clear hb hbox hg; have hnb5 := NB101_102.out; have hnc5 := NB101_102.out.symm; obtain ⟨hcz6_0, hcz6_1, hcz6_2, hcz6_3, hcz6_4, hcz6_5, hfz6_0, hfz6_1, hfz6_2, hfz6_3, hfz6_4, hfz6_5⟩ := cZ6 BK101) | ((with_reducible refine gate_callee (f := 38) rfl ?_); refine gL (some 7) Try.func38 #[.agg #[.int .i64 a0_0, .int .i64 a0_1, .int .i64 a0_2, .int .i64 a0_3, .int .i64 a0_4, .int .i64 a0_5]] ?_; (with_reducible refine (field_Bound.calls k a0_0 a0_1 a0_2 a0_3 a0_4 a0_5 t103 t104 t105 _ A2.out).mono ?_); rintro e w7 ⟨rfl, hb⟩; refine ⟨_, rfl, ?_⟩; replace BK101 := bB BK101 hb; replace BK102 := bB BK102 hb; replace HB := sB HB hb; (try clear hb)) | ((with_reducible refine gate_dst (N := 3) rfl ?_); refine bE (N := 3) (cs := #[.int .i64 0, .int .i64 0]) (t := 43) ?_; intro gb106 hg w8 hbox hb; have BK106 := aM (hbox); have GW106 := gE hg HB; have GE106 := gE hg HB; have NB101_106 := nL hg BK101; have NB102_106 := nL hg BK102; replace BK101 := bB BK101 hb; replace BK102 := bB BK102 hb; replace HB := sB HB hb; clear hb hbox hg; have hnb9 := NB101_106.out.symm; have hnc9 := NB101_106.out; have hnb10 := NB102_106.out.symm; have hnc10 := NB102_106.out; obtain ⟨hcz11_0, hcz11_1, hfz11_0, hfz11_1⟩ := cZ2 BK106; obtain ⟨hcz12_0, hcz12_1, hcz12_2, hfz12_0, hfz12_1, hfz12_2⟩ := cZ3 BK102))
 refine bodyPost_ret (results_cell_row rfl _ _ gb102 45 #[.int .i64 t103, .int .i64 t104, .int .i64 t105] (0, 0) _ rfl (by refine bM ?_; refine blk_put (cs := #[.int .i64 t103, .int .i64 t104, .int .i64 0]) ?_ 2 _ rfl; refine bM ?_; refine blk_put (cs := #[.int .i64 t103, .int .i64 0, .int .i64 0]) ?_ 1 _ rfl; refine bM ?_; refine blk_put (cs := #[.int .i64 0, .int .i64 0, .int .i64 0]) ?_ 0 _ rfl; refine bM ?_; refine blk_far ?_ NB102_106.out _; refine bM ?_; refine blk_far ?_ NB102_106.out _; exact bD BK102) Try.underlying45 rfl (by kernel_rfl)) rfl ?_
 exact ⟨by first | rfl | (simp [errW_none, errW_some] <;> rfl) | (simp [*, errW_none, errW_some] <;> rfl), sD HB⟩
end Go.Proofs.Ytfdoncgljohndaa.P
namespace Go.Fld
open Go
/-- Each element once, in the order in which it came. -/
def nub (l : List Int) : List Int := l.foldl (fun acc x => if x ∈ acc then acc else acc ++ [x]) []
theorem nub_snoc (l : List Int) (x : Int) : nub (l ++ [x]) = if x ∈ nub l then nub l else nub l ++ [x] := by unfold nub; rw [List.foldl_append]; rfl
theorem snoc_ind {α : Type} {P : List α → Prop} (h0 : P []) (h1 : ∀ l x, P l → P (l ++ [x])) : ∀ l, P l := by
 intro l
 have : ∀ n (l : List α), l.length = n → P l := by
  intro n
  induction n with
  | zero => intro l hl; obtain rfl := List.eq_nil_of_length_eq_zero hl; exact h0
  | succ n ih =>
   intro l hl
   have hne : l ≠ [] := by intro h; subst h; simp at hl
   rw [← List.dropLast_concat_getLast hne]
   exact h1 _ _ (ih _ (by simp [hl]))
 exact this _ l rfl
theorem nodup_nub (l : List Int) : (nub l).Nodup := by
 induction l using snoc_ind with
 | h0 => simp [nub]
 | h1 l y ih =>
  rw [nub_snoc]
  split
  ·exact ih
  ·rename_i h
   rw [List.nodup_append]
   exact ⟨ih, by simp, fun a ha b hb => by simp at hb; subst hb; rintro rfl; exact h ha⟩
theorem length_nub_le (l : List Int) : (nub l).length ≤ l.length := by
 induction l using snoc_ind with
 | h0 => simp [nub]
 | h1 l y ih =>
  rw [nub_snoc]
  split
  ·simp; omega
  ·simp; omega
/-- The greatest one, or 0. -/
def maxs (l : List Int) : Int := l.foldl max 0
theorem maxs_snoc (l : List Int) (x : Int) : maxs (l ++ [x]) = max (maxs l) x := by simp [maxs, List.foldl_append]
theorem maxs_le_iff (l : List Int) (b : Int) : maxs l ≤ b ↔ 0 ≤ b ∧ ∀ x ∈ l, x ≤ b := by
 induction l using snoc_ind with
 | h0 => simp [maxs]
 | h1 l y ih =>
  rw [maxs_snoc, Int.max_le, ih]
  constructor
  ·rintro ⟨⟨h0, h1⟩, h2⟩
   exact ⟨h0, fun x hx => by simp at hx; rcases hx with hx | rfl; exact h1 x hx; exact h2⟩
  ·rintro ⟨h0, h1⟩
   exact ⟨⟨h0, fun x hx => h1 x (by simp [hx])⟩, h1 y (by simp)⟩
theorem maxs_nonneg (l : List Int) : 0 ≤ maxs l := ((maxs_le_iff l (maxs l)).1 (Int.le_refl _)).1
/-- A sum over a list. -/
def sm (l : List Int) (f : Int → Int) : Int := l.foldr (fun x s => f x + s) 0
theorem sm_nil (f : Int → Int) : sm [] f = 0 := rfl
theorem sm_cons (x : Int) (l : List Int) (f : Int → Int) : sm (x :: l) f = f x + sm l f := rfl
theorem sm_congr {l : List Int} {f g : Int → Int} (h : ∀ x ∈ l, f x = g x) : sm l f = sm l g := by
 induction l with
 | nil => rfl
 | cons x l ih => rw [sm_cons, sm_cons, h x (by simp), ih fun y hy => h y (by simp [hy])]
theorem sm_zero {l : List Int} {f : Int → Int} (h : ∀ x ∈ l, f x = 0) : sm l f = 0 := by
 induction l with
 | nil => rfl
 | cons x l ih => rw [sm_cons, h x (by simp), ih fun y hy => h y (by simp [hy])]; rfl
theorem sm_one {l : List Int} (h : l.Nodup) {x : Int} (hx : x ∈ l) (f g : Int → Int) (he : ∀ y ∈ l, y ≠ x → f y = g y) : sm l f = sm l g - g x + f x := by
 induction l with
 | nil => simp at hx
 | cons y l ih =>
  obtain ⟨hn, h1⟩ := List.nodup_cons.1 h
  rw [sm_cons, sm_cons]
  by_cases hxy : x = y
  ·subst hxy
   rw [sm_congr (f := f) (g := g) fun z hz => he z (by simp [hz]) (by rintro rfl; exact hn hz)]
   omega
  ·have hx' : x ∈ l := by simpa [hxy] using hx
   rw [ih h1 hx' fun z hz => he z (by simp [hz]), he y (by simp) (fun h => hxy h.symm)]
   omega
/-- The keys of a set of integers. -/
theorem sameKey_i64 (a b : Int) : (Lit.int .i64 a).sameKey (Lit.int .i64 b) = (a == b) := by
 simp only [Lit.sameKey]; first | (simp; done) | (rw [Bool.eq_iff_iff]; simp)
theorem addKeys_nub (l : List Int) : (l.map (Lit.int .i64)).foldl Maps.addKey [] = (nub l).map (Lit.int .i64) := by
 induction l using snoc_ind with
 | h0 => simp [nub]
 | h1 l y ih =>
  rw [List.map_append, List.foldl_append, ih, nub_snoc]
  simp only [List.map_cons, List.map_nil, List.foldl_cons, List.foldl_nil, Maps.addKey, List.any_map]
  have e : ((nub l).any ((fun z => z.sameKey (Lit.int .i64 y)) ∘ Lit.int .i64)) = decide (y ∈ nub l) := by
   rw [Bool.eq_iff_iff]
   simp [sameKey_i64]
  rw [e]
  by_cases h : y ∈ nub l <;> simp [h]
end Go.Fld
namespace Go.Proofs.Ytfdoncgljohndaa.P
open Go.RowKit Go.Fld Go.Proofs.YtfdoncgljohndaaW.PrintWords Go.Proofs.YtfdoncgljohndaaW.PrintLast Go.Proofs.YtfdoncgljohndaaW.PrintMore
def ofM (L : List S28) (x : Int) : List S28 := L.filter (fun c => c.f0 == x)
def seenM (L : List S28) (x : Int) : Int := maxs ((ofM L x).map (·.f3))
def lookM (L : List S28) (x : Int) : Int := maxs ((ofM L x).map (·.f4))
def brokM (L : List S28) (x : Int) : Int := maxs ((ofM L x).map (·.f5))
def lastM (L : List S28) (x : Int) : Int := maxs ((ofM L x).map (·.f1))
def seqsM (L : List S28) (x : Int) : List Int := (ofM L x).map (·.f1)
def missM (L : List S28) (x : Int) : Int := lastM L x - ((nub (seqsM L x)).length : Int)
def macs (L : List S28) : List Int := nub (L.map (·.f0))
def gathR (L : List S28) (p : Int) : Int × Int × Int × Int × Int × Int := (p, ((macs L).length : Int), sm (macs L) (seenM L), sm (macs L) (lookM L), sm (macs L) (brokM L), sm (macs L) (missM L))
/-- What Right says of a report. -/
def okR (k : Nat) (keys : List Int) (c : S28) : Option Int := field_Right.f k keys c.f0 c.f1 c.f2 c.f3 c.f4 c.f5 c.f6
def accR (k : Nat) (keys : List Int) (p : Int) (c : S28) : Bool := c.f2 == p && okR k keys c == some 0
def field_Gather.f (k : Nat) (l0 : List Int) (l1 : List S28) (a2 : Int) : Option (Int × Int × Int × Int × Int × Int) :=
 if l0.length ≤ 1000000 ∧ l1.length ≤ 1000 ∧ (l1.all fun c => c.f2 != a2 || (okR k l0 c).isSome) = true then some (gathR (l1.filter (accR k l0 a2)) a2) else none
/-- What is accepted is in bounds. -/
def okB (c : S28) : Prop := 0 ≤ c.f0 ∧ 1 ≤ c.f1 ∧ c.f1 ≤ 1073741824 ∧ 0 ≤ c.f5 ∧ c.f5 ≤ c.f4 ∧ c.f4 ≤ c.f3 ∧ c.f3 ≤ 1099511627776
theorem right_bounds {k : Nat} {keys : List Int} {c : S28} (h : okR k keys c = some 0) : okB c ∧ c.f0 < keys.length := by
 unfold okR field_Right.f at h
 have j1 : ∀ k b, field_Right.j1 k keys b c.f0 c.f1 c.f2 c.f3 c.f4 c.f5 c.f6 = some 0 → b = false ∧ 0 ≤ c.f5 ∧ c.f5 ≤ c.f4 ∧ c.f4 ≤ c.f3 ∧ c.f3 ≤ 1099511627776 ∧ 0 ≤ c.f0 := by
  intro k b h
  have j2 : ∀ k b, field_Right.j2 k keys b c.f0 c.f1 c.f2 c.f3 c.f4 c.f5 c.f6 = some 0 → b = false ∧ 0 ≤ c.f0 := by
   intro k b h
   cases k with
   | zero => simp [field_Right.j2] at h
   | succ k =>
    simp only [field_Right.j2] at h
    by_cases h0 : b = true
    ·rw [if_pos h0] at h; simp at h
    ·rw [if_neg h0] at h
     by_cases h1 : 0 ≤ c.f0
     ·exact ⟨by simpa using h0, h1⟩
     ·rw [if_neg h1] at h; cases h
  cases k with
  | zero => simp [field_Right.j1] at h
  | succ k =>
   simp only [field_Right.j1] at h
   by_cases h0 : b = true
   ·rw [if_pos h0] at h; simp at h
   rw [if_neg h0] at h
   by_cases h1 : c.f5 < 0
   ·rw [if_pos h1] at h; exact absurd (j2 _ _ h).1 (by simp)
   rw [if_neg h1] at h
   by_cases h2 : c.f4 < c.f5
   ·rw [if_pos h2] at h; exact absurd (j2 _ _ h).1 (by simp)
   rw [if_neg h2] at h
   by_cases h3 : c.f3 < c.f4
   ·rw [if_pos h3] at h; exact absurd (j2 _ _ h).1 (by simp)
   rw [if_neg h3] at h
   have := j2 _ _ h
   have h4 : ¬ c.f3 > 1099511627776 := of_decide_eq_false this.1
   exact ⟨by simpa using h0, by omega, by omega, by omega, by omega, this.2⟩
 have j0 : ∀ k b, field_Right.j0 k keys b c.f0 c.f1 c.f2 c.f3 c.f4 c.f5 c.f6 = some 0 → b = false ∧ okB c := by
  intro k b h
  cases k with
  | zero => simp [field_Right.j0] at h
  | succ k =>
   simp only [field_Right.j0] at h
   by_cases h0 : b = true
   ·rw [if_pos h0] at h; exact absurd ((j1 _ _ h).1.symm.trans h0) (by simp)
   rw [if_neg h0] at h
   by_cases h1 : c.f1 < 1
   ·rw [if_pos h1] at h; exact absurd (j1 _ _ h).1 (by simp)
   rw [if_neg h1] at h
   have := j1 _ _ h
   have h4 : ¬ c.f1 > 1073741824 := of_decide_eq_false this.1
   exact ⟨by simpa using h0, this.2.2.2.2.2, by omega, by omega, this.2.1, this.2.2.1, this.2.2.2.1, this.2.2.2.2.1⟩
 by_cases h0 : c.f0 < 0
 ·rw [if_pos h0] at h; exact absurd (j0 _ _ h).1 (by simp)
 rw [if_neg h0] at h
 have := j0 _ _ h
 have h4 : ¬ c.f0 ≥ (keys.length : Int) := of_decide_eq_false this.1
 exact ⟨this.2, by omega⟩
theorem acc_bounds {k : Nat} {keys : List Int} {p : Int} {c : S28} (h : accR k keys p c = true) : okB c ∧ c.f0 < keys.length := by
 unfold accR at h
 simp only [Bool.and_eq_true, beq_iff_eq] at h
 exact right_bounds h.2
theorem ofM_snoc (L : List S28) (c : S28) (x : Int) : ofM (L ++ [c]) x = if c.f0 = x then ofM L x ++ [c] else ofM L x := by
 unfold ofM
 rw [List.filter_append]
 by_cases h : c.f0 = x <;> simp [h]
theorem seenM_snoc (L : List S28) (c : S28) (x : Int) : seenM (L ++ [c]) x = if c.f0 = x then max (seenM L x) c.f3 else seenM L x := by
 unfold seenM; rw [ofM_snoc]; split <;> simp [maxs_snoc]
theorem lookM_snoc (L : List S28) (c : S28) (x : Int) : lookM (L ++ [c]) x = if c.f0 = x then max (lookM L x) c.f4 else lookM L x := by
 unfold lookM; rw [ofM_snoc]; split <;> simp [maxs_snoc]
theorem brokM_snoc (L : List S28) (c : S28) (x : Int) : brokM (L ++ [c]) x = if c.f0 = x then max (brokM L x) c.f5 else brokM L x := by
 unfold brokM; rw [ofM_snoc]; split <;> simp [maxs_snoc]
theorem lastM_snoc (L : List S28) (c : S28) (x : Int) : lastM (L ++ [c]) x = if c.f0 = x then max (lastM L x) c.f1 else lastM L x := by
 unfold lastM; rw [ofM_snoc]; split <;> simp [maxs_snoc]
theorem seqsM_snoc (L : List S28) (c : S28) (x : Int) : seqsM (L ++ [c]) x = if c.f0 = x then seqsM L x ++ [c.f1] else seqsM L x := by
 unfold seqsM; rw [ofM_snoc]; split <;> simp
/-- How an element of the outer map reads: the number of its block. -/
def ptrE : Value → Option (DataW Nat × List MemPlace)
 | .pointer none => some (.lit (.bool false), [])
 | .pointer (some ⟨b, 0, none⟩) => some (.lit (.int .i64 b), [])
 | _ => none
theorem ptrE_nil : ptrE (.pointer none) = some (.lit (.bool false), []) := rfl
theorem ptrE_mk (b : Nat) : ptrE (.pointer (some ⟨b, 0, none⟩)) = some (.lit (.int .i64 b), []) := rfl
theorem ptrE_inv {v : Value} {b : Nat} {ps : List MemPlace} (h : ptrE v = some (.lit (.int .i64 (b : Int)), ps)) : v = .pointer (some ⟨b, 0, none⟩) := by
 unfold ptrE at h
 split at h
 ·simp at h
 ·simp only [Option.some.injEq, Prod.mk.injEq, DataW.lit.injEq, Lit.int.injEq, true_and] at h
  have := Int.ofNat_inj.1 h.1
  rw [this]
 ·cases h
theorem ptrE_shape {v : Value} {y : DataW Nat × List MemPlace} (h : ptrE v = some y) : (v = .pointer none) ∨ ∃ b, v = .pointer (some ⟨b, 0, none⟩) ∧ y.1 = .lit (.int .i64 (b : Int)) := by
 unfold ptrE at h
 split at h
 ·exact .inl rfl
 ·cases h; exact .inr ⟨_, rfl, rfl⟩
 ·cases h
theorem keyLit (x : Int) : WideAt.IsKeyLit (Lit.int .i64 x) := by simp [WideAt.IsKeyLit]
def zero40 : Obj := .cells #[.int .i64 0, .int .i64 0, .int .i64 0, .int .i64 0, .int .i64 0, .int .i64 0] 40 (0, 0)
def mac91 (a b c d : Int) (s : Nat) : Obj := .cells #[.int .i64 a, .int .i64 b, .int .i64 c, .int .i64 d, .map (some s)] 91 (0, 0)
def setE (l : List Int) : DataW Nat := Maps.setOf (.lit (.bool true)) (l.map (Lit.int .i64))
/-- The memory under way: K the machines that have a struct, L the reports taken in so far, n a bound on the maps' sizes. -/
structure GI (w wr : World) (D : DataW Nat) (B S : Int → Nat) (K : List Int) (L : List S28) (n : Nat) : Prop where
 below : Below w.heap.size w wr
 box : wr.heap[w.heap.size]? = some zero40
 map : wr.ownsMap Try.prog 3 ptrE (w.heap.size + 1) n D
 has : ∀ x, Maps.has D (.int .i64 x) = decide (x ∈ K)
 at_ : ∀ x ∈ K, ∀ z, D.atKey (.int .i64 x) z = .lit (.int .i64 (B x))
 size : Maps.size D = K.length
 sub : ∀ c ∈ L, c.f0 ∈ K
 mac : ∀ x ∈ K, wr.heap[B x]? = some (mac91 (seenM L x) (lookM L x) (brokM L x) (lastM L x) (S x))
 set_ : ∀ x ∈ K, wr.ownsMap Try.prog 3 (plainElem Try.prog 4) (S x) n (setE (seqsM L x))
 newB : ∀ x ∈ K, w.heap.size + 1 < B x
 newS : ∀ x ∈ K, w.heap.size + 1 < S x
 injB : ∀ x ∈ K, ∀ y ∈ K, B x = B y → x = y
 injS : ∀ x ∈ K, ∀ y ∈ K, S x = S y → x = y
variable {w wr : World} {D : DataW Nat} {B S : Int → Nat} {K : List Int} {L : List S28} {n : Nat}
theorem GI.size_le (h : GI w wr D B S K L n) : w.heap.size + 1 < wr.heap.size := h.map.lt
theorem GI.ltB (h : GI w wr D B S K L n) {x : Int} (hx : x ∈ K) : B x < wr.heap.size := (Array.getElem?_eq_some_iff.1 (h.mac x hx)).1
theorem GI.ltS (h : GI w wr D B S K L n) {x : Int} (hx : x ∈ K) : S x < wr.heap.size := (h.set_ x hx).lt
theorem GI.ne (h : GI w wr D B S K L n) {x y : Int} (hx : x ∈ K) (hy : y ∈ K) : B x ≠ S y := by
 intro e
 obtain ⟨es, cl, hb, _⟩ := h.set_ y hy
 have := h.mac x hx
 rw [e, hb] at this
 cases this
theorem GI.kept (h : GI w wr D B S K L n) {wr' : World} (hg : wr.grownBy wr' none) : GI w wr' D B S K L n :=
 have hs := h.size_le
 have hk : ∀ i, i < wr.heap.size → wr'.heap[i]? = wr.heap[i]? := fun i hi => hg.block i hi (by simp)
 ⟨h.below.grown hg (by omega) (by simp), (hk _ (by omega)).trans h.box, h.map.kept hg (by simp), h.has, h.at_, h.size, h.sub, fun x hx => (hk _ (h.ltB hx)).trans (h.mac x hx), fun x hx => (h.set_ x hx).kept hg (by simp), h.newB, h.newS, h.injB, h.injS⟩
theorem GI.more (h : GI w wr D B S K L n) {m : Nat} (hm : n ≤ m) : GI w wr D B S K L m :=
 ⟨h.below, h.box, h.map.mono hm, h.has, h.at_, h.size, h.sub, h.mac, fun x hx => (h.set_ x hx).mono hm, h.newB, h.newS, h.injB, h.injS⟩
theorem GI.start (w : World) : GI w ((w.alloc zero40).alloc (.map #[] 0)) (.map []) (fun _ => 0) (fun _ => 0) [] [] 0 := by
 have e : (w.alloc zero40).heap.size = w.heap.size + 1 := World.size_alloc _ _
 have hm := World.ownsMap_made (H := Nat) (w.alloc zero40) Try.prog 3 ptrE
 rw [e] at hm
 exact ⟨((Below.refl _ w).alloc (Nat.le_refl _) _).alloc (by omega) _, (Below.heap_alloc _ _ _ (by omega)).trans (blk_new w zero40), hm, fun x => by simp [Maps.has], by simp, rfl, by simp, by simp, by simp, by simp, by simp, by simp, by simp⟩
end Go.Proofs.Ytfdoncgljohndaa.P
namespace Go.Proofs.Ytfdoncgljohndaa.P
open Go.RowKit Go.Fld Go.Maps Go.Proofs.YtfdoncgljohndaaW.PrintWords Go.Proofs.YtfdoncgljohndaaW.PrintLast Go.Proofs.YtfdoncgljohndaaW.PrintMore
variable {w wr : World} {D : DataW Nat} {B S : Int → Nat} {K : List Int} {L : List S28} {n : Nat}
theorem lit_ne {x y : Int} (h : y ≠ x) : Lit.int .i64 y ≠ Lit.int .i64 x := fun e => h (by injection e)
theorem ofM_nil {x : Int} (hx : ∀ c ∈ L, c.f0 ≠ x) : ofM L x = [] := by
 unfold ofM
 rw [List.filter_eq_nil_iff]
 intro c hc
 have := hx c hc
 simpa using this
/-- A new machine: its set, its struct, its entry. -/
theorem GI.add (h : GI w wr D B S K L n) {x : Int} (hx : x ∉ K) {w3 : World}
  (hm : w3.ownsMap Try.prog 3 ptrE (w.heap.size + 1) (n + 1) (D.put (.int .i64 x) (.lit (.int .i64 ((wr.heap.size + 1 : Nat) : Int)))))
  (hg : ((wr.alloc (.map #[] 0)).alloc (mac91 0 0 0 0 wr.heap.size)).grownBy w3 (some (w.heap.size + 1))) :
  GI w w3 (D.put (.int .i64 x) (.lit (.int .i64 ((wr.heap.size + 1 : Nat) : Int)))) (fun y => if y = x then wr.heap.size + 1 else B y) (fun y => if y = x then wr.heap.size else S y) (K ++ [x]) L (n + 1) := by
 have hs := h.size_le
 have s1 : (wr.alloc (.map #[] 0)).heap.size = wr.heap.size + 1 := World.size_alloc _ _
 have s2 : ((wr.alloc (.map #[] 0)).alloc (mac91 0 0 0 0 wr.heap.size)).heap.size = wr.heap.size + 1 + 1 := by rw [World.size_alloc, s1]
 have hg0 : wr.grownBy ((wr.alloc (.map #[] 0)).alloc (mac91 0 0 0 0 wr.heap.size)) none := (World.grownBy_alloc _ _ _).trans (World.grownBy_alloc _ _ _)
 have h2 := h.kept hg0
 have hk : ∀ i, i < wr.heap.size + 1 + 1 → i ≠ w.heap.size + 1 → w3.heap[i]? = ((wr.alloc (.map #[] 0)).alloc (mac91 0 0 0 0 wr.heap.size)).heap[i]? := fun i hi hne => hg.block i (by omega) (by simpa using hne)
 have hmade := World.ownsMap_made (H := Nat) wr Try.prog 3 (plainElem Try.prog 4)
 have hnil : ∀ c ∈ L, c.f0 ≠ x := fun c hc e => hx (e ▸ h.sub c hc)
 have e0 := ofM_nil hnil
 have hlt : ∀ y ∈ K, B y < wr.heap.size := fun y hy => h.ltB hy
 have hltS : ∀ y ∈ K, S y < wr.heap.size := fun y hy => h.ltS hy
 have mem : ∀ y, y ∈ K ++ [x] → y = x ∨ (y ∈ K ∧ y ≠ x) := fun y hy => by
  by_cases e : y = x
  ·exact .inl e
  ·refine .inr ⟨?_, e⟩
   simpa [e] using hy
 have hh : Maps.has D (.int .i64 x) = false := by rw [h.has]; simpa using hx
 refine ⟨h2.below.grown hg (by omega) (fun k hk => by cases hk; omega), (hk _ (by omega) (by omega)).trans h2.box, hm, ?_, ?_, ?_, ?_, ?_, ?_, ?_, ?_, ?_, ?_⟩
 ·intro y
  by_cases e : y = x
  ·subst e
   rw [Maps.has_put_same h.map.isMap (keyLit _)]
   simp
  ·rw [Maps.has_put_other (lit_ne e), h.has]
   simp [e]
 ·intro y hy z
  rcases mem y hy with rfl | ⟨hy, e⟩
  ·rw [Maps.atKey_put_same h.map.isMap (keyLit _)]
   simp
  ·rw [Maps.atKey_put_other (lit_ne e), h.at_ y hy]
   simp [e]
 ·rw [Maps.size_put (h.map.tidy (int_keyed Try.underlying3)), hh, h.size]
  simp
 ·intro c hc
  exact List.mem_append_left _ (h.sub c hc)
 ·intro y hy
  rcases mem y hy with rfl | ⟨hy, e⟩
  ·rw [hk _ (by simp) (by simp; omega)]
   simp only [if_true]
   unfold seenM lookM brokM lastM
   rw [e0]
   have := blk_new (wr.alloc (.map #[] 0)) (mac91 0 0 0 0 wr.heap.size)
   rw [s1] at this
   exact this
  ·simp only [if_neg e]
   have := hlt y hy
   have := h.newB y hy
   rw [hk _ (by omega) (by omega)]
   exact h2.mac y hy
 ·intro y hy
  rcases mem y hy with rfl | ⟨hy, e⟩
  ·simp only [if_true]
   unfold seqsM
   rw [e0]
   exact (((hmade.alloc _).kept hg (by simp; omega)).mono (Nat.zero_le _))
  ·simp only [if_neg e]
   have := h.newS y hy
   exact ((h2.set_ y hy).kept hg (by simp; omega)).mono (Nat.le_succ _)
 ·intro y hy
  rcases mem y hy with rfl | ⟨hy, e⟩
  ·simp; omega
  ·simp only [if_neg e]; exact h.newB y hy
 ·intro y hy
  rcases mem y hy with rfl | ⟨hy, e⟩
  ·simp; omega
  ·simp only [if_neg e]; exact h.newS y hy
 ·intro y hy z hz
  rcases mem y hy with rfl | ⟨hy1, e⟩ <;> rcases mem z hz with rfl | ⟨hz1, e'⟩
  ·intro _; rfl
  ·have := hlt z hz1; simp only [if_true, if_neg e']; omega
  ·have := hlt y hy1; simp only [if_true, if_neg e]; omega
  ·simp only [if_neg e, if_neg e']; exact h.injB y hy1 z hz1
 ·intro y hy z hz
  rcases mem y hy with rfl | ⟨hy1, e⟩ <;> rcases mem z hz with rfl | ⟨hz1, e'⟩
  ·intro _; rfl
  ·have := hltS z hz1; simp only [if_true, if_neg e']; omega
  ·have := hltS y hy1; simp only [if_true, if_neg e]; omega
  ·simp only [if_neg e, if_neg e']; exact h.injS y hy1 z hz1
/-- A report is taken in: its number is put into the set; the struct's numbers grow. -/
theorem GI.upd (h : GI w wr D B S K L n) (c : S28) (hx : c.f0 ∈ K) {w3 w4 : World}
  (hm : w3.ownsMap Try.prog 3 (plainElem Try.prog 4) (S c.f0) (n + 1) ((setE (seqsM L c.f0)).put (.int .i64 c.f1) (.lit (.bool true))))
  (hg : wr.grownBy w3 (some (S c.f0))) (hg4 : w3.grownBy w4 (some (B c.f0)))
  (h4 : w4.heap[B c.f0]? = some (mac91 (max (seenM L c.f0) c.f3) (max (lookM L c.f0) c.f4) (max (brokM L c.f0) c.f5) (max (lastM L c.f0) c.f1) (S c.f0))) :
  GI w w4 D B S K (L ++ [c]) (n + 1) := by
 have hs := h.size_le
 have nS := h.newS _ hx
 have nB := h.newB _ hx
 have hk : ∀ i, i < wr.heap.size → i ≠ S c.f0 → i ≠ B c.f0 → w4.heap[i]? = wr.heap[i]? := fun i hi h1 h2 =>
  (hg4.block i (by have := hg.size; omega) (by simpa using h2)).trans (hg.block i hi (by simpa using h1))
 refine ⟨(h.below.grown hg (by omega) (fun k hk => by cases hk; omega)).grown hg4 (by have := hg.size; omega) (fun k hk => by cases hk; omega), (hk _ (by omega) (by omega) (by omega)).trans h.box,
  ((h.map.kept hg (by simp; omega)).kept hg4 (by simp; omega)).mono (Nat.le_succ _), h.has, h.at_, h.size, ?_, ?_, ?_, h.newB, h.newS, h.injB, h.injS⟩
 ·intro d hd
  rcases List.mem_append.1 hd with hd | hd
  ·exact h.sub d hd
  ·rw [List.mem_singleton.1 hd]; exact hx
 ·intro y hy
  rw [seenM_snoc, lookM_snoc, brokM_snoc, lastM_snoc]
  by_cases e : c.f0 = y
  ·subst e
   simp only [if_true]
   exact h4
  ·simp only [if_neg e]
   rw [hk _ (h.ltB hy) (h.ne hy hx) (fun e' => e (h.injB y hy _ hx e').symm)]
   exact h.mac y hy
 ·intro y hy
  rw [seqsM_snoc]
  by_cases e : c.f0 = y
  ·subst e
   simp only [if_true]
   have : setE (seqsM L c.f0 ++ [c.f1]) = (setE (seqsM L c.f0)).put (.int .i64 c.f1) (.lit (.bool true)) := by
    unfold setE
    rw [List.map_append]
    exact Maps.setOf_snoc _ _ _
   rw [this]
   exact hm.kept hg4 (fun e' => h.ne hx hx (by injection e' with e'; exact e'.symm))
  ·simp only [if_neg e]
   exact (((h.set_ y hy).kept hg (fun e' => e (h.injS y hy _ hx (by injection e')).symm)).kept hg4 (fun e' => h.ne hx hy (by injection e' with e'; exact e'.symm))).mono (Nat.le_succ _)
/-- The set's size. -/
theorem size_setE (l : List Int) : Maps.size (setE l) = (nub l).length := by
 unfold setE
 rw [Maps.size_setOf _ _ (fun x hx => by obtain ⟨y, _, rfl⟩ := List.mem_map.1 hx; exact keyLit y), addKeys_nub, List.length_map]
/-- What the look-up in the outer map gives. -/
theorem lookup_old {ops : Array Oper} {rest : List Oper} {o : Oper} {a : Act} {Q : Exit → Act → World → Prop}
  (h : GI w wr D B S K L n) (hg : o.guard = none) (m x : Operand) (hop : o.op = Op.lookup 86 m x true) (hm : a.eval m = .map (some (w.heap.size + 1))) (k : Int) (hk : (Lit.int .i64 k).wf = true) (hx : a.eval x = .int .i64 k) (hmem : k ∈ K)
  (hK : wpList Try.prog ops Q rest (a.put o.dst (.tuple #[.pointer (some ⟨B k, 0, none⟩), .bool true])) wr) : wpList Try.prog ops Q (o :: rest) a wr := by
 refine wpList_lookup_own_ok wr hg m x 86 hop 3 87 (int_keyed Try.underlying3) Try.underlying86 ptrE (z := .pointer none) (by kernel_rfl) (.lit (.bool false)) [] ptrE_nil (w.heap.size + 1) n D hm h.map (.int .i64 k) (.int .i64 k) hx (keyOf_int_mk Try.underlying3 hk) ?_
 intro v ps hv
 rw [h.at_ k hmem] at hv
 rw [ptrE_inv hv, h.has, decide_eq_true hmem]
 exact hK
theorem lookup_new {ops : Array Oper} {rest : List Oper} {o : Oper} {a : Act} {Q : Exit → Act → World → Prop}
  (h : GI w wr D B S K L n) (hg : o.guard = none) (m x : Operand) (hop : o.op = Op.lookup 86 m x true) (hm : a.eval m = .map (some (w.heap.size + 1))) (k : Int) (hk : (Lit.int .i64 k).wf = true) (hx : a.eval x = .int .i64 k) (hmem : k ∉ K)
  (hK : wpList Try.prog ops Q rest (a.put o.dst (.tuple #[.pointer none, .bool false])) wr) : wpList Try.prog ops Q (o :: rest) a wr := by
 have hh : Maps.has D (.int .i64 k) = false := by rw [h.has]; simpa using hmem
 refine wpList_lookup_own_ok wr hg m x 86 hop 3 87 (int_keyed Try.underlying3) Try.underlying86 ptrE (z := .pointer none) (by kernel_rfl) (.lit (.bool false)) [] ptrE_nil (w.heap.size + 1) n D hm h.map (.int .i64 k) (.int .i64 k) hx (keyOf_int_mk Try.underlying3 hk) ?_
 intro v ps hv
 rw [Maps.atKey_of_not_has hh] at hv
 rw [hh]
 rcases ptrE_shape hv with rfl | ⟨b, rfl, e⟩
 ·exact hK
 ·cases e
/-- The new machine's entry is stored. -/
theorem store_new {ops : Array Oper} {rest : List Oper} {o : Oper} {a : Act} {Q : Exit → Act → World → Prop}
  (h : GI w wr D B S K L n) (hn : n < 100000) (hg : o.guard = none) (m x v : Operand) (hop : o.op = Op.mapUpdate 86 m x v) (hm : a.eval m = .map (some (w.heap.size + 1))) (k : Int) (hk : (Lit.int .i64 k).wf = true) (hx : a.eval x = .int .i64 k)
  (hv : a.eval v = .pointer (some ⟨wr.heap.size + 1, 0, none⟩)) (hmem : k ∉ K)
  (hK : ∀ w3 D' B' S', GI w w3 D' B' S' (K ++ [k]) L (n + 1) → B' k = wr.heap.size + 1 → ((wr.alloc (.map #[] 0)).alloc (mac91 0 0 0 0 wr.heap.size)).grownBy w3 (some (w.heap.size + 1)) → wpList Try.prog ops Q rest (a.put o.dst undef) w3) :
  wpList Try.prog ops Q (o :: rest) a ((wr.alloc (.map #[] 0)).alloc (mac91 0 0 0 0 wr.heap.size)) := by
 have hg0 : wr.grownBy ((wr.alloc (.map #[] 0)).alloc (mac91 0 0 0 0 wr.heap.size)) none := (World.grownBy_alloc _ _ _).trans (World.grownBy_alloc _ _ _)
 refine wpList_mapUpdate_own _ hg m x v 86 hop 3 87 (int_keyed Try.underlying3) Try.underlying86 ptrE (w.heap.size + 1) n D hm (h.kept hg0).map (by unfold maxLen; omega) (.int .i64 k) _ (.int .i64 k) hx hv (keyOf_int_mk Try.underlying3 hk) _ _ (ptrE_mk _) ?_
 intro w3 hm3 hg3
 exact hK w3 _ _ _ (h.add hmem hm3 hg3) (by simp) hg3
/-- A report's number is put into its machine's set. -/
theorem store_seq {ops : Array Oper} {rest : List Oper} {o : Oper} {a : Act} {Q : Exit → Act → World → Prop}
  (h : GI w wr D B S K L n) (hn : n < 100000) (hg : o.guard = none) (m x v : Operand) (hop : o.op = Op.mapUpdate 89 m x v) (k : Int) (hmem : k ∈ K) (hm : a.eval m = .map (some (S k))) (q : Int) (hq : (Lit.int .i64 q).wf = true) (hx : a.eval x = .int .i64 q) (hv : a.eval v = .bool true)
  (hK : ∀ w3, w3.ownsMap Try.prog 3 (plainElem Try.prog 4) (S k) (n + 1) ((setE (seqsM L k)).put (.int .i64 q) (.lit (.bool true))) → wr.grownBy w3 (some (S k)) → wpList Try.prog ops Q rest (a.put o.dst undef) w3) :
  wpList Try.prog ops Q (o :: rest) a wr :=
 wpList_mapUpdate_own _ hg m x v 89 hop 3 4 (int_keyed Try.underlying3) Try.underlying89 (plainElem Try.prog 4) (S k) n _ hm (h.set_ k hmem) (by unfold maxLen; omega) (.int .i64 q) _ (.int .i64 q) hx hv (keyOf_int_mk Try.underlying3 hq) _ _ (plainElem_bool Try.underlying4 true) hK
theorem GI.drew (h : GI w wr D B S K L n) : GI w wr.drew D B S K L n := h.kept ⟨rfl, rfl, rfl, Nat.le_refl _, fun _ _ _ => rfl⟩
end Go.Proofs.Ytfdoncgljohndaa.P
namespace Go.Proofs.Ytfdoncgljohndaa.P
open Go.RowKit Go.Fld Go.Maps Go.Proofs.YtfdoncgljohndaaW.PrintWords Go.Proofs.YtfdoncgljohndaaW.PrintLast Go.Proofs.YtfdoncgljohndaaW.PrintMore
attribute [local go_sem] max2_int min2_int max_two min_two
def pairs95 (b : Nat) (c0 c1 c2 c3 : Int) : Obj := .cells #[.pointer (some ⟨b, 0, none⟩), .int .i64 c0, .pointer (some ⟨b, 1, none⟩), .int .i64 c1, .pointer (some ⟨b, 2, none⟩), .int .i64 c2, .pointer (some ⟨b, 3, none⟩), .int .i64 c3] 95 (0, 0)
def stepG (b : Nat) (a0 a1 a2 a3 c0 c1 c2 c3 : Int) (s : Nat) (i : Nat) : Obj := mac91 (if 0 < i then max a0 c0 else a0) (if 1 < i then max a1 c1 else a1) (if 2 < i then max a2 c2 else a2) (if 3 < i then max a3 c3 else a3) s
theorem mac_set0 {W : World} {b s : Nat} {a0 a1 a2 a3 : Int} (h : W.heap[b]? = some (mac91 a0 a1 a2 a3 s)) (x : Int) : (W.setCell ⟨b, 0, none⟩ (.int .i64 x)).heap[b]? = some (mac91 x a1 a2 a3 s) := blk_put h 0 _ rfl
theorem mac_set1 {W : World} {b s : Nat} {a0 a1 a2 a3 : Int} (h : W.heap[b]? = some (mac91 a0 a1 a2 a3 s)) (x : Int) : (W.setCell ⟨b, 1, none⟩ (.int .i64 x)).heap[b]? = some (mac91 a0 x a2 a3 s) := blk_put h 1 _ rfl
theorem mac_set2 {W : World} {b s : Nat} {a0 a1 a2 a3 : Int} (h : W.heap[b]? = some (mac91 a0 a1 a2 a3 s)) (x : Int) : (W.setCell ⟨b, 2, none⟩ (.int .i64 x)).heap[b]? = some (mac91 a0 a1 x a3 s) := blk_put h 2 _ rfl
theorem mac_set3 {W : World} {b s : Nat} {a0 a1 a2 a3 : Int} (h : W.heap[b]? = some (mac91 a0 a1 a2 a3 s)) (x : Int) : (W.setCell ⟨b, 3, none⟩ (.int .i64 x)).heap[b]? = some (mac91 a0 a1 a2 x s) := blk_put h 3 _ rfl
theorem grown_set {W W' : World} {b : Nat} (h : W.grownBy W' (some b)) (j : Nat) (x : Value) : W.grownBy (W'.setCell ⟨b, j, none⟩ x) (some b) :=
 ⟨h.os, h.tape, h.output, by simpa using h.size, fun k hk hne => (Below.heap_setCell W' ⟨b, j, none⟩ x k (by simpa using hne)).trans (h.block k hk hne)⟩
theorem max_if (a c : Int) : (if a < c then c else a) = max a c := by omega
theorem grown_alloc {W W' : World} {r : Option Nat} (h : W.grownBy W' r) (o : Obj) : W.grownBy (W'.alloc o) r := h.trans (World.grownBy_alloc _ _ _)
theorem grown_drew {W W' : World} {r : Option Nat} (h : W.grownBy W' r) : W.grownBy W'.drew r := ⟨h.os, h.tape, h.output, h.size, h.block⟩
set_option maxHeartbeats 2000000 in
set_option maxRecDepth 100000 in
theorem grow_any (g b s : Nat) (a0 a1 a2 a3 c0 c1 c2 c3 : Int) (w : World) (hrow : w.heap[g]? = some (pairs95 b c0 c1 c2 c3)) (hb : w.heap[b]? = some (mac91 a0 a1 a2 a3 s)) :
  Calls Try.prog 36 #[.slice (some ⟨g, 0, none⟩) 4 4] w fun e w' => e = .returned (.tuple #[]) ∧ w.grownBy w' (some b) ∧ w'.heap[b]? = some (mac91 (max a0 c0) (max a1 c1) (max a2 c2) (max a3 c3) s) := by
 have hu95 := Try.underlying95
 have HR := Aside0.mk hrow
 have HB := Aside0.mk hb
 have hgb : some g ≠ some b := by
  intro e
  injection e with e
  subst e
  rw [hrow] at hb
  have := (Option.some.inj hb)
  unfold pairs95 mac91 at this
  injection this with h1 h2
  exact absurd h2 (by decide)
 have HN := Aside0.mk hgb
 clear hrow hb hgb
 go_enter Try.func36, Try.ntmps36
 go_wp2
 go_loopw [6] (fun vi wr => ∃ i : Nat, vi = .int .i64 i ∧ i ≤ 4 ∧ Aside0 (w.grownBy wr (some b)) ∧ Aside0 (wr.heap[b]? = some (stepG b a0 a1 a2 a3 c0 c1 c2 c3 s i))) (fun vi wr => (4 - intOf vi).toNat)
 case atStart => exact ⟨0, rfl, by omega, ⟨World.grownBy.refl _ _⟩, ⟨HB.out⟩⟩
 case round =>
  obtain ⟨i, rfl, h1, HG, HS⟩ := hrel
  have bR := HG.out.block g (blk_lt HR.out) HN.out
  rw [HR.out] at bR
  obtain hi | hi | hi | hi | hi : i = 0 ∨ i = 1 ∨ i = 2 ∨ i = 3 ∨ i = 4 := by omega
  ·subst hi
   have bS : wr.heap[b]? = some (mac91 a0 a1 a2 a3 s) := HS.out
   have x0 : wr.cell? ⟨g, 0, none⟩ = some (.pointer (some ⟨b, 0, none⟩)) := (blk_cell bR 0).trans rfl
   have x1 : wr.cell? ⟨g, 1, none⟩ = some (.int .i64 c0) := (blk_cell bR 1).trans rfl
   have BS := Aside0.mk bS
   have bN := blk_new wr (.cells #[.pointer (some ⟨b, 0, none⟩), .int .i64 c0] 95)
   have bA := blk_alloc bS (.cells #[.pointer (some ⟨b, 0, none⟩), .int .i64 c0] 95)
   have n0 : (wr.alloc (.cells #[.pointer (some ⟨b, 0, none⟩), .int .i64 c0] 95)).cell? ⟨wr.heap.size, 0, none⟩ = some (.pointer (some ⟨b, 0, none⟩)) := (blk_cell bN 0).trans rfl
   have n1 : (wr.alloc (.cells #[.pointer (some ⟨b, 0, none⟩), .int .i64 c0] 95)).cell? ⟨wr.heap.size, 1, none⟩ = some (.int .i64 c0) := (blk_cell bN 1).trans rfl
   have y0 : (wr.alloc (.cells #[.pointer (some ⟨b, 0, none⟩), .int .i64 c0] 95)).cell? ⟨b, 0, none⟩ = some (.int .i64 a0) := (blk_cell bA 0).trans rfl
   have fy : (wr.alloc (.cells #[.pointer (some ⟨b, 0, none⟩), .int .i64 c0] 95)).frozen? ⟨b, 0, none⟩ = false := blk_frozen bA 0
   have BA := Aside0.mk bA
   clear bS bR bN bA
   go_wp2
   go_region
   go_wp2
   go_roundw
   case rel => exact ⟨1, rfl, by omega, ⟨by first | exact grown_drew (grown_set (grown_alloc HG.out _) 0 _) | exact grown_set (grown_drew (grown_alloc HG.out _)) 0 _⟩, ⟨blk_drew (by rw [max_if]; exact mac_set0 BA.out _)⟩⟩
   case measure => simp [intOf]
  ·subst hi
   have bS : wr.heap[b]? = some (mac91 (max a0 c0) a1 a2 a3 s) := HS.out
   have x0 : wr.cell? ⟨g, 2, none⟩ = some (.pointer (some ⟨b, 1, none⟩)) := (blk_cell bR 2).trans rfl
   have x1 : wr.cell? ⟨g, 3, none⟩ = some (.int .i64 c1) := (blk_cell bR 3).trans rfl
   have BS := Aside0.mk bS
   have bN := blk_new wr (.cells #[.pointer (some ⟨b, 1, none⟩), .int .i64 c1] 95)
   have bA := blk_alloc bS (.cells #[.pointer (some ⟨b, 1, none⟩), .int .i64 c1] 95)
   have n0 : (wr.alloc (.cells #[.pointer (some ⟨b, 1, none⟩), .int .i64 c1] 95)).cell? ⟨wr.heap.size, 0, none⟩ = some (.pointer (some ⟨b, 1, none⟩)) := (blk_cell bN 0).trans rfl
   have n1 : (wr.alloc (.cells #[.pointer (some ⟨b, 1, none⟩), .int .i64 c1] 95)).cell? ⟨wr.heap.size, 1, none⟩ = some (.int .i64 c1) := (blk_cell bN 1).trans rfl
   have y0 : (wr.alloc (.cells #[.pointer (some ⟨b, 1, none⟩), .int .i64 c1] 95)).cell? ⟨b, 1, none⟩ = some (.int .i64 a1) := (blk_cell bA 1).trans rfl
   have fy : (wr.alloc (.cells #[.pointer (some ⟨b, 1, none⟩), .int .i64 c1] 95)).frozen? ⟨b, 1, none⟩ = false := blk_frozen bA 1
   have BA := Aside0.mk bA
   clear bS bR bN bA
   go_wp2
   go_region
   go_wp2
   go_roundw
   case rel => exact ⟨2, rfl, by omega, ⟨by first | exact grown_drew (grown_set (grown_alloc HG.out _) 1 _) | exact grown_set (grown_drew (grown_alloc HG.out _)) 1 _⟩, ⟨blk_drew (by rw [max_if]; exact mac_set1 BA.out _)⟩⟩
   case measure => simp [intOf]
  ·subst hi
   have bS : wr.heap[b]? = some (mac91 (max a0 c0) (max a1 c1) a2 a3 s) := HS.out
   have x0 : wr.cell? ⟨g, 4, none⟩ = some (.pointer (some ⟨b, 2, none⟩)) := (blk_cell bR 4).trans rfl
   have x1 : wr.cell? ⟨g, 5, none⟩ = some (.int .i64 c2) := (blk_cell bR 5).trans rfl
   have BS := Aside0.mk bS
   have bN := blk_new wr (.cells #[.pointer (some ⟨b, 2, none⟩), .int .i64 c2] 95)
   have bA := blk_alloc bS (.cells #[.pointer (some ⟨b, 2, none⟩), .int .i64 c2] 95)
   have n0 : (wr.alloc (.cells #[.pointer (some ⟨b, 2, none⟩), .int .i64 c2] 95)).cell? ⟨wr.heap.size, 0, none⟩ = some (.pointer (some ⟨b, 2, none⟩)) := (blk_cell bN 0).trans rfl
   have n1 : (wr.alloc (.cells #[.pointer (some ⟨b, 2, none⟩), .int .i64 c2] 95)).cell? ⟨wr.heap.size, 1, none⟩ = some (.int .i64 c2) := (blk_cell bN 1).trans rfl
   have y0 : (wr.alloc (.cells #[.pointer (some ⟨b, 2, none⟩), .int .i64 c2] 95)).cell? ⟨b, 2, none⟩ = some (.int .i64 a2) := (blk_cell bA 2).trans rfl
   have fy : (wr.alloc (.cells #[.pointer (some ⟨b, 2, none⟩), .int .i64 c2] 95)).frozen? ⟨b, 2, none⟩ = false := blk_frozen bA 2
   have BA := Aside0.mk bA
   clear bS bR bN bA
   go_wp2
   go_region
   go_wp2
   go_roundw
   case rel => exact ⟨3, rfl, by omega, ⟨by first | exact grown_drew (grown_set (grown_alloc HG.out _) 2 _) | exact grown_set (grown_drew (grown_alloc HG.out _)) 2 _⟩, ⟨blk_drew (by rw [max_if]; exact mac_set2 BA.out _)⟩⟩
   case measure => simp [intOf]
  ·subst hi
   have bS : wr.heap[b]? = some (mac91 (max a0 c0) (max a1 c1) (max a2 c2) a3 s) := HS.out
   have x0 : wr.cell? ⟨g, 6, none⟩ = some (.pointer (some ⟨b, 3, none⟩)) := (blk_cell bR 6).trans rfl
   have x1 : wr.cell? ⟨g, 7, none⟩ = some (.int .i64 c3) := (blk_cell bR 7).trans rfl
   have BS := Aside0.mk bS
   have bN := blk_new wr (.cells #[.pointer (some ⟨b, 3, none⟩), .int .i64 c3] 95)
   have bA := blk_alloc bS (.cells #[.pointer (some ⟨b, 3, none⟩), .int .i64 c3] 95)
   have n0 : (wr.alloc (.cells #[.pointer (some ⟨b, 3, none⟩), .int .i64 c3] 95)).cell? ⟨wr.heap.size, 0, none⟩ = some (.pointer (some ⟨b, 3, none⟩)) := (blk_cell bN 0).trans rfl
   have n1 : (wr.alloc (.cells #[.pointer (some ⟨b, 3, none⟩), .int .i64 c3] 95)).cell? ⟨wr.heap.size, 1, none⟩ = some (.int .i64 c3) := (blk_cell bN 1).trans rfl
   have y0 : (wr.alloc (.cells #[.pointer (some ⟨b, 3, none⟩), .int .i64 c3] 95)).cell? ⟨b, 3, none⟩ = some (.int .i64 a3) := (blk_cell bA 3).trans rfl
   have fy : (wr.alloc (.cells #[.pointer (some ⟨b, 3, none⟩), .int .i64 c3] 95)).frozen? ⟨b, 3, none⟩ = false := blk_frozen bA 3
   have BA := Aside0.mk bA
   clear bS bR bN bA
   go_wp2
   go_region
   go_wp2
   go_roundw
   case rel => exact ⟨4, rfl, by omega, ⟨by first | exact grown_drew (grown_set (grown_alloc HG.out _) 3 _) | exact grown_set (grown_drew (grown_alloc HG.out _)) 3 _⟩, ⟨blk_drew (by rw [max_if]; exact mac_set3 BA.out _)⟩⟩
   case measure => simp [intOf]
  ·subst hi
   clear bR
   go_wp2
   go_end0
   exact ⟨rfl, HG.out, HS.out⟩
end Go.Proofs.Ytfdoncgljohndaa.P
namespace Go.Proofs.Ytfdoncgljohndaa.P
open Go.RowKit Go.Fld Go.Maps Go.Proofs.YtfdoncgljohndaaW.PrintWords Go.Proofs.YtfdoncgljohndaaW.PrintLast Go.Proofs.YtfdoncgljohndaaW.PrintMore
theorem maxs_bd {l : List Int} {b : Int} (h0 : 0 ≤ b) (h : ∀ x ∈ l, x ≤ b) : 0 ≤ maxs l ∧ maxs l ≤ b := ⟨maxs_nonneg l, (maxs_le_iff l b).2 ⟨h0, h⟩⟩
theorem mem_ofM {L : List S28} {x : Int} {c : S28} (h : c ∈ ofM L x) : c ∈ L := (List.mem_filter.1 h).1
theorem seenM_bd {L : List S28} (hL : ∀ c ∈ L, okB c) (x : Int) : 0 ≤ seenM L x ∧ seenM L x ≤ 1099511627776 :=
 maxs_bd (by omega) fun y hy => by obtain ⟨c, hc, rfl⟩ := List.mem_map.1 hy; have := hL c (mem_ofM hc); unfold okB at this; omega
theorem lookM_bd {L : List S28} (hL : ∀ c ∈ L, okB c) (x : Int) : 0 ≤ lookM L x ∧ lookM L x ≤ 1099511627776 :=
 maxs_bd (by omega) fun y hy => by obtain ⟨c, hc, rfl⟩ := List.mem_map.1 hy; have := hL c (mem_ofM hc); unfold okB at this; omega
theorem brokM_bd {L : List S28} (hL : ∀ c ∈ L, okB c) (x : Int) : 0 ≤ brokM L x ∧ brokM L x ≤ 1099511627776 :=
 maxs_bd (by omega) fun y hy => by obtain ⟨c, hc, rfl⟩ := List.mem_map.1 hy; have := hL c (mem_ofM hc); unfold okB at this; omega
theorem lastM_bd {L : List S28} (hL : ∀ c ∈ L, okB c) (x : Int) : 0 ≤ lastM L x ∧ lastM L x ≤ 1073741824 :=
 maxs_bd (by omega) fun y hy => by obtain ⟨c, hc, rfl⟩ := List.mem_map.1 hy; have := hL c (mem_ofM hc); unfold okB at this; omega
theorem seqs_le (L : List S28) (x : Int) : (nub (seqsM L x)).length ≤ L.length := by
 refine Nat.le_trans (length_nub_le _) ?_
 unfold seqsM ofM
 rw [List.length_map]
 exact List.length_filter_le _ _
theorem missM_bd {L : List S28} (hL : ∀ c ∈ L, okB c) (hn : L.length ≤ 1000) (x : Int) : -1000 ≤ missM L x ∧ missM L x ≤ 1099511627776 := by
 have := lastM_bd hL x
 have := seqs_le L x
 unfold missM
 omega
/-- The sum over the machines that have come. -/
def smL (K : List Int) (left : Lit → Bool) (f : Int → Int) : Int := sm K (fun x => if left (.int .i64 x) = true then 0 else f x)
theorem smL_all {K : List Int} {left : Lit → Bool} {f : Int → Int} (h : ∀ x ∈ K, left (.int .i64 x) = true) : smL K left f = 0 := sm_zero fun x hx => by simp [h x hx]
theorem smL_none {K : List Int} {left : Lit → Bool} {f : Int → Int} (h : ∀ kl, left kl = false) : smL K left f = sm K f := sm_congr fun x hx => by simp [h]
theorem smL_step {K : List Int} (hK : K.Nodup) {left : Lit → Bool} (f : Int → Int) {x : Int} (hx : x ∈ K) (hl : left (.int .i64 x) = true) :
  smL K (fun z => left z && !z.sameKey (.int .i64 x)) f = smL K left f + f x := by
 unfold smL
 rw [sm_one hK hx _ (fun y => if left (.int .i64 y) = true then 0 else f y) (fun y hy hne => by
  have : (y == x) = false := beq_eq_false_iff_ne.2 hne
  simp only [sameKey_i64, this, Bool.not_false, Bool.and_true])]
 simp only [sameKey_i64, beq_self_eq_true, Bool.not_true, Bool.and_false, hl, if_true]
 simp
theorem sm_range {l : List Int} {f : Int → Int} (a b : Int) (ha : a ≤ 0) (hb : 0 ≤ b) (h : ∀ x ∈ l, a ≤ f x ∧ f x ≤ b) : l.length * a ≤ sm l f ∧ sm l f ≤ l.length * b := by
 induction l with
 | nil => simp [sm_nil]
 | cons x l ih =>
  rw [sm_cons]; have := h x (by simp); have := ih fun y hy => h y (by simp [hy])
  have e1 : ((x :: l).length : Int) * b = l.length * b + b := by simp [Int.add_mul]
  have e2 : ((x :: l).length : Int) * a = l.length * a + a := by simp [Int.add_mul]
  omega
theorem smL_range {K : List Int} (hn : K.length ≤ 1000) {left : Lit → Bool} {f : Int → Int} (h : ∀ x, -1000 ≤ f x ∧ f x ≤ 1099511627776) : -1000000 ≤ smL K left f ∧ smL K left f ≤ 1099511627776000 := by
 have := sm_range (l := K) (f := fun x => if left (.int .i64 x) = true then 0 else f x) (-1000) 1099511627776 (by omega) (by omega) (fun x _ => by
  have := h x
  by_cases c : left (.int .i64 x) = true
  ·simp only [if_pos c]; omega
  ·simp only [if_neg c]; omega)
 unfold smL
 have h1 : (K.length : Int) * -1000 ≥ -1000000 := by omega
 have h2 : (K.length : Int) * 1099511627776 ≤ 1099511627776000 := by omega
 omega
variable {w wr : World} {D : DataW Nat} {B S : Int → Nat} {K : List Int} {L : List S28} {n : Nat}
theorem lit_bool_ne {b : Nat} : ¬ ((DataW.lit (.bool false) : DataW Nat) = .lit (.int .i64 (b : Int))) := fun h => by injection h with h; injection h
theorem lit_nat_inj {a b : Nat} (h : (DataW.lit (.int .i64 (a : Int)) : DataW Nat) = .lit (.int .i64 (b : Int))) : a = b := by
 injection h with h
 injection h with _ h
 exact Int.ofNat_inj.1 h
def mkV : Option Nat → Value
 | none => .pointer none
 | some b => .pointer (some ⟨b, 0, none⟩)
/-- A step of the range over the machines. -/
theorem next_mac {W0 : World} (hG : GI w W0 D B S K L n) {ops : Array Oper} {rest : List Oper} {o : Oper} {a : Act} {Q : Exit → Act → World → Prop} (hg : o.guard = none) (it : Operand) (hop : o.op = Op.next it false) (r : Nat) (left : Lit → Bool) (cnt : Nat)
  (hit : a.eval it = .pointer (some ⟨r, 0, none⟩)) (h : wr.ranges Try.prog 3 ptrE (w.heap.size + 1) r n D left cnt)
  (hDone : (∀ kl, left kl = false) → wpList Try.prog ops Q rest (a.put o.dst (.tuple #[.bool false])) wr)
  (hMore : ∀ (x : Int) (w' : World) (cnt' : Nat), x ∈ K → left (.int .i64 x) = true → w'.ranges Try.prog 3 ptrE (w.heap.size + 1) r n D (fun z => left z && !z.sameKey (.int .i64 x)) cnt' → cnt' < cnt →
   wr.grownBy w' (some r) → (Instr.entry (.pointer (some ⟨r, 0, none⟩))).run Try.prog w' = .ok (.tuple #[.int .i64 x, .pointer (some ⟨B x, 0, none⟩)]) w' → wpList Try.prog ops Q rest (a.put o.dst (.tuple #[.bool true, .int .i64 x, .pointer (some ⟨B x, 0, none⟩)])) w') :
  wpList Try.prog ops Q (o :: rest) a wr := by
 refine wpList_next_ranges wr hg it hop 3 (int_keyed Try.underlying3) ptrE (Value.int .i64) mkV (fun key kl hkey => by obtain ⟨x, rfl, _⟩ := Maps.keyOf_int_inv Try.underlying3 hkey; exact ⟨x, rfl⟩)
  (fun v y hv => by
   rcases ptrE_shape hv with rfl | ⟨b, rfl, _⟩
   ·exact ⟨none, rfl⟩
   ·exact ⟨some b, rfl⟩) (w.heap.size + 1) r n D left cnt hit h (fun _ hl => hDone hl) ?_
 intro x c kl y w' cnt' hkey hlk hv hat hrg hlt hgr hsz hen
 obtain ⟨x', ex, rfl, hwx⟩ := Maps.keyOf_int_inv Try.underlying3 hkey
 cases ex
 have hh : Maps.has D (.int .i64 x) = true := has_true_of_atKey hat
 rw [hG.has] at hh
 have hx : x ∈ K := of_decide_eq_true hh
 have e1 : y.1 = .lit (.int .i64 (B x)) := (hat (.map [])).symm.trans (hG.at_ x hx _)
 have ec : c = some (B x) := by
  cases c with
  | none =>
   exact absurd ((congrArg Prod.fst (Option.some.inj hv) : (DataW.lit (.bool false) : DataW Nat) = y.1).trans e1) lit_bool_ne
  | some b =>
   rw [lit_nat_inj ((congrArg Prod.fst (Option.some.inj hv) : (DataW.lit (.int .i64 (b : Int)) : DataW Nat) = y.1).trans e1)]
 subst ec
 exact hMore x w' cnt' hx hlk hrg hlt hgr hen
end Go.Proofs.Ytfdoncgljohndaa.P

/- A part of the claim PriceSettles: lemmas, printed functions with their contracts, plain laws. -/
import Derived.Test.YtohnkcmbogcfhaacPriceSettles7
set_option linter.unusedVariables false
set_option linter.unusedSimpArgs false
namespace Go.Proofs.Ytohnkcmbogcfhaa.P
open Go.Proofs.YtohnkcmbogcfhaaH Go.RowKit Go.Proofs.YtohnkcmbogcfhaaW.PrintWords Go.Proofs.YtohnkcmbogcfhaaW.PrintLast Go.Proofs.YtohnkcmbogcfhaaW.PrintMore
attribute [local go_sem] max2_int min2_int max_two min_two max_three min_three max_four min_four   -- for this text's walks alone
attribute [local go_sem] Go.Proofs.YtohnkcmbogcfhaaH.cell_set_map
attribute [local go_sem high] eqA35 eqA60
def parolelaw42_PriceSettles.l0 : Nat → Bool → Int → Int → Int → List (S60) → Int → Int → Int → List (S60) → Int → Int → Int → Option (Bool)
 | 0, _, _, _, _, _, _, _, _, _, _, _, _ => none
 | k + 1, x7, x9, x10, x13, x118000, x118001, x118002, x118003, x128000, x128001, x128002, x128003 => if x13 < 4 then (if 0 ≤ x13 then (if x13 < (x128000.length : Int) then (if ((rd_T60 x128000 x13).f0) = x13 then (if ((rd_T60 x128000 x13).f1.f0) < 0 then (some false) else (if x13 = x9 then (parolelaw42_PriceSettles.l0 k x7 x9 x10 (wrap64 (x13 + 1)) x118000 x118001 x118002 x118003 x128000 x128001 x128002 x128003) else (if x13 = x10 then (parolelaw42_PriceSettles.l0 k x7 x9 x10 (wrap64 (x13 + 1)) x118000 x118001 x118002 x118003 x128000 x128001 x128002 x128003) else (if x13 < (x118000.length : Int) then (if (!(((rd_T60 x128000 x13).f0) == ((rd_T60 x118000 x13).f0)) || ((!(((rd_T60 x128000 x13).f1.f0) == ((rd_T60 x118000 x13).f1.f0)) || (!(((rd_T60 x128000 x13).f1.f1) == ((rd_T60 x118000 x13).f1.f1)))))) = true then (some false) else (parolelaw42_PriceSettles.l0 k x7 x9 x10 (wrap64 (x13 + 1)) x118000 x118001 x118002 x118003 x128000 x128001 x128002 x128003)) else (none))))) else (some false)) else (none)) else (none)) else ((parolelaw42_total.f k x118000).bind fun bt135 => ((parolelaw42_total.f k x128000).bind fun bt138 => ((parolelaw42_settle.f k x128000 0 x10 0 0 x9 x128001 x128002).bind fun bt143 => (if bt135.2.2 = 0 then (if bt138.2.2 = 0 then (if (bt135.1 == bt138.1 && (bt135.2.1 == bt138.2.1)) = true then (if bt143.2.2.2 = 0 then ((paroleref42_Same.f k bt143.1 0 0 0 x118000 0 0 0).bind fun t150 => (if t150 = true then (some x7) else (some false))) else (none)) else (some false)) else (none)) else (none)))))
def parolelaw42_PriceSettles.f (k : Nat) (l0_0 : List Int) (l0_1 : List Int) (a0_2 : Int) (a1_0 : Int) (a1_1 : Int) (a2_0 : Int) (a2_1 : Int) : Option (Bool) := (parolelaw42_examples.f).bind fun t104 => (if t104 = true then ((paroleref42_Book.f k l0_0).bind fun t105 => ((paroleref42_Risks.f k l0_1).bind fun t108 => ((parolelaw42_open.f k t105 t108 4 (wrap64 (a0_2))).bind fun bt111 => ((paroleref02_Made.f k (wrap64 ((wrap64 (a2_0)) * 8)) (wrap64 (1 + (wrap64 (Int.tmod a2_1 8))))).bind fun bt118 => (if bt111.2.2.2 = 0 then ((parolelaw42_settle.f k bt111.1 0 (wrap64 (Int.tmod a1_0 4)) 0 0 (wrap64 (Int.tmod a1_1 4)) bt118.1 bt118.2).bind fun bt121 => (if bt121.2.2.2 = 0 then (if (bt111.1.length : Int) = 4 then (if (bt121.1.length : Int) = 4 then (if 0 ≤ (wrap64 (Int.tmod a1_0 4)) then (if (wrap64 (Int.tmod a1_0 4)) < (bt111.1.length : Int) then ((rat_Min.f ((rd_T60 bt111.1 (wrap64 (Int.tmod a1_0 4))).f1.f0) ((rd_T60 bt111.1 (wrap64 (Int.tmod a1_0 4))).f1.f1) bt118.1 bt118.2).bind fun bt129 => (if (!(bt121.2.1 == bt129.1) || (!(bt121.2.2.1 == bt129.2))) = true then (some false) else (parolelaw42_PriceSettles.l0 k t104 (wrap64 (Int.tmod a1_0 4)) (wrap64 (Int.tmod a1_1 4)) 0 bt111.1 bt111.2.1 bt111.2.2.1 bt111.2.2.2 bt121.1 bt121.2.1 bt121.2.2.1 bt121.2.2.2))) else (none)) else (none)) else (none)) else (none)) else (none))) else (none)))))) else (some false))
def parolelaw42_PriceSettles.T4 : Bool × List (List Nat × List Nat) := (true, [([], []), ([0], [0]), ([1], [1]), ([], []), ([3], [3]), ([4, 2], [4]), ([], []), ([6], [6]), ([7], [7]), ([2, 5, 8, 5], [2, 5, 8]), ([], []), ([10, 9, 9, 0, 1, 2, 3, 4, 5, 6, 7, 8, 9, 10], [9, 10])])
def parolelaw42_PriceSettles.B4 : List Nat := [0, 1, 3, 0, 8, 31, 0, 64, 192, 511, 0, 2047]
theorem parolelaw42_PriceSettles.tab4 : rtab .any (opsOf Try.f14 4) = parolelaw42_PriceSettles.T4 := by kernel_rfl
theorem parolelaw42_PriceSettles.bits4 : waitsOk parolelaw42_PriceSettles.T4.2 parolelaw42_PriceSettles.B4 = true := by kernel_rfl
def parolelaw42_PriceSettles.T5 : Bool × List (List Nat × List Nat) := (true, [([], []), ([0], [0]), ([1], [1]), ([2], [2]), ([], []), ([4], [4]), ([5], [5]), ([6], [6]), ([3, 0, 1, 2, 3], [3]), ([7, 8, 0, 1, 2, 3, 4, 5, 6, 7, 8], [7])])
def parolelaw42_PriceSettles.B5 : List Nat := [0, 1, 3, 7, 0, 16, 48, 112, 15, 511]
theorem parolelaw42_PriceSettles.tab5 : rtab .any (opsOf Try.f14 5) = parolelaw42_PriceSettles.T5 := by kernel_rfl
theorem parolelaw42_PriceSettles.bits5 : waitsOk parolelaw42_PriceSettles.T5.2 parolelaw42_PriceSettles.B5 = true := by kernel_rfl
def parolelaw42_PriceSettles.T12 : Bool × List (List Nat × List Nat) := (true, [([], []), ([0], [0]), ([1], [1]), ([2], [2]), ([3], [3]), ([4], [4]), ([5, 4], [4, 5]), ([6, 4], [4, 6]), ([7, 4], [4, 7]), ([4, 8], [4, 8]), ([9, 4], [9]), ([10], [10]), ([11, 10], [10, 11]), ([10], [10]), ([13, 10], [10, 13]), ([10], [10]), ([14, 15, 10], [10, 14, 15]), ([16, 10], [10, 16]), ([17, 10], [10, 17]), ([10], [10]), ([18, 19, 10, 10], [10, 18, 19]), ([12, 20, 10], [10, 12, 20]), ([10, 21], [10, 21])])
def parolelaw42_PriceSettles.B12 : List Nat := [0, 1, 3, 7, 15, 31, 63, 127, 255, 511, 1023, 2047, 4095, 2047, 10239, 2047, 59391, 124927, 255999, 2047, 1042431, 2097151, 4194303]
theorem parolelaw42_PriceSettles.tab12 : rtab .any (opsOf Try.f14 12) = parolelaw42_PriceSettles.T12 := by kernel_rfl
theorem parolelaw42_PriceSettles.bits12 : waitsOk parolelaw42_PriceSettles.T12.2 parolelaw42_PriceSettles.B12 = true := by kernel_rfl
def parolelaw42_PriceSettles.T17 : Bool × List (List Nat × List Nat) := (true, [([], []), ([0], [0]), ([], []), ([1, 2], [1, 2]), ([3], [3]), ([4], [4]), ([], []), ([5, 6], [5, 6]), ([7], [7]), ([8], [8]), ([9, 8], [8, 9]), ([8], [8]), ([10, 11, 8], [8, 10, 11]), ([12, 8], [8, 12]), ([13, 8], [8, 13]), ([14, 8], [8, 14]), ([15, 8], [8, 15]), ([8, 16], [8, 16]), ([17, 8], [17]), ([18], [18]), ([18], [18]), ([19, 20, 18], [18, 19, 20]), ([21, 18, 18], [18, 21]), ([22], [22]), ([22], [22]), ([23, 24, 22], [22, 23, 24]), ([22, 25, 18], [18, 22, 25]), ([26, 22, 18], [18, 26]), ([27], [27]), ([28, 27], [27, 28]), ([27], [27]), ([29, 30, 27], [27, 29, 30]), ([31, 27], [27, 31]), ([27], [27]), ([33, 27], [27, 33]), ([27], [27]), ([34, 35, 27], [27, 34, 35]), ([36, 27], [27, 36]), ([32, 37, 27], [27, 32, 37]), ([27, 38, 18], [18, 27, 38]), ([18, 39], [18, 39])])
def parolelaw42_PriceSettles.B17 : List Nat := [0, 1, 0, 7, 15, 31, 0, 127, 255, 511, 1023, 511, 4095, 8191, 16383, 32767, 65535, 131071, 262143, 524287, 524287, 2097151, 4194303, 8388607, 8388607, 33554431, 67108863, 134217727, 268435455, 536870911, 268435455, 2147483647, 4294967295, 268435455, 8858370047, 268435455, 60397977599, 129117454335, 274877906943, 549755813887, 1099511627775]
theorem parolelaw42_PriceSettles.tab17 : rtab .any (opsOf Try.f14 17) = parolelaw42_PriceSettles.T17 := by kernel_rfl
theorem parolelaw42_PriceSettles.bits17 : waitsOk parolelaw42_PriceSettles.T17.2 parolelaw42_PriceSettles.B17 = true := by kernel_rfl
def parolelaw42_PriceSettles.T19 : Bool × List (List Nat × List Nat) := (true, [([], []), ([0], [0]), ([1], [1]), ([], []), ([3], [3]), ([4, 2], [4]), ([], []), ([], []), ([6, 2, 5, 0, 1, 2, 6, 7], [2, 6]), ([7, 5, 8, 0, 1, 2, 3, 4, 5, 6, 7, 8], [5, 7])])
def parolelaw42_PriceSettles.B19 : List Nat := [0, 1, 3, 0, 8, 31, 0, 0, 255, 511]
theorem parolelaw42_PriceSettles.tab19 : rtab .any (opsOf Try.f14 19) = parolelaw42_PriceSettles.T19 := by kernel_rfl
theorem parolelaw42_PriceSettles.bits19 : waitsOk parolelaw42_PriceSettles.T19.2 parolelaw42_PriceSettles.B19 = true := by kernel_rfl
set_option maxHeartbeats 40000000 in
set_option maxRecDepth 100000 in
theorem parolelaw42_PriceSettles.calls (k : Nat) (A0_0 : Option Addr) (c0_0 : Nat) (l0_0 : List Int) (A0_1 : Option Addr) (c0_1 : Nat) (l0_1 : List Int) (a0_2 : Int) (a1_0 : Int) (a1_1 : Int) (a2_0 : Int) (a2_1 : Int) (r : Bool) (w : World) (hr0_0 : Kd.C (Kd.int .u8) w A0_0 l0_0.length l0_0) (hc0_0 : l0_0.length ≤ c0_0) (hr0_1 : Kd.C (Kd.int .u8) w A0_1 l0_1.length l0_1) (hc0_1 : l0_1.length ≤ c0_1) (hT : r = true) (h : parolelaw42_PriceSettles.f k l0_0 l0_1 a0_2 a1_0 a1_1 a2_0 a2_1 = some r) :
  Calls Try.prog 14 #[.agg #[.slice A0_0 l0_0.length c0_0, .slice A0_1 l0_1.length c0_1, .int .u16 a0_2], .agg #[.int .u8 a1_0, .int .u8 a1_1], .agg #[.int .u8 a2_0, .int .u8 a2_1]] w fun e w' => e = .returned (.bool r) ∧ Below w.heap.size w w' := by
 have hu45 := Try.underlying45; have hu80 := Try.underlying80; have hu56 := Try.underlying56; have hu35 := Try.underlying35; have hu78 := Try.underlying78; have hu60 := Try.underlying60; have hu38 := Try.underlying38; have HR0_0 := aM hr0_0; have HC0_0 := aM hc0_0; clear hr0_0 hc0_0; have HR0_1 := aM hr0_1; have HC0_1 := aM hc0_1; clear hr0_1 hc0_1; have HB := aM (Below.refl w.heap.size w); have HT := aM hT; clear hT
 have H : ((parolelaw42_examples.f).bind fun t104 => (if t104 = true then ((paroleref42_Book.f k l0_0).bind fun t105 => ((paroleref42_Risks.f k l0_1).bind fun t108 => ((parolelaw42_open.f k t105 t108 4 (wrap64 (a0_2))).bind fun bt111 => ((paroleref02_Made.f k (wrap64 ((wrap64 (a2_0)) * 8)) (wrap64 (1 + (wrap64 (Int.tmod a2_1 8))))).bind fun bt118 => (if bt111.2.2.2 = 0 then ((parolelaw42_settle.f k bt111.1 0 (wrap64 (Int.tmod a1_0 4)) 0 0 (wrap64 (Int.tmod a1_1 4)) bt118.1 bt118.2).bind fun bt121 => (if bt121.2.2.2 = 0 then (if (bt111.1.length : Int) = 4 then (if (bt121.1.length : Int) = 4 then (if 0 ≤ (wrap64 (Int.tmod a1_0 4)) then (if (wrap64 (Int.tmod a1_0 4)) < (bt111.1.length : Int) then ((rat_Min.f ((rd_T60 bt111.1 (wrap64 (Int.tmod a1_0 4))).f1.f0) ((rd_T60 bt111.1 (wrap64 (Int.tmod a1_0 4))).f1.f1) bt118.1 bt118.2).bind fun bt129 => (if (!(bt121.2.1 == bt129.1) || (!(bt121.2.2.1 == bt129.2))) = true then (some false) else (parolelaw42_PriceSettles.l0 k t104 (wrap64 (Int.tmod a1_0 4)) (wrap64 (Int.tmod a1_1 4)) 0 bt111.1 bt111.2.1 bt111.2.2.1 bt111.2.2.2 bt121.1 bt121.2.1 bt121.2.2.1 bt121.2.2.2))) else (none)) else (none)) else (none)) else (none)) else (none))) else (none)))))) else (some false))) = some r := h
 clear h; replace H := Option.bind_eq_some_iff.mp H
 obtain ⟨t104, A40, H⟩ := H
 replace H : (if t104 = true then ((paroleref42_Book.f k l0_0).bind fun t105 => ((paroleref42_Risks.f k l0_1).bind fun t108 => ((parolelaw42_open.f k t105 t108 4 (wrap64 (a0_2))).bind fun bt111 => ((paroleref02_Made.f k (wrap64 ((wrap64 (a2_0)) * 8)) (wrap64 (1 + (wrap64 (Int.tmod a2_1 8))))).bind fun bt118 => (if bt111.2.2.2 = 0 then ((parolelaw42_settle.f k bt111.1 0 (wrap64 (Int.tmod a1_0 4)) 0 0 (wrap64 (Int.tmod a1_1 4)) bt118.1 bt118.2).bind fun bt121 => (if bt121.2.2.2 = 0 then (if (bt111.1.length : Int) = 4 then (if (bt121.1.length : Int) = 4 then (if 0 ≤ (wrap64 (Int.tmod a1_0 4)) then (if (wrap64 (Int.tmod a1_0 4)) < (bt111.1.length : Int) then ((rat_Min.f ((rd_T60 bt111.1 (wrap64 (Int.tmod a1_0 4))).f1.f0) ((rd_T60 bt111.1 (wrap64 (Int.tmod a1_0 4))).f1.f1) bt118.1 bt118.2).bind fun bt129 => (if (!(bt121.2.1 == bt129.1) || (!(bt121.2.2.1 == bt129.2))) = true then (some false) else (parolelaw42_PriceSettles.l0 k t104 (wrap64 (Int.tmod a1_0 4)) (wrap64 (Int.tmod a1_1 4)) 0 bt111.1 bt111.2.1 bt111.2.2.1 bt111.2.2.2 bt121.1 bt121.2.1 bt121.2.2.1 bt121.2.2.2))) else (none)) else (none)) else (none)) else (none)) else (none))) else (none)))))) else (some false)) = some r := H
 have A4 := aM A40; clear A40
 by_cases c5 : t104 = true
 rotate_left
 ·replace c5 := Bool.eq_false_iff.mpr c5
  subst c5
  have H1 : (some false) = some r := by rw [if_neg (show ¬ (false = true) by decide)] at H; exact H
  clear H; have H := H1; clear H1
  exact absurd ((Option.some.inj H).trans HT.out) (by decide)
 subst c5
 have H1 : ((paroleref42_Book.f k l0_0).bind fun t105 => ((paroleref42_Risks.f k l0_1).bind fun t108 => ((parolelaw42_open.f k t105 t108 4 (wrap64 (a0_2))).bind fun bt111 => ((paroleref02_Made.f k (wrap64 ((wrap64 (a2_0)) * 8)) (wrap64 (1 + (wrap64 (Int.tmod a2_1 8))))).bind fun bt118 => (if bt111.2.2.2 = 0 then ((parolelaw42_settle.f k bt111.1 0 (wrap64 (Int.tmod a1_0 4)) 0 0 (wrap64 (Int.tmod a1_1 4)) bt118.1 bt118.2).bind fun bt121 => (if bt121.2.2.2 = 0 then (if (bt111.1.length : Int) = 4 then (if (bt121.1.length : Int) = 4 then (if 0 ≤ (wrap64 (Int.tmod a1_0 4)) then (if (wrap64 (Int.tmod a1_0 4)) < (bt111.1.length : Int) then ((rat_Min.f ((rd_T60 bt111.1 (wrap64 (Int.tmod a1_0 4))).f1.f0) ((rd_T60 bt111.1 (wrap64 (Int.tmod a1_0 4))).f1.f1) bt118.1 bt118.2).bind fun bt129 => (if (!(bt121.2.1 == bt129.1) || (!(bt121.2.2.1 == bt129.2))) = true then (some false) else (parolelaw42_PriceSettles.l0 k true (wrap64 (Int.tmod a1_0 4)) (wrap64 (Int.tmod a1_1 4)) 0 bt111.1 bt111.2.1 bt111.2.2.1 bt111.2.2.2 bt121.1 bt121.2.1 bt121.2.2.1 bt121.2.2.2))) else (none)) else (none)) else (none)) else (none)) else (none))) else (none)))))) = some r := by rw [if_pos rfl] at H; exact H
 clear H; have H := H1; clear H1; replace H := Option.bind_eq_some_iff.mp H
 obtain ⟨t105, A60, H⟩ := H
 replace H : ((paroleref42_Risks.f k l0_1).bind fun t108 => ((parolelaw42_open.f k t105 t108 4 (wrap64 (a0_2))).bind fun bt111 => ((paroleref02_Made.f k (wrap64 ((wrap64 (a2_0)) * 8)) (wrap64 (1 + (wrap64 (Int.tmod a2_1 8))))).bind fun bt118 => (if bt111.2.2.2 = 0 then ((parolelaw42_settle.f k bt111.1 0 (wrap64 (Int.tmod a1_0 4)) 0 0 (wrap64 (Int.tmod a1_1 4)) bt118.1 bt118.2).bind fun bt121 => (if bt121.2.2.2 = 0 then (if (bt111.1.length : Int) = 4 then (if (bt121.1.length : Int) = 4 then (if 0 ≤ (wrap64 (Int.tmod a1_0 4)) then (if (wrap64 (Int.tmod a1_0 4)) < (bt111.1.length : Int) then ((rat_Min.f ((rd_T60 bt111.1 (wrap64 (Int.tmod a1_0 4))).f1.f0) ((rd_T60 bt111.1 (wrap64 (Int.tmod a1_0 4))).f1.f1) bt118.1 bt118.2).bind fun bt129 => (if (!(bt121.2.1 == bt129.1) || (!(bt121.2.2.1 == bt129.2))) = true then (some false) else (parolelaw42_PriceSettles.l0 k true (wrap64 (Int.tmod a1_0 4)) (wrap64 (Int.tmod a1_1 4)) 0 bt111.1 bt111.2.1 bt111.2.2.1 bt111.2.2.2 bt121.1 bt121.2.1 bt121.2.2.1 bt121.2.2.2))) else (none)) else (none)) else (none)) else (none)) else (none))) else (none))))) = some r := H
 have A6 := aM A60; clear A60; replace H := Option.bind_eq_some_iff.mp H
 obtain ⟨t108, A70, H⟩ := H
 replace H : ((parolelaw42_open.f k t105 t108 4 (wrap64 (a0_2))).bind fun bt111 => ((paroleref02_Made.f k (wrap64 ((wrap64 (a2_0)) * 8)) (wrap64 (1 + (wrap64 (Int.tmod a2_1 8))))).bind fun bt118 => (if bt111.2.2.2 = 0 then ((parolelaw42_settle.f k bt111.1 0 (wrap64 (Int.tmod a1_0 4)) 0 0 (wrap64 (Int.tmod a1_1 4)) bt118.1 bt118.2).bind fun bt121 => (if bt121.2.2.2 = 0 then (if (bt111.1.length : Int) = 4 then (if (bt121.1.length : Int) = 4 then (if 0 ≤ (wrap64 (Int.tmod a1_0 4)) then (if (wrap64 (Int.tmod a1_0 4)) < (bt111.1.length : Int) then ((rat_Min.f ((rd_T60 bt111.1 (wrap64 (Int.tmod a1_0 4))).f1.f0) ((rd_T60 bt111.1 (wrap64 (Int.tmod a1_0 4))).f1.f1) bt118.1 bt118.2).bind fun bt129 => (if (!(bt121.2.1 == bt129.1) || (!(bt121.2.2.1 == bt129.2))) = true then (some false) else (parolelaw42_PriceSettles.l0 k true (wrap64 (Int.tmod a1_0 4)) (wrap64 (Int.tmod a1_1 4)) 0 bt111.1 bt111.2.1 bt111.2.2.1 bt111.2.2.2 bt121.1 bt121.2.1 bt121.2.2.1 bt121.2.2.2))) else (none)) else (none)) else (none)) else (none)) else (none))) else (none)))) = some r := H
 have A7 := aM A70; clear A70; replace H := Option.bind_eq_some_iff.mp H
 obtain ⟨⟨t111, t114, t115, t116⟩, A80, H⟩ := H
 replace H : ((paroleref02_Made.f k (wrap64 ((wrap64 (a2_0)) * 8)) (wrap64 (1 + (wrap64 (Int.tmod a2_1 8))))).bind fun bt118 => (if t116 = 0 then ((parolelaw42_settle.f k t111 0 (wrap64 (Int.tmod a1_0 4)) 0 0 (wrap64 (Int.tmod a1_1 4)) bt118.1 bt118.2).bind fun bt121 => (if bt121.2.2.2 = 0 then (if (t111.length : Int) = 4 then (if (bt121.1.length : Int) = 4 then (if 0 ≤ (wrap64 (Int.tmod a1_0 4)) then (if (wrap64 (Int.tmod a1_0 4)) < (t111.length : Int) then ((rat_Min.f ((rd_T60 t111 (wrap64 (Int.tmod a1_0 4))).f1.f0) ((rd_T60 t111 (wrap64 (Int.tmod a1_0 4))).f1.f1) bt118.1 bt118.2).bind fun bt129 => (if (!(bt121.2.1 == bt129.1) || (!(bt121.2.2.1 == bt129.2))) = true then (some false) else (parolelaw42_PriceSettles.l0 k true (wrap64 (Int.tmod a1_0 4)) (wrap64 (Int.tmod a1_1 4)) 0 t111 t114 t115 t116 bt121.1 bt121.2.1 bt121.2.2.1 bt121.2.2.2))) else (none)) else (none)) else (none)) else (none)) else (none))) else (none))) = some r := H
 have A8 := aM A80; clear A80; replace H := Option.bind_eq_some_iff.mp H
 obtain ⟨⟨t118, t119⟩, A90, H⟩ := H
 replace H : (if t116 = 0 then ((parolelaw42_settle.f k t111 0 (wrap64 (Int.tmod a1_0 4)) 0 0 (wrap64 (Int.tmod a1_1 4)) t118 t119).bind fun bt121 => (if bt121.2.2.2 = 0 then (if (t111.length : Int) = 4 then (if (bt121.1.length : Int) = 4 then (if 0 ≤ (wrap64 (Int.tmod a1_0 4)) then (if (wrap64 (Int.tmod a1_0 4)) < (t111.length : Int) then ((rat_Min.f ((rd_T60 t111 (wrap64 (Int.tmod a1_0 4))).f1.f0) ((rd_T60 t111 (wrap64 (Int.tmod a1_0 4))).f1.f1) t118 t119).bind fun bt129 => (if (!(bt121.2.1 == bt129.1) || (!(bt121.2.2.1 == bt129.2))) = true then (some false) else (parolelaw42_PriceSettles.l0 k true (wrap64 (Int.tmod a1_0 4)) (wrap64 (Int.tmod a1_1 4)) 0 t111 t114 t115 t116 bt121.1 bt121.2.1 bt121.2.2.1 bt121.2.2.2))) else (none)) else (none)) else (none)) else (none)) else (none))) else (none)) = some r := H
 have A9 := aM A90; clear A90
 by_cases c10 : t116 = 0
 rotate_left
 ·rw [if_neg c10] at H
  exact absurd H (by simp)
 rw [if_pos c10] at H
 have c10b0 : (t116 == 0) = true := beq_iff_eq.mpr c10
 have c10b1 : (t116 != 0) = false := bne_eq_false_iff_eq.mpr c10
 clear c10; replace H := Option.bind_eq_some_iff.mp H
 obtain ⟨⟨t121, t124, t125, t126⟩, A110, H⟩ := H
 replace H : (if t126 = 0 then (if (t111.length : Int) = 4 then (if (t121.length : Int) = 4 then (if 0 ≤ (wrap64 (Int.tmod a1_0 4)) then (if (wrap64 (Int.tmod a1_0 4)) < (t111.length : Int) then ((rat_Min.f ((rd_T60 t111 (wrap64 (Int.tmod a1_0 4))).f1.f0) ((rd_T60 t111 (wrap64 (Int.tmod a1_0 4))).f1.f1) t118 t119).bind fun bt129 => (if (!(t124 == bt129.1) || (!(t125 == bt129.2))) = true then (some false) else (parolelaw42_PriceSettles.l0 k true (wrap64 (Int.tmod a1_0 4)) (wrap64 (Int.tmod a1_1 4)) 0 t111 t114 t115 t116 t121 t124 t125 t126))) else (none)) else (none)) else (none)) else (none)) else (none)) = some r := H
 have A11 := aM A110; clear A110
 by_cases c12 : t126 = 0
 rotate_left
 ·rw [if_neg c12] at H
  exact absurd H (by simp)
 rw [if_pos c12] at H
 have c12b0 : (t126 == 0) = true := beq_iff_eq.mpr c12
 have c12b1 : (t126 != 0) = false := bne_eq_false_iff_eq.mpr c12
 clear c12
 by_cases c13 : (t111.length : Int) = 4
 rotate_left
 ·rw [if_neg c13] at H
  exact absurd H (by simp)
 rw [if_pos c13] at H
 have c13b0 : ((t111.length : Int) == 4) = true := beq_iff_eq.mpr c13
 have c13b1 : ((t111.length : Int) != 4) = false := bne_eq_false_iff_eq.mpr c13
 clear c13
 by_cases c14 : (t121.length : Int) = 4
 rotate_left
 ·rw [if_neg c14] at H
  exact absurd H (by simp)
 rw [if_pos c14] at H
 have c14b0 : ((t121.length : Int) == 4) = true := beq_iff_eq.mpr c14
 have c14b1 : ((t121.length : Int) != 4) = false := bne_eq_false_iff_eq.mpr c14
 clear c14
 obtain ⟨ji15, hji15⟩ : ∃ j_ : Int, (wrap64 (Int.tmod a1_0 4)) = j_ := ⟨_, rfl⟩
 replace H : (if 0 ≤ (ji15) then (if (ji15) < (t111.length : Int) then ((rat_Min.f ((rd_T60 t111 (ji15)).f1.f0) ((rd_T60 t111 (ji15)).f1.f1) t118 t119).bind fun bt129 => (if (!(t124 == bt129.1) || (!(t125 == bt129.2))) = true then (some false) else (parolelaw42_PriceSettles.l0 k true ji15 (wrap64 (Int.tmod a1_1 4)) 0 t111 t114 t115 t116 t121 t124 t125 t126))) else (none)) else (none)) = some r := by first | (rw [hji15] at H; exact H) | (simp only [hji15] at H ⊢; exact H)
 (try rw [hji15] at A4)
 (try rw [hji15] at A6)
 (try rw [hji15] at A7)
 (try rw [hji15] at A8)
 (try rw [hji15] at A9)
 (try rw [hji15] at A11)
 have hji15w : (IntKind.i64.wrap (Int.tmod a1_0 4)) = ji15 := (i64_w _).trans hji15
 by_cases c16 : 0 ≤ (ji15)
 rotate_left
 ·rw [if_neg c16] at H
  exact absurd H (by simp)
 rw [if_pos c16] at H
 have c16b0 : decide (0 ≤ (ji15)) = true := decide_eq_true c16
 clear c16
 by_cases c17 : (ji15) < (t111.length : Int)
 rotate_left
 ·rw [if_neg c17] at H
  exact absurd H (by simp)
 rw [if_pos c17] at H
 have c17b0 : decide ((ji15) < (t111.length : Int)) = true := decide_eq_true c17
 clear c17; replace H := Option.bind_eq_some_iff.mp H
 obtain ⟨⟨t129, t130⟩, A180, H⟩ := H
 replace H : (if (!(t124 == t129) || (!(t125 == t130))) = true then (some false) else (parolelaw42_PriceSettles.l0 k true ji15 (wrap64 (Int.tmod a1_1 4)) 0 t111 t114 t115 t116 t121 t124 t125 t126)) = some r := H
 have A18 := aM A180; clear A180
 by_cases c19 : (!(t124 == t129) || (!(t125 == t130))) = true
 ·rw [if_pos c19] at H
  have c19b0 : (!(t124 == t129) || (!(t125 == t130))) = true := c19
  clear c19
  exact absurd ((Option.some.inj H).trans HT.out) (by decide)
 rw [if_neg c19] at H
 have c19b0 : (!(t124 == t129) || (!(t125 == t130))) = false := by simpa using c19
 clear c19; have H' := aM H; clear H
 go_enter Try.func14, Try.ntmps14
 try go_wp2_with (first | ((with_reducible refine gate_dst (N := 3) rfl ?_); (try (refine gate_guard (by rfl) ?_; dsimp only)); refine bE (N := 3) (cs := #[.slice A0_0 l0_0.length c0_0, .slice A0_1 l0_1.length c0_1, .int .u16 a0_2]) (t := 45) ?_; intro gb101 hg w20 hbox hb; have BK101 := aM (hbox); have GW101 := gE hg HB; have GE101 := gE hg HB; replace HB := sB HB hb; clear hb hbox hg) | ((with_reducible refine gate_dst (N := 4) rfl ?_); (try (refine gate_guard (by rfl) ?_; dsimp only)); refine bE (N := 4) (cs := #[.int .u8 a1_0, .int .u8 a1_1]) (t := 80) ?_; intro gb102 hg w21 hbox hb; have BK102 := aM (hbox); have GW102 := gE hg HB; have GE102 := gE hg HB; obtain ⟨NB101_102, NB102_101⟩ := nB hg BK101; replace BK101 := bB BK101 hb; replace HB := sB HB hb; clear hb hbox hg) | ((with_reducible refine gate_dst (N := 5) rfl ?_); (try (refine gate_guard (by rfl) ?_; dsimp only)); refine bE (N := 5) (cs := #[.int .u8 a2_0, .int .u8 a2_1]) (t := 80) ?_; intro gb103 hg w22 hbox hb; have BK103 := aM (hbox); have GW103 := gE hg HB; have GE103 := gE hg HB; obtain ⟨NB101_103, NB103_101⟩ := nB hg BK101; obtain ⟨NB102_103, NB103_102⟩ := nB hg BK102; replace BK101 := bB BK101 hb; replace BK102 := bB BK102 hb; replace HB := sB HB hb; clear hb hbox hg) | ((with_reducible refine gate_callee (f := 28) rfl ?_); refine gL (some 17) Try.func28 #[] ?_; (with_reducible refine (parolelaw42_examples.calls  true _ A4.out).mono ?_); rintro e w23 ⟨rfl, hb⟩; refine ⟨_, rfl, ?_⟩; replace BK101 := bB BK101 hb; replace BK102 := bB BK102 hb; replace BK103 := bB BK103 hb; replace HB := sB HB hb; (try clear hb)))
 replace BK101 := aM (blk_drew BK101.out); replace BK102 := aM (blk_drew BK102.out); replace BK103 := aM (blk_drew BK103.out); replace HB := aM (below_drew1 HB.out)
 refine start_ (n := 12) (S := fun w' => w'.cell? ⟨gb101, 0, none⟩ = some (.slice A0_0 l0_0.length c0_0) ∧ w'.cell? ⟨gb101, 1, none⟩ = some (.slice A0_1 l0_1.length c0_1) ∧ w'.cell? ⟨gb101, 2, none⟩ = some (.int .u16 a0_2)) (ds := []) #[false, false, false, false, false, false, false, false, false, false, false, false] (by kernel_rfl) rfl rfl ⟨cE BK101 0, cE BK101 1, cE BK101 2⟩ (fun hHeld => ?_); refine with_tabW parolelaw42_PriceSettles.tab4 parolelaw42_PriceSettles.bits4 (fun HT_ HW_ => ?_)
 generalize w23.drew = w24 at BK101 BK102 BK103 HB hHeld ⊢
 refine pX (i := 0) (N := some 20) rfl rfl HT_ ?_
 refine pX (i := 3) (N := some 23) rfl rfl HT_ ?_
 refine pX (i := 6) (N := some 26) rfl rfl HT_ ?_
 refine tX (i := 1) (N := some 21) rfl rfl HT_ HW_ hHeld (Or.inl ⟨by rfl, by rintro w' ⟨s0, s1, s2⟩; go_simp; with_reducible rfl⟩) ?_
 refine tX (i := 4) (N := some 24) rfl rfl HT_ HW_ hHeld (Or.inl ⟨by rfl, by rintro w' ⟨s0, s1, s2⟩; go_simp; with_reducible rfl⟩) ?_
 refine tX (i := 7) (N := some 27) rfl rfl HT_ HW_ hHeld (Or.inl ⟨by rfl, by rintro w' ⟨s0, s1, s2⟩; go_simp; with_reducible rfl⟩) ?_
 refine pX (i := 8) (N := some 28) rfl rfl HT_ ?_
 refine join_ (σ := Value × Value × Value × Nat) 1 #[true, true, true, true, true, true, true, true, true, true, true, false] (fun s_ => [(22, s_.1), (25, s_.2.1), (29, .agg #[s_.2.2.1, .int .i64 t114, .int .i64 t115, .int .i64 t116]), (8, .pointer (some ⟨s_.2.2.2, 0, none⟩))]) (fun s_ w' => (w'.cell? ⟨gb101, 0, none⟩ = some (.slice A0_0 l0_0.length c0_0) ∧ w'.cell? ⟨gb101, 1, none⟩ = some (.slice A0_1 l0_1.length c0_1) ∧ w'.cell? ⟨gb101, 2, none⟩ = some (.int .u16 a0_2)) ∧ (Kd.R k71 71 w' w.heap.size (fun _ => True) s_.1 t105) ∧ (Kd.R k47 47 w' w.heap.size (fun _ => True) s_.2.1 t108) ∧ (Kd.R k60 60 w' w.heap.size (fun _ => True) s_.2.2.1 t111) ∧ (w'.heap[gb101]? = some (.cells #[.slice A0_0 l0_0.length c0_0, .slice A0_1 l0_1.length c0_1, .int .u16 a0_2] 45 (0, 0))) ∧ (w'.heap[gb102]? = some (.cells #[.int .u8 a1_0, .int .u8 a1_1] 80 (0, 0))) ∧ (w'.heap[gb103]? = some (.cells #[.int .u8 a2_0, .int .u8 a2_1] 80 (0, 0))) ∧ (w'.heap[s_.2.2.2]? = some (.cells #[.slice none 0 0, .int .i64 0, .int .i64 0, .int .i64 0] 56 (0, 0))) ∧ (w.heap.size ≤ s_.2.2.2) ∧ (w.heap.size ≤ s_.2.2.2) ∧ (gb101 ≠ s_.2.2.2) ∧ (s_.2.2.2 ≠ gb101) ∧ (gb102 ≠ s_.2.2.2) ∧ (s_.2.2.2 ≠ gb102) ∧ (gb103 ≠ s_.2.2.2) ∧ (s_.2.2.2 ≠ gb103) ∧ (Below w.heap.size w w')) ?_ ?_
 rotate_left
 ·intro hCont
  refine two2 (i := 2) (j := 10) (Ni := some 22) (Nj := some 8) HT_ rfl rfl rfl rfl (fun K hK => ?_) (fun K hK => ?_)
  ·refine gS Try.func29 #[.slice A0_0 l0_0.length c0_0] ?_
   with_reducible refine (paroleref42_Book.calls k _ _ l0_0 t105 _ ?side1 ?side2 A6.out).mono ?_
   (case side1 => exact cC HR0_0 HB)
   (case side2 => exact HC0_0.out)
   rintro e w25 ⟨v106, rfl, ho0, hb⟩
   refine ⟨_, rfl, ?_⟩
   have HO107 := rL (n := 0) ho0 HB; replace BK101 := bB BK101 hb; replace BK102 := bB BK102 hb; replace BK103 := bB BK103 hb; replace HB := sB HB hb; (try clear hb); (try clear hb2); (try clear hk); (try clear hi); (try clear ho0)
   refine hK.out _ _ ⟨cE BK101 0, cE BK101 1, cE BK101 2⟩ (fun hHeld => ?_)
   clear hK K
   refine nX (some 22) ?_
   refine two2 (i := 5) (j := 10) (Ni := some 25) (Nj := some 8) HT_ rfl rfl rfl rfl (fun K hK => ?_) (fun K hK => ?_)
   ·refine gS Try.func30 #[.slice A0_1 l0_1.length c0_1] ?_
    with_reducible refine (paroleref42_Risks.calls k _ _ l0_1 t108 _ ?side1 ?side2 A7.out).mono ?_
    (case side1 => exact cC HR0_1 HB)
    (case side2 => exact HC0_1.out)
    rintro e w26 ⟨v109, rfl, ho0, hb⟩
    refine ⟨_, rfl, ?_⟩
    have HO110 := rL (n := 0) ho0 HB; replace HO107 := rB HO107 hb; replace BK101 := bB BK101 hb; replace BK102 := bB BK102 hb; replace BK103 := bB BK103 hb; replace HB := sB HB hb; (try clear hb); (try clear hb2); (try clear hk); (try clear hi); (try clear ho0)
    obtain ⟨Ao27, co27, eo27⟩ := Kd.R_slice HO107.out
    (first | subst eo27 | (injection eo27 with f1_ f2_ f3_; have f4_ := f1_.symm; have f5_ := f3_.symm; clear f1_ f2_ f3_; subst f4_; subst f5_))
    obtain ⟨Ao28, co28, eo28⟩ := Kd.R_slice HO110.out
    (first | subst eo28 | (injection eo28 with f1_ f2_ f3_; have f4_ := f1_.symm; have f5_ := f3_.symm; clear f1_ f2_ f3_; subst f4_; subst f5_))
    refine hK.out _ _ ⟨cE BK101 0, cE BK101 1, cE BK101 2⟩ (fun hHeld => ?_)
    clear hK K
    refine nX (some 25) ?_
    refine two2 (i := 9) (j := 10) (Ni := some 29) (Nj := some 8) HT_ rfl rfl rfl rfl (fun K hK => ?_) (fun K hK => ?_)
    ·refine gS Try.func35 #[.slice Ao27 t105.length co27, .slice Ao28 t108.length co28, .int .i64 4, .int .i64 (wrap64 (a0_2))] ?_
     with_reducible refine (parolelaw42_open.calls k _ _ t105 _ _ t108 4 (wrap64 (a0_2)) t111 t114 t115 t116 _ ?side1 ?side2 ?side3 ?side4 A8.out).mono ?_
     (case side1 => exact rC HO107)
     (case side2 => exact rN HO107)
     (case side3 => exact rC HO110)
     (case side4 => exact rN HO110)
     rintro e w29 ⟨v112, rfl, ho0, hb⟩
     refine ⟨_, rfl, ?_⟩
     have HO113 := rL (n := 0) ho0 HB; replace HO107 := rB HO107 hb; replace HO110 := rB HO110 hb; replace BK101 := bB BK101 hb; replace BK102 := bB BK102 hb; replace BK103 := bB BK103 hb; replace HB := sB HB hb; (try clear hb); (try clear hb2); (try clear hk); (try clear hi); (try clear ho0)
     refine hK.out _ _ ⟨cE BK101 0, cE BK101 1, cE BK101 2⟩ (fun hHeld => ?_)
     clear hK K
     refine nX (some 29) ?_
     refine oX (i := 10) (N := some 8) rfl rfl HT_ (fun K hK => ?_)
     refine bS (N := 8) (cs := #[.slice none 0 0, .int .i64 0, .int .i64 0, .int .i64 0]) (t := 56) ?_
     intro gb117 hg w30 hbox hb
     have BK117 := aM (hbox); have GW117 := gE hg HB; have GE117 := gE hg HB; obtain ⟨NB101_117, NB117_101⟩ := nB hg BK101; obtain ⟨NB102_117, NB117_102⟩ := nB hg BK102; obtain ⟨NB103_117, NB117_103⟩ := nB hg BK103; replace HO107 := rB HO107 hb; replace HO110 := rB HO110 hb; replace HO113 := rB HO113 hb; replace BK101 := bB BK101 hb; replace BK102 := bB BK102 hb; replace BK103 := bB BK103 hb; replace HB := sB HB hb; clear hb hbox hg
     refine hK.out _ _ ⟨cE BK101 0, cE BK101 1, cE BK101 2⟩ (fun hHeld => ?_)
     clear hK K
     refine nX (some 8) ?_
     exact nP (hCont (.slice Ao27 t105.length co27, .slice Ao28 t108.length co28, v112, gb117) _ ⟨hHeld, rD HO107, rD HO110, rD HO113, bD BK101, bD BK102, bD BK103, bD BK117, GW117.out, GE117.out, NB101_117.out, NB117_101.out, NB102_117.out, NB117_102.out, NB103_117.out, NB117_103.out, sD HB⟩)
    refine bS (N := 8) (cs := #[.slice none 0 0, .int .i64 0, .int .i64 0, .int .i64 0]) (t := 56) ?_
    intro gb117 hg w27 hbox hb
    have BK117 := aM (hbox); have GW117 := gE hg HB; have GE117 := gE hg HB; obtain ⟨NB101_117, NB117_101⟩ := nB hg BK101; obtain ⟨NB102_117, NB117_102⟩ := nB hg BK102; obtain ⟨NB103_117, NB117_103⟩ := nB hg BK103; replace HO107 := rB HO107 hb; replace HO110 := rB HO110 hb; replace BK101 := bB BK101 hb; replace BK102 := bB BK102 hb; replace BK103 := bB BK103 hb; replace HB := sB HB hb; clear hb hbox hg
    obtain ⟨Ao28, co28, eo28⟩ := Kd.R_slice HO107.out
    (first | subst eo28 | (injection eo28 with f1_ f2_ f3_; have f4_ := f1_.symm; have f5_ := f3_.symm; clear f1_ f2_ f3_; subst f4_; subst f5_))
    obtain ⟨Ao29, co29, eo29⟩ := Kd.R_slice HO110.out
    (first | subst eo29 | (injection eo29 with f1_ f2_ f3_; have f4_ := f1_.symm; have f5_ := f3_.symm; clear f1_ f2_ f3_; subst f4_; subst f5_))
    refine hK.out _ _ ⟨cE BK101 0, cE BK101 1, cE BK101 2⟩ (fun hHeld => ?_)
    clear hK K
    refine nX (some 8) ?_
    refine oX (i := 9) (N := some 29) rfl rfl HT_ (fun K hK => ?_)
    refine gS Try.func35 #[.slice Ao28 t105.length co28, .slice Ao29 t108.length co29, .int .i64 4, .int .i64 (wrap64 (a0_2))] ?_
    with_reducible refine (parolelaw42_open.calls k _ _ t105 _ _ t108 4 (wrap64 (a0_2)) t111 t114 t115 t116 _ ?side1 ?side2 ?side3 ?side4 A8.out).mono ?_
    (case side1 => exact rC HO107)
    (case side2 => exact rN HO107)
    (case side3 => exact rC HO110)
    (case side4 => exact rN HO110)
    rintro e w30 ⟨v112, rfl, ho0, hb⟩
    refine ⟨_, rfl, ?_⟩
    have HO113 := rL (n := 0) ho0 HB; replace HO107 := rB HO107 hb; replace HO110 := rB HO110 hb; replace BK101 := bB BK101 hb; replace BK102 := bB BK102 hb; replace BK103 := bB BK103 hb; replace BK117 := bB BK117 hb; replace HB := sB HB hb; (try clear hb); (try clear hb2); (try clear hk); (try clear hi); (try clear ho0)
    refine hK.out _ _ ⟨cE BK101 0, cE BK101 1, cE BK101 2⟩ (fun hHeld => ?_)
    clear hK K
    refine nX (some 29) ?_
    exact nP (hCont (.slice Ao28 t105.length co28, .slice Ao29 t108.length co29, v112, gb117) _ ⟨hHeld, rD HO107, rD HO110, rD HO113, bD BK101, bD BK102, bD BK103, bD BK117, GW117.out, GE117.out, NB101_117.out, NB117_101.out, NB102_117.out, NB117_102.out, NB103_117.out, NB117_103.out, sD HB⟩)
   refine bS (N := 8) (cs := #[.slice none 0 0, .int .i64 0, .int .i64 0, .int .i64 0]) (t := 56) ?_
   intro gb117 hg w26 hbox hb
   have BK117 := aM (hbox); have GW117 := gE hg HB; have GE117 := gE hg HB; obtain ⟨NB101_117, NB117_101⟩ := nB hg BK101; obtain ⟨NB102_117, NB117_102⟩ := nB hg BK102; obtain ⟨NB103_117, NB117_103⟩ := nB hg BK103; replace HO107 := rB HO107 hb; replace BK101 := bB BK101 hb; replace BK102 := bB BK102 hb; replace BK103 := bB BK103 hb; replace HB := sB HB hb; clear hb hbox hg
   refine hK.out _ _ ⟨cE BK101 0, cE BK101 1, cE BK101 2⟩ (fun hHeld => ?_)
   clear hK K
   refine nX (some 8) ?_
   refine oX (i := 5) (N := some 25) rfl rfl HT_ (fun K hK => ?_)
   refine gS Try.func30 #[.slice A0_1 l0_1.length c0_1] ?_
   with_reducible refine (paroleref42_Risks.calls k _ _ l0_1 t108 _ ?side1 ?side2 A7.out).mono ?_
   (case side1 => exact cC HR0_1 HB)
   (case side2 => exact HC0_1.out)
   rintro e w27 ⟨v109, rfl, ho0, hb⟩
   refine ⟨_, rfl, ?_⟩
   have HO110 := rL (n := 0) ho0 HB; replace HO107 := rB HO107 hb; replace BK101 := bB BK101 hb; replace BK102 := bB BK102 hb; replace BK103 := bB BK103 hb; replace BK117 := bB BK117 hb; replace HB := sB HB hb; (try clear hb); (try clear hb2); (try clear hk); (try clear hi); (try clear ho0)
   obtain ⟨Ao28, co28, eo28⟩ := Kd.R_slice HO107.out
   (first | subst eo28 | (injection eo28 with f1_ f2_ f3_; have f4_ := f1_.symm; have f5_ := f3_.symm; clear f1_ f2_ f3_; subst f4_; subst f5_))
   obtain ⟨Ao29, co29, eo29⟩ := Kd.R_slice HO110.out
   (first | subst eo29 | (injection eo29 with f1_ f2_ f3_; have f4_ := f1_.symm; have f5_ := f3_.symm; clear f1_ f2_ f3_; subst f4_; subst f5_))
   refine hK.out _ _ ⟨cE BK101 0, cE BK101 1, cE BK101 2⟩ (fun hHeld => ?_)
   clear hK K
   refine nX (some 25) ?_
   refine oX (i := 9) (N := some 29) rfl rfl HT_ (fun K hK => ?_)
   refine gS Try.func35 #[.slice Ao28 t105.length co28, .slice Ao29 t108.length co29, .int .i64 4, .int .i64 (wrap64 (a0_2))] ?_
   with_reducible refine (parolelaw42_open.calls k _ _ t105 _ _ t108 4 (wrap64 (a0_2)) t111 t114 t115 t116 _ ?side1 ?side2 ?side3 ?side4 A8.out).mono ?_
   (case side1 => exact rC HO107)
   (case side2 => exact rN HO107)
   (case side3 => exact rC HO110)
   (case side4 => exact rN HO110)
   rintro e w30 ⟨v112, rfl, ho0, hb⟩
   refine ⟨_, rfl, ?_⟩
   have HO113 := rL (n := 0) ho0 HB; replace HO107 := rB HO107 hb; replace HO110 := rB HO110 hb; replace BK101 := bB BK101 hb; replace BK102 := bB BK102 hb; replace BK103 := bB BK103 hb; replace BK117 := bB BK117 hb; replace HB := sB HB hb; (try clear hb); (try clear hb2); (try clear hk); (try clear hi); (try clear ho0)
   refine hK.out _ _ ⟨cE BK101 0, cE BK101 1, cE BK101 2⟩ (fun hHeld => ?_)
   clear hK K
   refine nX (some 29) ?_
   exact nP (hCont (.slice Ao28 t105.length co28, .slice Ao29 t108.length co29, v112, gb117) _ ⟨hHeld, rD HO107, rD HO110, rD HO113, bD BK101, bD BK102, bD BK103, bD BK117, GW117.out, GE117.out, NB101_117.out, NB117_101.out, NB102_117.out, NB117_102.out, NB103_117.out, NB117_103.out, sD HB⟩)
  refine bS (N := 8) (cs := #[.slice none 0 0, .int .i64 0, .int .i64 0, .int .i64 0]) (t := 56) ?_
  intro gb117 hg w25 hbox hb
  have BK117 := aM (hbox); have GW117 := gE hg HB; have GE117 := gE hg HB; obtain ⟨NB101_117, NB117_101⟩ := nB hg BK101; obtain ⟨NB102_117, NB117_102⟩ := nB hg BK102; obtain ⟨NB103_117, NB117_103⟩ := nB hg BK103; replace BK101 := bB BK101 hb; replace BK102 := bB BK102 hb; replace BK103 := bB BK103 hb; replace HB := sB HB hb; clear hb hbox hg
  refine hK.out _ _ ⟨cE BK101 0, cE BK101 1, cE BK101 2⟩ (fun hHeld => ?_)
  clear hK K
  refine nX (some 8) ?_
  refine oX (i := 2) (N := some 22) rfl rfl HT_ (fun K hK => ?_)
  refine gS Try.func29 #[.slice A0_0 l0_0.length c0_0] ?_
  with_reducible refine (paroleref42_Book.calls k _ _ l0_0 t105 _ ?side1 ?side2 A6.out).mono ?_
  (case side1 => exact cC HR0_0 HB)
  (case side2 => exact HC0_0.out)
  rintro e w26 ⟨v106, rfl, ho0, hb⟩
  refine ⟨_, rfl, ?_⟩
  have HO107 := rL (n := 0) ho0 HB; replace BK101 := bB BK101 hb; replace BK102 := bB BK102 hb; replace BK103 := bB BK103 hb; replace BK117 := bB BK117 hb; replace HB := sB HB hb; (try clear hb); (try clear hb2); (try clear hk); (try clear hi); (try clear ho0)
  refine hK.out _ _ ⟨cE BK101 0, cE BK101 1, cE BK101 2⟩ (fun hHeld => ?_)
  clear hK K
  refine nX (some 22) ?_
  refine oX (i := 5) (N := some 25) rfl rfl HT_ (fun K hK => ?_)
  refine gS Try.func30 #[.slice A0_1 l0_1.length c0_1] ?_
  with_reducible refine (paroleref42_Risks.calls k _ _ l0_1 t108 _ ?side1 ?side2 A7.out).mono ?_
  (case side1 => exact cC HR0_1 HB)
  (case side2 => exact HC0_1.out)
  rintro e w27 ⟨v109, rfl, ho0, hb⟩
  refine ⟨_, rfl, ?_⟩
  have HO110 := rL (n := 0) ho0 HB; replace HO107 := rB HO107 hb; replace BK101 := bB BK101 hb; replace BK102 := bB BK102 hb; replace BK103 := bB BK103 hb; replace BK117 := bB BK117 hb; replace HB := sB HB hb; (try clear hb); (try clear hb2); (try clear hk); (try clear hi); (try clear ho0)
  obtain ⟨Ao28, co28, eo28⟩ := Kd.R_slice HO107.out
  (first | subst eo28 | (injection eo28 with f1_ f2_ f3_; have f4_ := f1_.symm; have f5_ := f3_.symm; clear f1_ f2_ f3_; subst f4_; subst f5_))
  obtain ⟨Ao29, co29, eo29⟩ := Kd.R_slice HO110.out
  (first | subst eo29 | (injection eo29 with f1_ f2_ f3_; have f4_ := f1_.symm; have f5_ := f3_.symm; clear f1_ f2_ f3_; subst f4_; subst f5_))
  refine hK.out _ _ ⟨cE BK101 0, cE BK101 1, cE BK101 2⟩ (fun hHeld => ?_)
  clear hK K
  refine nX (some 25) ?_
  refine oX (i := 9) (N := some 29) rfl rfl HT_ (fun K hK => ?_)
  refine gS Try.func35 #[.slice Ao28 t105.length co28, .slice Ao29 t108.length co29, .int .i64 4, .int .i64 (wrap64 (a0_2))] ?_
  with_reducible refine (parolelaw42_open.calls k _ _ t105 _ _ t108 4 (wrap64 (a0_2)) t111 t114 t115 t116 _ ?side1 ?side2 ?side3 ?side4 A8.out).mono ?_
  (case side1 => exact rC HO107)
  (case side2 => exact rN HO107)
  (case side3 => exact rC HO110)
  (case side4 => exact rN HO110)
  rintro e w30 ⟨v112, rfl, ho0, hb⟩
  refine ⟨_, rfl, ?_⟩
  have HO113 := rL (n := 0) ho0 HB; replace HO107 := rB HO107 hb; replace HO110 := rB HO110 hb; replace BK101 := bB BK101 hb; replace BK102 := bB BK102 hb; replace BK103 := bB BK103 hb; replace BK117 := bB BK117 hb; replace HB := sB HB hb; (try clear hb); (try clear hb2); (try clear hk); (try clear hi); (try clear ho0)
  refine hK.out _ _ ⟨cE BK101 0, cE BK101 1, cE BK101 2⟩ (fun hHeld => ?_)
  clear hK K
  refine nX (some 29) ?_
  exact nP (hCont (.slice Ao28 t105.length co28, .slice Ao29 t108.length co29, v112, gb117) _ ⟨hHeld, rD HO107, rD HO110, rD HO113, bD BK101, bD BK102, bD BK103, bD BK117, GW117.out, GE117.out, NB101_117.out, NB117_101.out, NB102_117.out, NB117_102.out, NB103_117.out, NB117_103.out, sD HB⟩)
 rintro ⟨v106, v109, v112, gb117⟩ w31 ⟨hS_, h0_, h1_, h2_, h3_, h4_, h5_, h6_, h7_, h8_, h9_, h10_, h11_, h12_, h13_, h14_, h15_⟩
 (try dsimp only at h0_ h1_ h2_ h3_ h4_ h5_ h6_ h7_ h8_ h9_ h10_ h11_ h12_ h13_ h14_ h15_)
 have HO107 := aM h0_; have HO110 := aM h1_; have HO113 := aM h2_; have BK117 := aM h6_; have GW117 := aM h7_; have GE117 := aM h8_; have NB101_117 := aM h9_; have NB117_101 := aM h10_; have NB102_117 := aM h11_; have NB117_102 := aM h12_; have NB103_117 := aM h13_; have NB117_103 := aM h14_; replace BK101 := aM h3_; replace BK102 := aM h4_; replace BK103 := aM h5_; replace HB := aM h15_; clear h0_ h1_ h2_ h3_ h4_ h5_ h6_ h7_ h8_ h9_ h10_ h11_ h12_ h13_ h14_ h15_
 (try dsimp only at hS_); have hHeld := hS_; clear hS_
 obtain ⟨Ao32, co32, eo32⟩ := Kd.R_slice HO113.out
 (first | subst eo32 | (injection eo32 with f1_ f2_ f3_; have f4_ := f1_.symm; have f5_ := f3_.symm; clear f1_ f2_ f3_; subst f4_; subst f5_))
 refine nQ ?_
 refine oX (i := 11) (N := none) rfl rfl HT_ (fun K hK => ?_)
 have hs33 : w31.cell? ⟨gb117, 0, none⟩ = some (.slice none 0 0) := (blk_cell BK117.out 0).trans rfl
 have hfs33 := blk_frozen BK117.out 0; have hns33_0 := NB101_117.out; have hns33_1 := NB102_117.out; have hns33_2 := NB103_117.out; have hms33_0 := NB117_101.out; have hms33_1 := NB117_102.out; have hms33_2 := NB117_103.out
 have hs34 : w31.cell? ⟨gb117, 1, none⟩ = some (.int .i64 0) := (blk_cell BK117.out 1).trans rfl
 have hfs34 := blk_frozen BK117.out 1; have hns34_0 := NB101_117.out; have hns34_1 := NB102_117.out; have hns34_2 := NB103_117.out; have hms34_0 := NB117_101.out; have hms34_1 := NB117_102.out; have hms34_2 := NB117_103.out
 have hs35 : w31.cell? ⟨gb117, 2, none⟩ = some (.int .i64 0) := (blk_cell BK117.out 2).trans rfl
 have hfs35 := blk_frozen BK117.out 2; have hns35_0 := NB101_117.out; have hns35_1 := NB102_117.out; have hns35_2 := NB103_117.out; have hms35_0 := NB117_101.out; have hms35_1 := NB117_102.out; have hms35_2 := NB117_103.out
 have hs36 : w31.cell? ⟨gb117, 3, none⟩ = some (.int .i64 0) := (blk_cell BK117.out 3).trans rfl
 have hfs36 := blk_frozen BK117.out 3; have hns36_0 := NB101_117.out; have hns36_1 := NB102_117.out; have hns36_2 := NB103_117.out; have hms36_0 := NB117_101.out; have hms36_1 := NB117_102.out; have hms36_2 := NB117_103.out
 refine skip_ (w1 := ?_) (by rfl) rfl ?_ ?_
 rotate_left
 ·go_simp
  rfl
 refine hK.out _ _ ⟨((cell_far (p := ⟨gb117, _, none⟩) NB101_117.out _).trans (((cell_far (p := ⟨gb117, _, none⟩) NB101_117.out _).trans (((cell_far (p := ⟨gb117, _, none⟩) NB101_117.out _).trans (((cell_far (p := ⟨gb117, _, none⟩) NB101_117.out _).trans (hHeld.1)))))))), ((cell_far (p := ⟨gb117, _, none⟩) NB101_117.out _).trans (((cell_far (p := ⟨gb117, _, none⟩) NB101_117.out _).trans (((cell_far (p := ⟨gb117, _, none⟩) NB101_117.out _).trans (((cell_far (p := ⟨gb117, _, none⟩) NB101_117.out _).trans (hHeld.2.1)))))))), ((cell_far (p := ⟨gb117, _, none⟩) NB101_117.out _).trans (((cell_far (p := ⟨gb117, _, none⟩) NB101_117.out _).trans (((cell_far (p := ⟨gb117, _, none⟩) NB101_117.out _).trans (((cell_far (p := ⟨gb117, _, none⟩) NB101_117.out _).trans (hHeld.2.2))))))))⟩ (fun hHeld => ?_)
 clear hK K
 refine done_ (done_of HT_.out (by kernel_rfl)) ?_
 try go_wp2
 have n0_ : Aside0 (Kd.R k71 71 ((((w31.setCell ⟨gb117, 0, none⟩ (.slice Ao32 t111.length co32)).setCell ⟨gb117, 1, none⟩ (.int .i64 t114)).setCell ⟨gb117, 2, none⟩ (.int .i64 t115)).setCell ⟨gb117, 3, none⟩ (.int .i64 t116)) w.heap.size (fun _ => True) v106 t105) := ⟨by (with_reducible repeat (first | apply Kd.R_alloc | apply Kd.R_drewN | apply Kd.R_drew)); exact Kd.R_mono (Kd.R_far (p := ⟨gb117, 3, none⟩) (Kd.R_far (p := ⟨gb117, 2, none⟩) (Kd.R_far (p := ⟨gb117, 1, none⟩) (Kd.R_far (p := ⟨gb117, 0, none⟩) (Kd.R_types HO107.out BK117.out (by decide)) (fun _ hk => hk.2) (.slice Ao32 t111.length co32)) (fun _ hk => hk.2) (.int .i64 t114)) (fun _ hk => hk.2) (.int .i64 t115)) (fun _ hk => hk.2) (.int .i64 t116)) (fun _ hk => trivial)⟩
 have n1_ : Aside0 (Kd.R k47 47 ((((w31.setCell ⟨gb117, 0, none⟩ (.slice Ao32 t111.length co32)).setCell ⟨gb117, 1, none⟩ (.int .i64 t114)).setCell ⟨gb117, 2, none⟩ (.int .i64 t115)).setCell ⟨gb117, 3, none⟩ (.int .i64 t116)) w.heap.size (fun _ => True) v109 t108) := ⟨by (with_reducible repeat (first | apply Kd.R_alloc | apply Kd.R_drewN | apply Kd.R_drew)); exact Kd.R_mono (Kd.R_far (p := ⟨gb117, 3, none⟩) (Kd.R_far (p := ⟨gb117, 2, none⟩) (Kd.R_far (p := ⟨gb117, 1, none⟩) (Kd.R_far (p := ⟨gb117, 0, none⟩) (Kd.R_types HO110.out BK117.out (by decide)) (fun _ hk => hk.2) (.slice Ao32 t111.length co32)) (fun _ hk => hk.2) (.int .i64 t114)) (fun _ hk => hk.2) (.int .i64 t115)) (fun _ hk => hk.2) (.int .i64 t116)) (fun _ hk => trivial)⟩
 have n2_ : Aside0 (Kd.R k60 60 ((((w31.setCell ⟨gb117, 0, none⟩ (.slice Ao32 t111.length co32)).setCell ⟨gb117, 1, none⟩ (.int .i64 t114)).setCell ⟨gb117, 2, none⟩ (.int .i64 t115)).setCell ⟨gb117, 3, none⟩ (.int .i64 t116)) w.heap.size (fun _ => True) (.slice Ao32 t111.length co32) t111) := ⟨by (with_reducible repeat (first | apply Kd.R_alloc | apply Kd.R_drewN | apply Kd.R_drew)); exact Kd.R_mono (Kd.R_far (p := ⟨gb117, 3, none⟩) (Kd.R_far (p := ⟨gb117, 2, none⟩) (Kd.R_far (p := ⟨gb117, 1, none⟩) (Kd.R_far (p := ⟨gb117, 0, none⟩) (Kd.R_types HO113.out BK117.out (by decide)) (fun _ hk => hk.2) (.slice Ao32 t111.length co32)) (fun _ hk => hk.2) (.int .i64 t114)) (fun _ hk => hk.2) (.int .i64 t115)) (fun _ hk => hk.2) (.int .i64 t116)) (fun _ hk => trivial)⟩
 have n3_ : Aside0 (((((w31.setCell ⟨gb117, 0, none⟩ (.slice Ao32 t111.length co32)).setCell ⟨gb117, 1, none⟩ (.int .i64 t114)).setCell ⟨gb117, 2, none⟩ (.int .i64 t115)).setCell ⟨gb117, 3, none⟩ (.int .i64 t116)).heap[gb101]? = some (.cells #[.slice A0_0 l0_0.length c0_0, .slice A0_1 l0_1.length c0_1, .int .u16 a0_2] 45 (0, 0))) := ⟨bF BK101⟩
 have n4_ : Aside0 (((((w31.setCell ⟨gb117, 0, none⟩ (.slice Ao32 t111.length co32)).setCell ⟨gb117, 1, none⟩ (.int .i64 t114)).setCell ⟨gb117, 2, none⟩ (.int .i64 t115)).setCell ⟨gb117, 3, none⟩ (.int .i64 t116)).heap[gb102]? = some (.cells #[.int .u8 a1_0, .int .u8 a1_1] 80 (0, 0))) := ⟨bF BK102⟩
 have n5_ : Aside0 (((((w31.setCell ⟨gb117, 0, none⟩ (.slice Ao32 t111.length co32)).setCell ⟨gb117, 1, none⟩ (.int .i64 t114)).setCell ⟨gb117, 2, none⟩ (.int .i64 t115)).setCell ⟨gb117, 3, none⟩ (.int .i64 t116)).heap[gb103]? = some (.cells #[.int .u8 a2_0, .int .u8 a2_1] 80 (0, 0))) := ⟨bF BK103⟩
 have n6_ : Aside0 (((((w31.setCell ⟨gb117, 0, none⟩ (.slice Ao32 t111.length co32)).setCell ⟨gb117, 1, none⟩ (.int .i64 t114)).setCell ⟨gb117, 2, none⟩ (.int .i64 t115)).setCell ⟨gb117, 3, none⟩ (.int .i64 t116)).heap[gb117]? = some (.cells #[.slice Ao32 t111.length co32, .int .i64 t114, .int .i64 t115, .int .i64 t116] 56 (0, 0))) := ⟨by refine bM ?_; refine blk_put (cs := #[.slice Ao32 t111.length co32, .int .i64 t114, .int .i64 t115, .int .i64 0]) ?_ 3 _ rfl; refine bM ?_; refine blk_put (cs := #[.slice Ao32 t111.length co32, .int .i64 t114, .int .i64 0, .int .i64 0]) ?_ 2 _ rfl; refine bM ?_; refine blk_put (cs := #[.slice Ao32 t111.length co32, .int .i64 0, .int .i64 0, .int .i64 0]) ?_ 1 _ rfl; refine bM ?_; refine blk_put (cs := #[.slice none 0 0, .int .i64 0, .int .i64 0, .int .i64 0]) ?_ 0 _ rfl; exact bD BK117⟩
 have n7_ : Aside0 (Below w.heap.size w ((((w31.setCell ⟨gb117, 0, none⟩ (.slice Ao32 t111.length co32)).setCell ⟨gb117, 1, none⟩ (.int .i64 t114)).setCell ⟨gb117, 2, none⟩ (.int .i64 t115)).setCell ⟨gb117, 3, none⟩ (.int .i64 t116))) := ⟨sD HB⟩
 (try clear HO107); (try clear HO110); (try clear HO113); (try clear BK101); (try clear BK102); (try clear BK103); (try clear BK117); (try clear HB)
 generalize ((((w31.setCell ⟨gb117, 0, none⟩ (.slice Ao32 t111.length co32)).setCell ⟨gb117, 1, none⟩ (.int .i64 t114)).setCell ⟨gb117, 2, none⟩ (.int .i64 t115)).setCell ⟨gb117, 3, none⟩ (.int .i64 t116)) = w37 at n0_ n1_ n2_ n3_ n4_ n5_ n6_ n7_ ⊢
 have HO107 := n0_; have HO110 := n1_; have HO113 := n2_; have BK101 := n3_; have BK102 := n4_; have BK103 := n5_; have BK117 := n6_; have HB := n7_; clear n0_ n1_ n2_ n3_ n4_ n5_ n6_ n7_; replace HO107 := aM (Kd.R_drew HO107.out); replace HO110 := aM (Kd.R_drew HO110.out); replace HO113 := aM (Kd.R_drew HO113.out); replace BK101 := aM (blk_drew BK101.out); replace BK102 := aM (blk_drew BK102.out); replace BK103 := aM (blk_drew BK103.out); replace BK117 := aM (blk_drew BK117.out); replace HB := aM (below_drew1 HB.out)
 refine start_ (n := 10) (S := fun w' => w'.cell? ⟨gb102, 0, none⟩ = some (.int .u8 a1_0) ∧ w'.cell? ⟨gb102, 1, none⟩ = some (.int .u8 a1_1)) (ds := []) #[false, false, false, false, false, false, false, false, false, false] (by kernel_rfl) rfl rfl ⟨cE BK102 0, cE BK102 1⟩ (fun hHeld => ?_); refine with_tabW parolelaw42_PriceSettles.tab5 parolelaw42_PriceSettles.bits5 (fun HT_ HW_ => ?_)
 generalize w37.drew = w38 at HO107 HO110 HO113 BK101 BK102 BK103 BK117 HB hHeld ⊢
 refine pX (i := 0) (N := some 30) rfl rfl HT_ ?_
 refine pX (i := 4) (N := some 34) rfl rfl HT_ ?_
 refine tX (i := 1) (N := some 31) rfl rfl HT_ HW_ hHeld (Or.inl ⟨by rfl, by rintro w' ⟨s0, s1⟩; go_simp; with_reducible rfl⟩) ?_
 refine pX (i := 2) (N := some 32) rfl rfl HT_ ?_
 refine pX (i := 3) (N := some 33) rfl rfl HT_ ?_
 refine pX (i := 8) (N := some 9) rfl rfl HT_ ?_
 refine tX (i := 5) (N := some 35) rfl rfl HT_ HW_ hHeld (Or.inl ⟨by rfl, by rintro w' ⟨s0, s1⟩; go_simp; with_reducible rfl⟩) ?_
 refine pX (i := 6) (N := some 36) rfl rfl HT_ ?_
 refine pX (i := 7) (N := some 37) rfl rfl HT_ ?_
 refine pX (i := 9) (N := some 10) rfl rfl HT_ ?_
 refine done_ (done_of HT_.out (by kernel_rfl)) ?_
 have hnb39 := NB103_101.out; have hnc39 := NB101_103.out; have hnb40 := NB103_102.out; have hnc40 := NB102_103.out; have hnb41 := NB103_117.out; have hnc41 := NB117_103.out; obtain ⟨hcz42_0, hcz42_1, hfz42_0, hfz42_1⟩ := cZ2 BK103
 try go_wp2_with (first | ((with_reducible refine gate_callee (f := 51) rfl ?_); refine gL (some 47) Try.func51 #[.int .i64 (wrap64 ((wrap64 (a2_0)) * 8)), .int .i64 (wrap64 (1 + (wrap64 (Int.tmod a2_1 8))))] ?_; (with_reducible refine (paroleref02_Made.calls k (wrap64 ((wrap64 (a2_0)) * 8)) (wrap64 (1 + (wrap64 (Int.tmod a2_1 8)))) t118 t119 _ A9.out).mono ?_); rintro e w43 ⟨rfl, hb⟩; refine ⟨_, rfl, ?_⟩; replace HO107 := rB HO107 hb; replace HO110 := rB HO110 hb; replace HO113 := rB HO113 hb; replace BK101 := bB BK101 hb; replace BK102 := bB BK102 hb; replace BK103 := bB BK103 hb; replace BK117 := bB BK117 hb; replace HB := sB HB hb; (try clear hb)) | ((with_reducible refine gate_dst (N := 11) rfl ?_); (try (refine gate_guard (by rfl) ?_; dsimp only)); refine bE (N := 11) (cs := #[.int .i64 0, .int .i64 0]) (t := 35) ?_; intro gb120 hg w44 hbox hb; have BK120 := aM (hbox); have GW120 := gE hg HB; have GE120 := gE hg HB; obtain ⟨NB101_120, NB120_101⟩ := nB hg BK101; obtain ⟨NB102_120, NB120_102⟩ := nB hg BK102; obtain ⟨NB103_120, NB120_103⟩ := nB hg BK103; obtain ⟨NB117_120, NB120_117⟩ := nB hg BK117; replace HO107 := rB HO107 hb; replace HO110 := rB HO110 hb; replace HO113 := rB HO113 hb; replace BK101 := bB BK101 hb; replace BK102 := bB BK102 hb; replace BK103 := bB BK103 hb; replace BK117 := bB BK117 hb; replace HB := sB HB hb; clear hb hbox hg; have hnb45 := NB120_101.out; have hnc45 := NB101_120.out; have hnb46 := NB120_102.out; have hnc46 := NB102_120.out; have hnb47 := NB120_103.out; have hnc47 := NB103_120.out; have hnb48 := NB120_117.out; have hnc48 := NB117_120.out; obtain ⟨hcz49_0, hcz49_1, hfz49_0, hfz49_1⟩ := cZ2 BK120; have hnb50 := NB117_101.out; have hnc50 := NB101_117.out; have hnb51 := NB117_102.out; have hnc51 := NB102_117.out; obtain ⟨hcz52_0, hcz52_1, hcz52_2, hcz52_3, hfz52_0, hfz52_1, hfz52_2, hfz52_3⟩ := cZ4 BK117) | ((with_reducible refine gate_callee (f := 45) rfl ?_); refine gL (some 63) Try.func45 #[.slice Ao32 t111.length co32, .agg #[.int .i64 0, .int .i64 ji15, .int .i64 0, .int .i64 0], .int .i64 (wrap64 (Int.tmod a1_1 4)), .agg #[.int .i64 t118, .int .i64 t119]] ?_ (hargs := by (try simp only [List.map_toArray, List.map_cons, List.map_nil]); first | done | (simp only [hji15]; rfl) | rfl); (with_reducible refine (parolelaw42_settle.calls k _ _ t111 0 ji15 0 0 (wrap64 (Int.tmod a1_1 4)) t118 t119 t121 t124 t125 t126 _ ?side1 ?side2 A11.out).mono ?_); (case side1 => refine (Kd.R_reads' (e := 60) (base := w.heap.size) (ok := fun k_ => True) (n := t111.length) (c := co32) ?_).2.2; exact (rD ⟨(Kd.R_mono (Kd.R_far (p := ⟨gb120, 1, none⟩) (Kd.R_far (p := ⟨gb120, 0, none⟩) (Kd.R_types HO113.out BK120.out (by decide)) (fun _ hk => hk.2) (.int .i64 t118)) (fun _ hk => hk.2) (.int .i64 t119)) (fun _ h_ => h_.1))⟩)); (case side2 => exact rN HO113); rintro e w53 ⟨v122, rfl, ho0, hb⟩; refine ⟨_, rfl, ?_⟩; have HO123 := aM (Kd.R_lower (Kd.R_new' ho0 (Kd.R_lt (rD ⟨(Kd.R_mono (Kd.R_far (p := ⟨gb120, 1, none⟩) (Kd.R_far (p := ⟨gb120, 0, none⟩) (Kd.R_types HO113.out BK120.out (by decide)) (fun _ hk => hk.2) (.int .i64 t118)) (fun _ hk => hk.2) (.int .i64 t119)) (fun _ h_ => h_.1))⟩))) (below_size (sD HB))); replace HO107 := aM (Kd.R_below (rD ⟨(Kd.R_mono (Kd.R_far (p := ⟨gb120, 1, none⟩) (Kd.R_far (p := ⟨gb120, 0, none⟩) (Kd.R_types HO107.out BK120.out (by decide)) (fun _ hk => hk.2) (.int .i64 t118)) (fun _ hk => hk.2) (.int .i64 t119)) (fun _ h_ => h_.1))⟩) hb); replace HO110 := aM (Kd.R_below (rD ⟨(Kd.R_mono (Kd.R_far (p := ⟨gb120, 1, none⟩) (Kd.R_far (p := ⟨gb120, 0, none⟩) (Kd.R_types HO110.out BK120.out (by decide)) (fun _ hk => hk.2) (.int .i64 t118)) (fun _ hk => hk.2) (.int .i64 t119)) (fun _ h_ => h_.1))⟩) hb); replace HO113 := aM (Kd.R_elder' (rD ⟨(Kd.R_mono (Kd.R_far (p := ⟨gb120, 1, none⟩) (Kd.R_far (p := ⟨gb120, 0, none⟩) (Kd.R_types HO113.out BK120.out (by decide)) (fun _ hk => hk.2) (.int .i64 t118)) (fun _ hk => hk.2) (.int .i64 t119)) (fun _ h_ => h_.1))⟩) (Kd.R_base ho0) hb); replace BK101 := aM (blk_below (g := gb101) (o := .cells #[.slice A0_0 l0_0.length c0_0, .slice A0_1 l0_1.length c0_1, .int .u16 a0_2] 45 (0, 0)) (bF BK101) hb); replace BK102 := aM (blk_below (g := gb102) (o := .cells #[.int .u8 a1_0, .int .u8 a1_1] 80 (0, 0)) (bF BK102) hb); replace BK103 := aM (blk_below (g := gb103) (o := .cells #[.int .u8 a2_0, .int .u8 a2_1] 80 (0, 0)) (bF BK103) hb); replace BK117 := aM (blk_below (g := gb117) (o := .cells #[.slice Ao32 t111.length co32, .int .i64 t114, .int .i64 t115, .int .i64 t116] 56 (0, 0)) (bF BK117) hb); replace HB := sB HB hb; replace BK120 := aM (blk_below (g := gb120) (o := .cells #[.int .i64 t118, .int .i64 t119] 35 (0, 0)) (by refine bM ?_; refine blk_put (cs := #[.int .i64 t118, .int .i64 0]) ?_ 1 _ rfl; refine bM ?_; refine blk_put (cs := #[.int .i64 0, .int .i64 0]) ?_ 0 _ rfl; exact bD BK120) hb); (try clear hb); (try clear ho0)) | ((with_reducible refine gate_dst (N := 12) rfl ?_); (try (refine gate_guard (by rfl) ?_; dsimp only)); refine bE (N := 12) (cs := #[.slice none 0 0, .int .i64 0, .int .i64 0, .int .i64 0]) (t := 56) ?_; intro gb127 hg w54 hbox hb; have BK127 := aM (hbox); have GW127 := gE hg HB; have GE127 := gE hg HB; obtain ⟨NB101_127, NB127_101⟩ := nB hg BK101; obtain ⟨NB102_127, NB127_102⟩ := nB hg BK102; obtain ⟨NB103_127, NB127_103⟩ := nB hg BK103; obtain ⟨NB117_127, NB127_117⟩ := nB hg BK117; obtain ⟨NB120_127, NB127_120⟩ := nB hg BK120; replace HO107 := rB HO107 hb; replace HO110 := rB HO110 hb; replace HO113 := rB HO113 hb; replace HO123 := rB HO123 hb; replace BK101 := bB BK101 hb; replace BK102 := bB BK102 hb; replace BK103 := bB BK103 hb; replace BK117 := bB BK117 hb; replace BK120 := bB BK120 hb; replace HB := sB HB hb; clear hb hbox hg; obtain ⟨Ao55, co55, eo55⟩ := Kd.R_slice HO123.out; subst eo55; have hnb56 := NB127_101.out; have hnc56 := NB101_127.out; have hnb57 := NB127_102.out; have hnc57 := NB102_127.out; have hnb58 := NB127_103.out; have hnc58 := NB103_127.out; have hnb59 := NB127_117.out; have hnc59 := NB117_127.out; have hnb60 := NB127_120.out; have hnc60 := NB120_127.out; obtain ⟨hcz61_0, hcz61_1, hcz61_2, hcz61_3, hfz61_0, hfz61_1, hfz61_2, hfz61_3⟩ := cZ4 BK127))
 have n0_ : Aside0 (Kd.R k71 71 ((((w54.setCell ⟨gb127, 0, none⟩ (.slice Ao55 t121.length co55)).setCell ⟨gb127, 1, none⟩ (.int .i64 t124)).setCell ⟨gb127, 2, none⟩ (.int .i64 t125)).setCell ⟨gb127, 3, none⟩ (.int .i64 t126)) w.heap.size (fun _ => True) v106 t105) := ⟨by (with_reducible repeat (first | apply Kd.R_alloc | apply Kd.R_drewN | apply Kd.R_drew)); exact Kd.R_mono (Kd.R_far (p := ⟨gb127, 3, none⟩) (Kd.R_far (p := ⟨gb127, 2, none⟩) (Kd.R_far (p := ⟨gb127, 1, none⟩) (Kd.R_far (p := ⟨gb127, 0, none⟩) (Kd.R_types HO107.out BK127.out (by decide)) (fun _ hk => hk.2) (.slice Ao55 t121.length co55)) (fun _ hk => hk.2) (.int .i64 t124)) (fun _ hk => hk.2) (.int .i64 t125)) (fun _ hk => hk.2) (.int .i64 t126)) (fun _ hk => trivial)⟩
 have n1_ : Aside0 (Kd.R k47 47 ((((w54.setCell ⟨gb127, 0, none⟩ (.slice Ao55 t121.length co55)).setCell ⟨gb127, 1, none⟩ (.int .i64 t124)).setCell ⟨gb127, 2, none⟩ (.int .i64 t125)).setCell ⟨gb127, 3, none⟩ (.int .i64 t126)) w.heap.size (fun _ => True) v109 t108) := ⟨by (with_reducible repeat (first | apply Kd.R_alloc | apply Kd.R_drewN | apply Kd.R_drew)); exact Kd.R_mono (Kd.R_far (p := ⟨gb127, 3, none⟩) (Kd.R_far (p := ⟨gb127, 2, none⟩) (Kd.R_far (p := ⟨gb127, 1, none⟩) (Kd.R_far (p := ⟨gb127, 0, none⟩) (Kd.R_types HO110.out BK127.out (by decide)) (fun _ hk => hk.2) (.slice Ao55 t121.length co55)) (fun _ hk => hk.2) (.int .i64 t124)) (fun _ hk => hk.2) (.int .i64 t125)) (fun _ hk => hk.2) (.int .i64 t126)) (fun _ hk => trivial)⟩
 have n2_ : Aside0 (Kd.R k60 60 ((((w54.setCell ⟨gb127, 0, none⟩ (.slice Ao55 t121.length co55)).setCell ⟨gb127, 1, none⟩ (.int .i64 t124)).setCell ⟨gb127, 2, none⟩ (.int .i64 t125)).setCell ⟨gb127, 3, none⟩ (.int .i64 t126)) w.heap.size (fun k_ => some k_ ≠ (.slice Ao55 t121.length co55 : Value).ownBlock) (.slice Ao32 t111.length co32) t111) := ⟨by (with_reducible repeat (first | apply Kd.R_alloc | apply Kd.R_drewN | apply Kd.R_drew)); exact Kd.R_mono (Kd.R_far (p := ⟨gb127, 3, none⟩) (Kd.R_far (p := ⟨gb127, 2, none⟩) (Kd.R_far (p := ⟨gb127, 1, none⟩) (Kd.R_far (p := ⟨gb127, 0, none⟩) (Kd.R_types HO113.out BK127.out (by decide)) (fun _ hk => hk.2) (.slice Ao55 t121.length co55)) (fun _ hk => hk.2) (.int .i64 t124)) (fun _ hk => hk.2) (.int .i64 t125)) (fun _ hk => hk.2) (.int .i64 t126)) (fun _ hk => hk.1.2)⟩
 have n3_ : Aside0 (Kd.R k60 60 ((((w54.setCell ⟨gb127, 0, none⟩ (.slice Ao55 t121.length co55)).setCell ⟨gb127, 1, none⟩ (.int .i64 t124)).setCell ⟨gb127, 2, none⟩ (.int .i64 t125)).setCell ⟨gb127, 3, none⟩ (.int .i64 t126)) w.heap.size (fun k_ => some k_ ≠ (.slice Ao32 t111.length co32 : Value).ownBlock) (.slice Ao55 t121.length co55) t121) := ⟨by (with_reducible repeat (first | apply Kd.R_alloc | apply Kd.R_drewN | apply Kd.R_drew)); exact Kd.R_mono (Kd.R_far (p := ⟨gb127, 3, none⟩) (Kd.R_far (p := ⟨gb127, 2, none⟩) (Kd.R_far (p := ⟨gb127, 1, none⟩) (Kd.R_far (p := ⟨gb127, 0, none⟩) (Kd.R_types HO123.out BK127.out (by decide)) (fun _ hk => hk.2) (.slice Ao55 t121.length co55)) (fun _ hk => hk.2) (.int .i64 t124)) (fun _ hk => hk.2) (.int .i64 t125)) (fun _ hk => hk.2) (.int .i64 t126)) (fun _ hk => hk.1.2)⟩
 have n4_ : Aside0 (((((w54.setCell ⟨gb127, 0, none⟩ (.slice Ao55 t121.length co55)).setCell ⟨gb127, 1, none⟩ (.int .i64 t124)).setCell ⟨gb127, 2, none⟩ (.int .i64 t125)).setCell ⟨gb127, 3, none⟩ (.int .i64 t126)).heap[gb101]? = some (.cells #[.slice A0_0 l0_0.length c0_0, .slice A0_1 l0_1.length c0_1, .int .u16 a0_2] 45 (0, 0))) := ⟨bF BK101⟩
 have n5_ : Aside0 (((((w54.setCell ⟨gb127, 0, none⟩ (.slice Ao55 t121.length co55)).setCell ⟨gb127, 1, none⟩ (.int .i64 t124)).setCell ⟨gb127, 2, none⟩ (.int .i64 t125)).setCell ⟨gb127, 3, none⟩ (.int .i64 t126)).heap[gb102]? = some (.cells #[.int .u8 a1_0, .int .u8 a1_1] 80 (0, 0))) := ⟨bF BK102⟩
 have n6_ : Aside0 (((((w54.setCell ⟨gb127, 0, none⟩ (.slice Ao55 t121.length co55)).setCell ⟨gb127, 1, none⟩ (.int .i64 t124)).setCell ⟨gb127, 2, none⟩ (.int .i64 t125)).setCell ⟨gb127, 3, none⟩ (.int .i64 t126)).heap[gb103]? = some (.cells #[.int .u8 a2_0, .int .u8 a2_1] 80 (0, 0))) := ⟨bF BK103⟩
 have n7_ : Aside0 (((((w54.setCell ⟨gb127, 0, none⟩ (.slice Ao55 t121.length co55)).setCell ⟨gb127, 1, none⟩ (.int .i64 t124)).setCell ⟨gb127, 2, none⟩ (.int .i64 t125)).setCell ⟨gb127, 3, none⟩ (.int .i64 t126)).heap[gb117]? = some (.cells #[.slice Ao32 t111.length co32, .int .i64 t114, .int .i64 t115, .int .i64 t116] 56 (0, 0))) := ⟨bF BK117⟩
 have n8_ : Aside0 (((((w54.setCell ⟨gb127, 0, none⟩ (.slice Ao55 t121.length co55)).setCell ⟨gb127, 1, none⟩ (.int .i64 t124)).setCell ⟨gb127, 2, none⟩ (.int .i64 t125)).setCell ⟨gb127, 3, none⟩ (.int .i64 t126)).heap[gb120]? = some (.cells #[.int .i64 t118, .int .i64 t119] 35 (0, 0))) := ⟨bF BK120⟩
 have n9_ : Aside0 (((((w54.setCell ⟨gb127, 0, none⟩ (.slice Ao55 t121.length co55)).setCell ⟨gb127, 1, none⟩ (.int .i64 t124)).setCell ⟨gb127, 2, none⟩ (.int .i64 t125)).setCell ⟨gb127, 3, none⟩ (.int .i64 t126)).heap[gb127]? = some (.cells #[.slice Ao55 t121.length co55, .int .i64 t124, .int .i64 t125, .int .i64 t126] 56 (0, 0))) := ⟨by refine bM ?_; refine blk_put (cs := #[.slice Ao55 t121.length co55, .int .i64 t124, .int .i64 t125, .int .i64 0]) ?_ 3 _ rfl; refine bM ?_; refine blk_put (cs := #[.slice Ao55 t121.length co55, .int .i64 t124, .int .i64 0, .int .i64 0]) ?_ 2 _ rfl; refine bM ?_; refine blk_put (cs := #[.slice Ao55 t121.length co55, .int .i64 0, .int .i64 0, .int .i64 0]) ?_ 1 _ rfl; refine bM ?_; refine blk_put (cs := #[.slice none 0 0, .int .i64 0, .int .i64 0, .int .i64 0]) ?_ 0 _ rfl; exact bD BK127⟩
 have n10_ : Aside0 (Below w.heap.size w ((((w54.setCell ⟨gb127, 0, none⟩ (.slice Ao55 t121.length co55)).setCell ⟨gb127, 1, none⟩ (.int .i64 t124)).setCell ⟨gb127, 2, none⟩ (.int .i64 t125)).setCell ⟨gb127, 3, none⟩ (.int .i64 t126))) := ⟨sD HB⟩
 (try clear HO107); (try clear HO110); (try clear HO113); (try clear HO123); (try clear BK101); (try clear BK102); (try clear BK103); (try clear BK117); (try clear BK120); (try clear BK127); (try clear HB)
 generalize ((((w54.setCell ⟨gb127, 0, none⟩ (.slice Ao55 t121.length co55)).setCell ⟨gb127, 1, none⟩ (.int .i64 t124)).setCell ⟨gb127, 2, none⟩ (.int .i64 t125)).setCell ⟨gb127, 3, none⟩ (.int .i64 t126)) = w62 at n0_ n1_ n2_ n3_ n4_ n5_ n6_ n7_ n8_ n9_ n10_ ⊢
 have HO107 := n0_; have HO110 := n1_; have HO113 := n2_; have HO123 := n3_; have BK101 := n4_; have BK102 := n5_; have BK103 := n6_; have BK117 := n7_; have BK120 := n8_; have BK127 := n9_; have HB := n10_; clear n0_ n1_ n2_ n3_ n4_ n5_ n6_ n7_ n8_ n9_ n10_; replace HO107 := aM (Kd.R_drew HO107.out); replace HO110 := aM (Kd.R_drew HO110.out); replace HO113 := aM (Kd.R_drew HO113.out); replace HO123 := aM (Kd.R_drew HO123.out); replace BK101 := aM (blk_drew BK101.out); replace BK102 := aM (blk_drew BK102.out); replace BK103 := aM (blk_drew BK103.out); replace BK117 := aM (blk_drew BK117.out); replace BK120 := aM (blk_drew BK120.out)
 replace BK127 := aM (blk_drew BK127.out); replace HB := aM (below_drew1 HB.out)
 have p128 : 0 ≤ ((ji15) : Int) := of_decide_eq_true (by first | (with_reducible assumption) | assumption)
 have q128 : (ji15) < (t111.length : Int) := of_decide_eq_true (by first | (with_reducible assumption) | assumption)
 obtain ⟨ad128, e128, hx128_0, hx128_1, hx128_2⟩ := at_T60 (Kd.R_reads' HO113.out).2.2 (ji15) p128 q128
 cases e128
 replace p128 := eq_true p128; replace q128 := eq_true q128
 refine start_ (n := 23) (S := fun w' => w'.cell? ⟨gb117, 0, none⟩ = some (.slice (some ad128) t111.length co32) ∧ w'.cell? ⟨gb117, 1, none⟩ = some (.int .i64 t114) ∧ w'.cell? ⟨gb117, 2, none⟩ = some (.int .i64 t115) ∧ w'.cell? ⟨gb117, 3, none⟩ = some (.int .i64 t116) ∧ w'.cell? ⟨gb127, 0, none⟩ = some (.slice Ao55 t121.length co55) ∧ w'.cell? ⟨gb127, 1, none⟩ = some (.int .i64 t124) ∧ w'.cell? ⟨gb127, 2, none⟩ = some (.int .i64 t125) ∧ w'.cell? ⟨gb127, 3, none⟩ = some (.int .i64 t126) ∧ w'.cell? ⟨gb120, 0, none⟩ = some (.int .i64 t118) ∧ w'.cell? ⟨gb120, 1, none⟩ = some (.int .i64 t119) ∧ w'.cell? (ad128.add (((ji15)).toNat * 3)) = some (.int .i64 ((rd_T60 t111 (ji15)).f0)) ∧ w'.cell? ⟨(ad128.add (((ji15)).toNat * 3)).block, (ad128.add (((ji15)).toNat * 3)).off + 1, none⟩ = some (.int .i64 ((rd_T60 t111 (ji15)).f1.f0)) ∧ w'.cell? ⟨(ad128.add (((ji15)).toNat * 3)).block, (ad128.add (((ji15)).toNat * 3)).off + 2, none⟩ = some (.int .i64 ((rd_T60 t111 (ji15)).f1.f1))) (ds := []) #[false, false, false, false, false, false, false, false, false, false, false, false, false, false, false, false, false, false, false, false, false, false, false] (by kernel_rfl) rfl rfl ⟨cE BK117 0, cE BK117 1, cE BK117 2, cE BK117 3, cE BK127 0, cE BK127 1, cE BK127 2, cE BK127 3, cE BK120 0, cE BK120 1, hx128_0, hx128_1, hx128_2⟩ (fun hHeld => ?_); refine with_tabW parolelaw42_PriceSettles.tab12 parolelaw42_PriceSettles.bits12 (fun HT_ HW_ => ?_)
 generalize w62.drew = w63 at HO107 HO110 HO113 HO123 BK101 BK102 BK103 BK117 BK120 BK127 HB hx128_0 hx128_1 hx128_2 hHeld ⊢
 refine pX (i := 0) (N := some 73) rfl rfl HT_ ?_
 refine tX (i := 1) (N := some 74) rfl rfl HT_ HW_ hHeld (Or.inl ⟨by rfl, by rintro w' ⟨s0, s1, s2, s3, s4, s5, s6, s7, s8, s9, s10, s11, s12⟩; go_simp; with_reducible rfl⟩) ?_
 refine pX (i := 2) (N := some 75) rfl rfl HT_ ?_
 refine pX (i := 3) (N := some 76) rfl rfl HT_ ?_
 refine pX (i := 4) (N := some 77) rfl rfl HT_ ?_
 refine pX (i := 5) (N := some 78) rfl rfl HT_ ?_
 refine tX (i := 6) (N := some 79) rfl rfl HT_ HW_ hHeld (Or.inl ⟨by rfl, by rintro w' ⟨s0, s1, s2, s3, s4, s5, s6, s7, s8, s9, s10, s11, s12⟩; go_simp; with_reducible rfl⟩) ?_
 refine pX (i := 7) (N := some 80) rfl rfl HT_ ?_
 refine pX (i := 8) (N := some 81) rfl rfl HT_ ?_
 refine pX (i := 9) (N := some 82) rfl rfl HT_ ?_
 refine pX (i := 10) (N := some 83) rfl rfl HT_ ?_
 refine pX (i := 11) (N := some 84) rfl rfl HT_ ?_
 refine pX (i := 13) (N := some 86) rfl rfl HT_ ?_
 refine pX (i := 15) (N := some 88) rfl rfl HT_ ?_
 refine tX (i := 12) (N := some 85) rfl rfl HT_ HW_ hHeld (Or.inl ⟨by rfl, by rintro w' ⟨s0, s1, s2, s3, s4, s5, s6, s7, s8, s9, s10, s11, s12⟩; go_simp; with_reducible rfl⟩) ?_
 refine tX (i := 14) (N := some 87) rfl rfl HT_ HW_ hHeld (Or.inl ⟨by rfl, by rintro w' ⟨s0, s1, s2, s3, s4, s5, s6, s7, s8, s9, s10, s11, s12⟩; go_simp; with_reducible rfl⟩) ?_
 refine pX (i := 16) (N := some 89) rfl rfl HT_ ?_
 refine pX (i := 17) (N := some 90) rfl rfl HT_ ?_
 refine tX (i := 18) (N := some 91) rfl rfl HT_ HW_ hHeld (Or.inl ⟨by rfl, by rintro w' ⟨s0, s1, s2, s3, s4, s5, s6, s7, s8, s9, s10, s11, s12⟩; go_simp; with_reducible rfl⟩) ?_
 refine tX (i := 19) (N := some 92) rfl rfl HT_ HW_ hHeld (Or.inl ⟨by rfl, by rintro w' ⟨s0, s1, s2, s3, s4, s5, s6, s7, s8, s9, s10, s11, s12⟩; go_simp; with_reducible rfl⟩) ?_
 refine oX (i := 20) (N := some 93) rfl rfl HT_ (fun K hK => ?_)
 refine gS Try.func52 #[.agg #[.int .i64 ((rd_T60 t111 (ji15)).f1.f0), .int .i64 ((rd_T60 t111 (ji15)).f1.f1)], .agg #[.int .i64 t118, .int .i64 t119]] ?_ (hargs := by (try simp only [List.map_toArray, List.map_cons, List.map_nil]); first | done | (simp only [hji15]; rfl) | rfl)
 with_reducible refine (rat_Min.calls ((rd_T60 t111 (ji15)).f1.f0) ((rd_T60 t111 (ji15)).f1.f1) t118 t119 t129 t130 _ A18.out).mono ?_
 rintro e w64 ⟨rfl, hb⟩
 have HS10_ := (hb.cell (World.block_lt_of_cell? _ _ (hHeld.2.2.2.2.2.2.2.2.2.2.1))).trans (hHeld.2.2.2.2.2.2.2.2.2.2.1); have HS11_ := (hb.cell (World.block_lt_of_cell? _ _ (hHeld.2.2.2.2.2.2.2.2.2.2.2.1))).trans (hHeld.2.2.2.2.2.2.2.2.2.2.2.1); have HS12_ := (hb.cell (World.block_lt_of_cell? _ _ (hHeld.2.2.2.2.2.2.2.2.2.2.2.2))).trans (hHeld.2.2.2.2.2.2.2.2.2.2.2.2)
 refine ⟨_, rfl, ?_⟩
 replace HO107 := rB HO107 hb; replace HO110 := rB HO110 hb; replace HO113 := rB HO113 hb; replace HO123 := rB HO123 hb; replace BK101 := bB BK101 hb; replace BK102 := bB BK102 hb; replace BK103 := bB BK103 hb; replace BK117 := bB BK117 hb; replace BK120 := bB BK120 hb; replace BK127 := bB BK127 hb; replace HB := sB HB hb; (try clear hb); (try clear hb2); (try clear hk); (try clear hi)
 refine hK.out _ _ ⟨cE BK117 0, cE BK117 1, cE BK117 2, cE BK117 3, cE BK127 0, cE BK127 1, cE BK127 2, cE BK127 3, cE BK120 0, cE BK120 1, HS10_, HS11_, HS12_⟩ (fun hHeld => ?_)
 clear hK K
 refine nX (some 93) ?_
 refine pX (i := 21) (N := some 94) rfl rfl HT_ ?_
 refine pX (i := 22) (N := some 95) rfl rfl HT_ ?_
 refine done_ (done_of HT_.out (by kernel_rfl)) ?_
 try go_wp2
 go_loopg [13] k (fun kq v13 w' => ∃ (x13_1 : Int), v13 = .int .i64 x13_1 ∧ Aside0 (parolelaw42_PriceSettles.l0 kq true ji15 (wrap64 (Int.tmod a1_1 4)) x13_1 t111 t114 t115 t116 t121 t124 t125 t126 = some r) ∧ Aside0 (kq ≤ k) ∧ Aside0 (Kd.R k60 60 w' w.heap.size (fun k_ => some k_ ≠ ((.slice Ao55 t121.length co55) : Value).ownBlock) (.slice (some ad128) t111.length co32) t111) ∧ Aside0 (Kd.R k60 60 w' w.heap.size (fun k_ => some k_ ≠ ((.slice (some ad128) t111.length co32) : Value).ownBlock) (.slice Ao55 t121.length co55) t121) ∧ Aside0 (w'.heap[gb101]? = some (.cells #[(.slice A0_0 l0_0.length c0_0), (.slice A0_1 l0_1.length c0_1), .int .u16 a0_2] 45 (0, 0))) ∧ Aside0 (w'.heap[gb102]? = some (.cells #[.int .u8 a1_0, .int .u8 a1_1] 80 (0, 0))) ∧ Aside0 (w'.heap[gb103]? = some (.cells #[.int .u8 a2_0, .int .u8 a2_1] 80 (0, 0))) ∧ Aside0 (w'.heap[gb117]? = some (.cells #[(.slice (some ad128) t111.length co32), .int .i64 t114, .int .i64 t115, .int .i64 t116] 56 (0, 0))) ∧ Aside0 (w'.heap[gb120]? = some (.cells #[.int .i64 t118, .int .i64 t119] 35 (0, 0))) ∧ Aside0 (w'.heap[gb127]? = some (.cells #[(.slice Ao55 t121.length co55), .int .i64 t124, .int .i64 t125, .int .i64 t126] 56 (0, 0))) ∧ Aside0 (Below w.heap.size w w'))
 case atStart => exact ⟨(0), (by first | rfl | (simp; done) | (simp [*]; done)), H', ⟨Nat.le_refl _⟩, ⟨by (with_reducible repeat (first | apply Kd.R_alloc | apply Kd.R_drewN | apply Kd.R_drew)); exact HO113.out⟩, ⟨by (with_reducible repeat (first | apply Kd.R_alloc | apply Kd.R_drewN | apply Kd.R_drew)); exact HO123.out⟩, ⟨by exact bD BK101⟩, ⟨by exact bD BK102⟩, ⟨by exact bD BK103⟩, ⟨by exact bD BK117⟩, ⟨by exact bD BK120⟩, ⟨by exact bD BK127⟩, ⟨sD HB⟩⟩
 case round =>
  clear H'
  try clear p1
  try clear q1
  try clear hx1
  try clear p2
  try clear c3
  try clear c4
  try clear c5
  try clear c6
  try clear p6
  try clear p12
  try clear q12
  try clear hx12
  try clear c35
  try clear c39
  try clear c40
  try clear c41
  try clear c45
  try clear c46
  try clear c47
  try clear c48
  try clear c50
  try clear c51
  try clear c52
  try clear c56
  try clear c57
  try clear c58
  try clear c59
  try clear c60
  try clear p64
  try clear hcz42_0
  try clear hcz42_1
  try clear hcz49_0
  try clear hcz49_1
  try clear hcz52_0
  try clear hcz52_1
  try clear hcz52_2
  try clear hcz52_3
  try clear hcz61_0
  try clear hcz61_1
  try clear hcz61_2
  try clear hcz61_3
  try clear hfz42_0
  try clear hfz42_1
  try clear hfz49_0
  try clear hfz49_1
  try clear hfz52_0
  try clear hfz52_1
  try clear hfz52_2
  try clear hfz52_3
  try clear hfz61_0
  try clear hfz61_1
  try clear hfz61_2
  try clear hfz61_3
  try clear hx128_0
  try clear hx128_1
  try clear hx128_2
  try clear p128
  try clear q128
  obtain ⟨x13_1, rfl, HA, HK1, HO_118000, HO_128000, BK101, BK102, BK103, BK117, BK120, BK127, HB⟩ := hrel
  cases gk with
  | zero => exact absurd HA.out (by simp [parolelaw42_PriceSettles.l0])
  | succ k1 =>
   have H := HA.out; clear HA
   simp only [parolelaw42_PriceSettles.l0] at H
   by_cases c65 : x13_1 < 4
   ·rw [if_pos c65] at H
    have c65b0 : decide (x13_1 < 4) = true := decide_eq_true c65
    clear c65
    by_cases c66 : 0 ≤ x13_1
    ·rw [if_pos c66] at H
     have c66b0 : decide (0 ≤ x13_1) = true := decide_eq_true c66
     clear c66
     by_cases c67 : x13_1 < (t121.length : Int)
     ·rw [if_pos c67] at H
      have c67b0 : decide (x13_1 < (t121.length : Int)) = true := decide_eq_true c67
      clear c67
      by_cases c68 : ((rd_T60 t121 x13_1).f0) = x13_1
      ·rw [if_pos c68] at H
       have c68b0 : (((rd_T60 t121 x13_1).f0) == x13_1) = true := beq_iff_eq.mpr c68
       have c68b1 : (((rd_T60 t121 x13_1).f0) != x13_1) = false := bne_eq_false_iff_eq.mpr c68
       clear c68
       by_cases c69 : ((rd_T60 t121 x13_1).f1.f0) < 0
       ·rw [if_pos c69] at H
        have c69b0 : decide (((rd_T60 t121 x13_1).f1.f0) < 0) = true := decide_eq_true c69
        clear c69
        exact absurd ((Option.some.inj H).trans HT.out) (by decide)
       ·rw [if_neg c69] at H
        have c69b0 : decide (((rd_T60 t121 x13_1).f1.f0) < 0) = false := decide_eq_false c69
        clear c69
        by_cases c70 : x13_1 = ji15
        ·rw [if_pos c70] at H
         have c70b0 : (x13_1 == ji15) = true := beq_iff_eq.mpr c70
         have c70b1 : (x13_1 != ji15) = false := bne_eq_false_iff_eq.mpr c70
         clear c70; have H' := aM H; clear H
         try go_wp2
         replace HO_118000 := aM (Kd.R_drew HO_118000.out); replace HO_128000 := aM (Kd.R_drew HO_128000.out); replace BK101 := aM (blk_drew BK101.out); replace BK102 := aM (blk_drew BK102.out); replace BK103 := aM (blk_drew BK103.out); replace BK117 := aM (blk_drew BK117.out); replace BK120 := aM (blk_drew BK120.out); replace BK127 := aM (blk_drew BK127.out); replace HB := aM (below_drew1 HB.out)
         have p131 : 0 ≤ (x13_1 : Int) := of_decide_eq_true (by first | (with_reducible assumption) | assumption)
         have q131 : x13_1 < (t121.length : Int) := of_decide_eq_true (by first | (with_reducible assumption) | assumption)
         obtain ⟨ad131, e131, hx131_0, hx131_1, hx131_2⟩ := at_T60 (Kd.R_reads' HO_128000.out).2.2 x13_1 p131 q131
         cases e131
         replace p131 := eq_true p131; replace q131 := eq_true q131
         have p132 : 0 ≤ (x13_1 : Int) := of_decide_eq_true (by first | (with_reducible assumption) | assumption)
         have q132 : x13_1 < (t121.length : Int) := of_decide_eq_true (by first | (with_reducible assumption) | assumption)
         obtain ⟨ad132, e132, hx132_0, hx132_1, hx132_2⟩ := at_T60 (Kd.R_reads' HO_128000.out).2.2 x13_1 p132 q132
         obtain rfl : ad131 = ad132 := (by injection e132)
         replace p132 := eq_true p132; replace q132 := eq_true q132
         refine start_ (n := 41) (S := fun w' => w'.cell? ⟨gb127, 0, none⟩ = some (.slice (some ad131) t121.length co55) ∧ w'.cell? ⟨gb127, 1, none⟩ = some (.int .i64 t124) ∧ w'.cell? ⟨gb127, 2, none⟩ = some (.int .i64 t125) ∧ w'.cell? ⟨gb127, 3, none⟩ = some (.int .i64 t126) ∧ w'.cell? (ad131.add ((x13_1).toNat * 3)) = some (.int .i64 ((rd_T60 t121 x13_1).f0)) ∧ w'.cell? ⟨(ad131.add ((x13_1).toNat * 3)).block, (ad131.add ((x13_1).toNat * 3)).off + 1, none⟩ = some (.int .i64 ((rd_T60 t121 x13_1).f1.f0)) ∧ w'.cell? ⟨(ad131.add ((x13_1).toNat * 3)).block, (ad131.add ((x13_1).toNat * 3)).off + 2, none⟩ = some (.int .i64 ((rd_T60 t121 x13_1).f1.f1)) ∧ w'.cell? (ad131.add ((x13_1).toNat * 3)) = some (.int .i64 ((rd_T60 t121 x13_1).f0)) ∧ w'.cell? ⟨(ad131.add ((x13_1).toNat * 3)).block, (ad131.add ((x13_1).toNat * 3)).off + 1, none⟩ = some (.int .i64 ((rd_T60 t121 x13_1).f1.f0)) ∧ w'.cell? ⟨(ad131.add ((x13_1).toNat * 3)).block, (ad131.add ((x13_1).toNat * 3)).off + 2, none⟩ = some (.int .i64 ((rd_T60 t121 x13_1).f1.f1))) (ds := []) #[false, false, false, false, false, false, false, false, false, false, false, false, false, false, false, false, false, false, false, false, false, false, false, false, false, false, false, false, false, false, false, false, false, false, false, false, false, false, false, false, false] (by kernel_rfl) rfl rfl ⟨cE BK127 0, cE BK127 1, cE BK127 2, cE BK127 3, hx131_0, hx131_1, hx131_2, hx132_0, hx132_1, hx132_2⟩ (fun hHeld => ?_); refine with_tabW parolelaw42_PriceSettles.tab17 parolelaw42_PriceSettles.bits17 (fun HT_ HW_ => ?_)
         generalize wr.drew = w71 at HO_118000 HO_128000 BK101 BK102 BK103 BK117 BK120 BK127 HB hx131_0 hx131_1 hx131_2 hx132_0 hx132_1 hx132_2 hHeld ⊢
         refine pX (i := 0) (N := some 100) rfl rfl HT_ ?_
         refine pX (i := 2) (N := some 102) rfl rfl HT_ ?_
         refine pX (i := 6) (N := some 106) rfl rfl HT_ ?_
         refine tX (i := 1) (N := some 101) rfl rfl HT_ HW_ hHeld (Or.inl ⟨by rfl, by rintro w' ⟨s0, s1, s2, s3, s4, s5, s6, s7, s8, s9⟩; go_simp; with_reducible rfl⟩) ?_
         refine pX (i := 3) (N := some 103) rfl rfl HT_ ?_
         refine pX (i := 4) (N := some 104) rfl rfl HT_ ?_
         refine tX (i := 5) (N := some 105) rfl rfl HT_ HW_ hHeld (Or.inl ⟨by rfl, by rintro w' ⟨s0, s1, s2, s3, s4, s5, s6, s7, s8, s9⟩; go_simp; with_reducible rfl⟩) ?_
         refine pX (i := 7) (N := some 107) rfl rfl HT_ ?_
         refine pX (i := 8) (N := some 108) rfl rfl HT_ ?_
         refine pX (i := 9) (N := some 109) rfl rfl HT_ ?_
         refine pX (i := 11) (N := some 111) rfl rfl HT_ ?_
         refine tX (i := 10) (N := some 110) rfl rfl HT_ HW_ hHeld (Or.inl ⟨by rfl, by rintro w' ⟨s0, s1, s2, s3, s4, s5, s6, s7, s8, s9⟩; go_simp; with_reducible rfl⟩) ?_
         refine pX (i := 12) (N := some 112) rfl rfl HT_ ?_
         refine pX (i := 13) (N := some 113) rfl rfl HT_ ?_
         refine pX (i := 14) (N := some 114) rfl rfl HT_ ?_
         refine tX (i := 15) (N := some 115) rfl rfl HT_ HW_ hHeld (Or.inl ⟨by rfl, by rintro w' ⟨s0, s1, s2, s3, s4, s5, s6, s7, s8, s9⟩; go_simp; with_reducible rfl⟩) ?_
         refine pX (i := 16) (N := some 116) rfl rfl HT_ ?_
         refine pX (i := 17) (N := some 117) rfl rfl HT_ ?_
         refine pX (i := 18) (N := some 118) rfl rfl HT_ ?_
         refine pX (i := 19) (N := some 119) rfl rfl HT_ ?_
         refine pX (i := 20) (N := some 120) rfl rfl HT_ ?_
         refine pX (i := 21) (N := some 121) rfl rfl HT_ ?_
         refine pX (i := 22) (N := some 122) rfl rfl HT_ ?_
         refine pU (i := 23) (N := some 123) rfl rfl HT_ ?_
         refine pU (i := 24) (N := some 124) rfl rfl HT_ ?_
         refine pU (i := 25) (N := some 125) rfl rfl HT_ ?_
         refine pX (i := 26) (N := some 126) rfl rfl HT_ ?_
         refine pX (i := 27) (N := some 127) rfl rfl HT_ ?_
         refine pU (i := 28) (N := some 128) rfl rfl HT_ ?_
         refine pU (i := 29) (N := some 129) rfl rfl HT_ ?_
         refine pU (i := 30) (N := some 130) rfl rfl HT_ ?_
         refine pU (i := 31) (N := some 131) rfl rfl HT_ ?_
         refine pU (i := 32) (N := some 132) rfl rfl HT_ ?_
         refine pU (i := 33) (N := some 133) rfl rfl HT_ ?_
         refine pU (i := 34) (N := some 134) rfl rfl HT_ ?_
         refine pU (i := 35) (N := some 135) rfl rfl HT_ ?_
         refine pU (i := 36) (N := some 136) rfl rfl HT_ ?_
         refine pU (i := 37) (N := some 137) rfl rfl HT_ ?_
         refine pU (i := 38) (N := some 138) rfl rfl HT_ ?_
         refine pX (i := 39) (N := some 139) rfl rfl HT_ ?_
         refine pX (i := 40) (N := some 140) rfl rfl HT_ ?_
         refine done_ (done_of HT_.out (by kernel_rfl)) ?_
         try go_wp2
         go_roundg k1
         case measure => have := HK1.out; omega
         case rel => exact ⟨(wrap64 (x13_1 + 1)), (by first | rfl | (simp; done) | (simp [*]; done)), H', ⟨by have := HK1.out; omega⟩, ⟨by (with_reducible repeat (first | apply Kd.R_alloc | apply Kd.R_drewN | apply Kd.R_drew)); exact HO_118000.out⟩, ⟨by (with_reducible repeat (first | apply Kd.R_alloc | apply Kd.R_drewN | apply Kd.R_drew)); exact HO_128000.out⟩, ⟨by exact bD BK101⟩, ⟨by exact bD BK102⟩, ⟨by exact bD BK103⟩, ⟨by exact bD BK117⟩, ⟨by exact bD BK120⟩, ⟨by exact bD BK127⟩, ⟨sD HB⟩⟩
        ·rw [if_neg c70] at H
         have c70b0 : (x13_1 == ji15) = false := beq_eq_false_iff_ne.mpr c70
         have c70b1 : (x13_1 != ji15) = true := bne_iff_ne.mpr c70
         by_cases c72 : x13_1 = (wrap64 (Int.tmod a1_1 4))
         ·rw [if_pos c72] at H
          have c72b0 : (x13_1 == (wrap64 (Int.tmod a1_1 4))) = true := beq_iff_eq.mpr c72
          have c72b1 : (x13_1 != (wrap64 (Int.tmod a1_1 4))) = false := bne_eq_false_iff_eq.mpr c72
          clear c72; have H' := aM H; clear H
          try go_wp2
          replace HO_118000 := aM (Kd.R_drew HO_118000.out); replace HO_128000 := aM (Kd.R_drew HO_128000.out); replace BK101 := aM (blk_drew BK101.out); replace BK102 := aM (blk_drew BK102.out); replace BK103 := aM (blk_drew BK103.out); replace BK117 := aM (blk_drew BK117.out); replace BK120 := aM (blk_drew BK120.out); replace BK127 := aM (blk_drew BK127.out); replace HB := aM (below_drew1 HB.out)
          have p131 : 0 ≤ (x13_1 : Int) := of_decide_eq_true (by first | (with_reducible assumption) | assumption)
          have q131 : x13_1 < (t121.length : Int) := of_decide_eq_true (by first | (with_reducible assumption) | assumption)
          obtain ⟨ad131, e131, hx131_0, hx131_1, hx131_2⟩ := at_T60 (Kd.R_reads' HO_128000.out).2.2 x13_1 p131 q131
          cases e131
          replace p131 := eq_true p131; replace q131 := eq_true q131
          have p132 : 0 ≤ (x13_1 : Int) := of_decide_eq_true (by first | (with_reducible assumption) | assumption)
          have q132 : x13_1 < (t121.length : Int) := of_decide_eq_true (by first | (with_reducible assumption) | assumption)
          obtain ⟨ad132, e132, hx132_0, hx132_1, hx132_2⟩ := at_T60 (Kd.R_reads' HO_128000.out).2.2 x13_1 p132 q132
          obtain rfl : ad131 = ad132 := (by injection e132)
          replace p132 := eq_true p132; replace q132 := eq_true q132
          refine start_ (n := 41) (S := fun w' => w'.cell? ⟨gb127, 0, none⟩ = some (.slice (some ad131) t121.length co55) ∧ w'.cell? ⟨gb127, 1, none⟩ = some (.int .i64 t124) ∧ w'.cell? ⟨gb127, 2, none⟩ = some (.int .i64 t125) ∧ w'.cell? ⟨gb127, 3, none⟩ = some (.int .i64 t126) ∧ w'.cell? (ad131.add ((x13_1).toNat * 3)) = some (.int .i64 ((rd_T60 t121 x13_1).f0)) ∧ w'.cell? ⟨(ad131.add ((x13_1).toNat * 3)).block, (ad131.add ((x13_1).toNat * 3)).off + 1, none⟩ = some (.int .i64 ((rd_T60 t121 x13_1).f1.f0)) ∧ w'.cell? ⟨(ad131.add ((x13_1).toNat * 3)).block, (ad131.add ((x13_1).toNat * 3)).off + 2, none⟩ = some (.int .i64 ((rd_T60 t121 x13_1).f1.f1)) ∧ w'.cell? (ad131.add ((x13_1).toNat * 3)) = some (.int .i64 ((rd_T60 t121 x13_1).f0)) ∧ w'.cell? ⟨(ad131.add ((x13_1).toNat * 3)).block, (ad131.add ((x13_1).toNat * 3)).off + 1, none⟩ = some (.int .i64 ((rd_T60 t121 x13_1).f1.f0)) ∧ w'.cell? ⟨(ad131.add ((x13_1).toNat * 3)).block, (ad131.add ((x13_1).toNat * 3)).off + 2, none⟩ = some (.int .i64 ((rd_T60 t121 x13_1).f1.f1))) (ds := []) #[false, false, false, false, false, false, false, false, false, false, false, false, false, false, false, false, false, false, false, false, false, false, false, false, false, false, false, false, false, false, false, false, false, false, false, false, false, false, false, false, false] (by kernel_rfl) rfl rfl ⟨cE BK127 0, cE BK127 1, cE BK127 2, cE BK127 3, hx131_0, hx131_1, hx131_2, hx132_0, hx132_1, hx132_2⟩ (fun hHeld => ?_); refine with_tabW parolelaw42_PriceSettles.tab17 parolelaw42_PriceSettles.bits17 (fun HT_ HW_ => ?_)
          generalize wr.drew = w73 at HO_118000 HO_128000 BK101 BK102 BK103 BK117 BK120 BK127 HB hx131_0 hx131_1 hx131_2 hx132_0 hx132_1 hx132_2 hHeld ⊢
          refine pX (i := 0) (N := some 100) rfl rfl HT_ ?_
          refine pX (i := 2) (N := some 102) rfl rfl HT_ ?_
          refine pX (i := 6) (N := some 106) rfl rfl HT_ ?_
          refine tX (i := 1) (N := some 101) rfl rfl HT_ HW_ hHeld (Or.inl ⟨by rfl, by rintro w' ⟨s0, s1, s2, s3, s4, s5, s6, s7, s8, s9⟩; go_simp; with_reducible rfl⟩) ?_
          refine pX (i := 3) (N := some 103) rfl rfl HT_ ?_
          refine pX (i := 4) (N := some 104) rfl rfl HT_ ?_
          refine tX (i := 5) (N := some 105) rfl rfl HT_ HW_ hHeld (Or.inl ⟨by rfl, by rintro w' ⟨s0, s1, s2, s3, s4, s5, s6, s7, s8, s9⟩; go_simp; with_reducible rfl⟩) ?_
          refine pX (i := 7) (N := some 107) rfl rfl HT_ ?_
          refine pX (i := 8) (N := some 108) rfl rfl HT_ ?_
          refine pX (i := 9) (N := some 109) rfl rfl HT_ ?_
          refine pX (i := 11) (N := some 111) rfl rfl HT_ ?_
          refine tX (i := 10) (N := some 110) rfl rfl HT_ HW_ hHeld (Or.inl ⟨by rfl, by rintro w' ⟨s0, s1, s2, s3, s4, s5, s6, s7, s8, s9⟩; go_simp; with_reducible rfl⟩) ?_
          refine pX (i := 12) (N := some 112) rfl rfl HT_ ?_
          refine pX (i := 13) (N := some 113) rfl rfl HT_ ?_
          refine pX (i := 14) (N := some 114) rfl rfl HT_ ?_
          refine tX (i := 15) (N := some 115) rfl rfl HT_ HW_ hHeld (Or.inl ⟨by rfl, by rintro w' ⟨s0, s1, s2, s3, s4, s5, s6, s7, s8, s9⟩; go_simp; with_reducible rfl⟩) ?_
          refine pX (i := 16) (N := some 116) rfl rfl HT_ ?_
          refine pX (i := 17) (N := some 117) rfl rfl HT_ ?_
          refine pX (i := 18) (N := some 118) rfl rfl HT_ ?_
          refine pX (i := 19) (N := some 119) rfl rfl HT_ ?_
          refine pX (i := 20) (N := some 120) rfl rfl HT_ ?_
          refine pX (i := 21) (N := some 121) rfl rfl HT_ ?_
          refine pX (i := 22) (N := some 122) rfl rfl HT_ ?_
          refine pX (i := 23) (N := some 123) rfl rfl HT_ ?_
          refine pX (i := 24) (N := some 124) rfl rfl HT_ ?_
          refine pX (i := 25) (N := some 125) rfl rfl HT_ ?_
          refine pX (i := 26) (N := some 126) rfl rfl HT_ ?_
          refine pX (i := 27) (N := some 127) rfl rfl HT_ ?_
          refine pU (i := 28) (N := some 128) rfl rfl HT_ ?_
          refine pU (i := 29) (N := some 129) rfl rfl HT_ ?_
          refine pU (i := 30) (N := some 130) rfl rfl HT_ ?_
          refine pU (i := 31) (N := some 131) rfl rfl HT_ ?_
          refine pU (i := 32) (N := some 132) rfl rfl HT_ ?_
          refine pU (i := 33) (N := some 133) rfl rfl HT_ ?_
          refine pU (i := 34) (N := some 134) rfl rfl HT_ ?_
          refine pU (i := 35) (N := some 135) rfl rfl HT_ ?_
          refine pU (i := 36) (N := some 136) rfl rfl HT_ ?_
          refine pU (i := 37) (N := some 137) rfl rfl HT_ ?_
          refine pU (i := 38) (N := some 138) rfl rfl HT_ ?_
          refine pX (i := 39) (N := some 139) rfl rfl HT_ ?_
          refine pX (i := 40) (N := some 140) rfl rfl HT_ ?_
          refine done_ (done_of HT_.out (by kernel_rfl)) ?_
          try go_wp2
          go_roundg k1
          case measure => have := HK1.out; omega
          case rel => exact ⟨(wrap64 (x13_1 + 1)), (by first | rfl | (simp; done) | (simp [*]; done)), H', ⟨by have := HK1.out; omega⟩, ⟨by (with_reducible repeat (first | apply Kd.R_alloc | apply Kd.R_drewN | apply Kd.R_drew)); exact HO_118000.out⟩, ⟨by (with_reducible repeat (first | apply Kd.R_alloc | apply Kd.R_drewN | apply Kd.R_drew)); exact HO_128000.out⟩, ⟨by exact bD BK101⟩, ⟨by exact bD BK102⟩, ⟨by exact bD BK103⟩, ⟨by exact bD BK117⟩, ⟨by exact bD BK120⟩, ⟨by exact bD BK127⟩, ⟨sD HB⟩⟩
         ·rw [if_neg c72] at H
          have c72b0 : (x13_1 == (wrap64 (Int.tmod a1_1 4))) = false := beq_eq_false_iff_ne.mpr c72
          have c72b1 : (x13_1 != (wrap64 (Int.tmod a1_1 4))) = true := bne_iff_ne.mpr c72
          by_cases c74 : x13_1 < (t111.length : Int)
          ·rw [if_pos c74] at H
           have c74b0 : decide (x13_1 < (t111.length : Int)) = true := decide_eq_true c74
           clear c74
           by_cases c75 : (!(((rd_T60 t121 x13_1).f0) == ((rd_T60 t111 x13_1).f0)) || ((!(((rd_T60 t121 x13_1).f1.f0) == ((rd_T60 t111 x13_1).f1.f0)) || (!(((rd_T60 t121 x13_1).f1.f1) == ((rd_T60 t111 x13_1).f1.f1)))))) = true
           ·rw [if_pos c75] at H
            have c75b0 : (!(((rd_T60 t121 x13_1).f0) == ((rd_T60 t111 x13_1).f0)) || ((!(((rd_T60 t121 x13_1).f1.f0) == ((rd_T60 t111 x13_1).f1.f0)) || (!(((rd_T60 t121 x13_1).f1.f1) == ((rd_T60 t111 x13_1).f1.f1)))))) = true := c75
            clear c75
            exact absurd ((Option.some.inj H).trans HT.out) (by decide)
           ·rw [if_neg c75] at H
            have c75b0 : (!(((rd_T60 t121 x13_1).f0) == ((rd_T60 t111 x13_1).f0)) || ((!(((rd_T60 t121 x13_1).f1.f0) == ((rd_T60 t111 x13_1).f1.f0)) || (!(((rd_T60 t121 x13_1).f1.f1) == ((rd_T60 t111 x13_1).f1.f1)))))) = false := by simpa using c75
            clear c75; have H' := aM H; clear H
            try go_wp2
            replace HO_118000 := aM (Kd.R_drew HO_118000.out); replace HO_128000 := aM (Kd.R_drew HO_128000.out); replace BK101 := aM (blk_drew BK101.out); replace BK102 := aM (blk_drew BK102.out); replace BK103 := aM (blk_drew BK103.out); replace BK117 := aM (blk_drew BK117.out); replace BK120 := aM (blk_drew BK120.out); replace BK127 := aM (blk_drew BK127.out); replace HB := aM (below_drew1 HB.out)
            have p131 : 0 ≤ (x13_1 : Int) := of_decide_eq_true (by first | (with_reducible assumption) | assumption)
            have q131 : x13_1 < (t121.length : Int) := of_decide_eq_true (by first | (with_reducible assumption) | assumption)
            obtain ⟨ad131, e131, hx131_0, hx131_1, hx131_2⟩ := at_T60 (Kd.R_reads' HO_128000.out).2.2 x13_1 p131 q131
            cases e131
            replace p131 := eq_true p131; replace q131 := eq_true q131
            have p132 : 0 ≤ (x13_1 : Int) := of_decide_eq_true (by first | (with_reducible assumption) | assumption)
            have q132 : x13_1 < (t121.length : Int) := of_decide_eq_true (by first | (with_reducible assumption) | assumption)
            obtain ⟨ad132, e132, hx132_0, hx132_1, hx132_2⟩ := at_T60 (Kd.R_reads' HO_128000.out).2.2 x13_1 p132 q132
            obtain rfl : ad131 = ad132 := (by injection e132)
            replace p132 := eq_true p132; replace q132 := eq_true q132
            have p133 : 0 ≤ (x13_1 : Int) := of_decide_eq_true (by first | (with_reducible assumption) | assumption)
            have q133 : x13_1 < (t121.length : Int) := of_decide_eq_true (by first | (with_reducible assumption) | assumption)
            obtain ⟨ad133, e133, hx133_0, hx133_1, hx133_2⟩ := at_T60 (Kd.R_reads' HO_128000.out).2.2 x13_1 p133 q133
            obtain rfl : ad131 = ad133 := (by injection e133)
            replace p133 := eq_true p133; replace q133 := eq_true q133
            have p134 : 0 ≤ (x13_1 : Int) := of_decide_eq_true (by first | (with_reducible assumption) | assumption)
            have q134 : x13_1 < (t111.length : Int) := of_decide_eq_true (by first | (with_reducible assumption) | assumption)
            obtain ⟨ad134, e134, hx134_0, hx134_1, hx134_2⟩ := at_T60 (Kd.R_reads' HO_118000.out).2.2 x13_1 p134 q134
            obtain rfl : ad128 = ad134 := (by injection e134)
            replace p134 := eq_true p134; replace q134 := eq_true q134
            refine start_ (n := 41) (S := fun w' => w'.cell? ⟨gb127, 0, none⟩ = some (.slice (some ad131) t121.length co55) ∧ w'.cell? ⟨gb127, 1, none⟩ = some (.int .i64 t124) ∧ w'.cell? ⟨gb127, 2, none⟩ = some (.int .i64 t125) ∧ w'.cell? ⟨gb127, 3, none⟩ = some (.int .i64 t126) ∧ w'.cell? ⟨gb117, 0, none⟩ = some (.slice (some ad128) t111.length co32) ∧ w'.cell? ⟨gb117, 1, none⟩ = some (.int .i64 t114) ∧ w'.cell? ⟨gb117, 2, none⟩ = some (.int .i64 t115) ∧ w'.cell? ⟨gb117, 3, none⟩ = some (.int .i64 t116) ∧ w'.cell? (ad131.add ((x13_1).toNat * 3)) = some (.int .i64 ((rd_T60 t121 x13_1).f0)) ∧ w'.cell? ⟨(ad131.add ((x13_1).toNat * 3)).block, (ad131.add ((x13_1).toNat * 3)).off + 1, none⟩ = some (.int .i64 ((rd_T60 t121 x13_1).f1.f0)) ∧ w'.cell? ⟨(ad131.add ((x13_1).toNat * 3)).block, (ad131.add ((x13_1).toNat * 3)).off + 2, none⟩ = some (.int .i64 ((rd_T60 t121 x13_1).f1.f1)) ∧ w'.cell? (ad131.add ((x13_1).toNat * 3)) = some (.int .i64 ((rd_T60 t121 x13_1).f0)) ∧ w'.cell? ⟨(ad131.add ((x13_1).toNat * 3)).block, (ad131.add ((x13_1).toNat * 3)).off + 1, none⟩ = some (.int .i64 ((rd_T60 t121 x13_1).f1.f0)) ∧ w'.cell? ⟨(ad131.add ((x13_1).toNat * 3)).block, (ad131.add ((x13_1).toNat * 3)).off + 2, none⟩ = some (.int .i64 ((rd_T60 t121 x13_1).f1.f1)) ∧ w'.cell? (ad131.add ((x13_1).toNat * 3)) = some (.int .i64 ((rd_T60 t121 x13_1).f0)) ∧ w'.cell? ⟨(ad131.add ((x13_1).toNat * 3)).block, (ad131.add ((x13_1).toNat * 3)).off + 1, none⟩ = some (.int .i64 ((rd_T60 t121 x13_1).f1.f0)) ∧ w'.cell? ⟨(ad131.add ((x13_1).toNat * 3)).block, (ad131.add ((x13_1).toNat * 3)).off + 2, none⟩ = some (.int .i64 ((rd_T60 t121 x13_1).f1.f1)) ∧ w'.cell? (ad128.add ((x13_1).toNat * 3)) = some (.int .i64 ((rd_T60 t111 x13_1).f0)) ∧ w'.cell? ⟨(ad128.add ((x13_1).toNat * 3)).block, (ad128.add ((x13_1).toNat * 3)).off + 1, none⟩ = some (.int .i64 ((rd_T60 t111 x13_1).f1.f0)) ∧ w'.cell? ⟨(ad128.add ((x13_1).toNat * 3)).block, (ad128.add ((x13_1).toNat * 3)).off + 2, none⟩ = some (.int .i64 ((rd_T60 t111 x13_1).f1.f1))) (ds := []) #[false, false, false, false, false, false, false, false, false, false, false, false, false, false, false, false, false, false, false, false, false, false, false, false, false, false, false, false, false, false, false, false, false, false, false, false, false, false, false, false, false] (by kernel_rfl) rfl rfl ⟨cE BK127 0, cE BK127 1, cE BK127 2, cE BK127 3, cE BK117 0, cE BK117 1, cE BK117 2, cE BK117 3, hx131_0, hx131_1, hx131_2, hx132_0, hx132_1, hx132_2, hx133_0, hx133_1, hx133_2, hx134_0, hx134_1, hx134_2⟩ (fun hHeld => ?_); refine with_tabW parolelaw42_PriceSettles.tab17 parolelaw42_PriceSettles.bits17 (fun HT_ HW_ => ?_)
            generalize wr.drew = w76 at HO_118000 HO_128000 BK101 BK102 BK103 BK117 BK120 BK127 HB hx131_0 hx131_1 hx131_2 hx132_0 hx132_1 hx132_2 hx133_0 hx133_1 hx133_2 hx134_0 hx134_1 hx134_2 hHeld ⊢
            refine pX (i := 0) (N := some 100) rfl rfl HT_ ?_
            refine pX (i := 2) (N := some 102) rfl rfl HT_ ?_
            refine pX (i := 6) (N := some 106) rfl rfl HT_ ?_
            refine tX (i := 1) (N := some 101) rfl rfl HT_ HW_ hHeld (Or.inl ⟨by rfl, by rintro w' ⟨s0, s1, s2, s3, s4, s5, s6, s7, s8, s9, s10, s11, s12, s13, s14, s15, s16, s17, s18, s19⟩; go_simp; with_reducible rfl⟩) ?_
            refine pX (i := 3) (N := some 103) rfl rfl HT_ ?_
            refine pX (i := 4) (N := some 104) rfl rfl HT_ ?_
            refine tX (i := 5) (N := some 105) rfl rfl HT_ HW_ hHeld (Or.inl ⟨by rfl, by rintro w' ⟨s0, s1, s2, s3, s4, s5, s6, s7, s8, s9, s10, s11, s12, s13, s14, s15, s16, s17, s18, s19⟩; go_simp; with_reducible rfl⟩) ?_
            refine pX (i := 7) (N := some 107) rfl rfl HT_ ?_
            refine pX (i := 8) (N := some 108) rfl rfl HT_ ?_
            refine pX (i := 9) (N := some 109) rfl rfl HT_ ?_
            refine pX (i := 11) (N := some 111) rfl rfl HT_ ?_
            refine tX (i := 10) (N := some 110) rfl rfl HT_ HW_ hHeld (Or.inl ⟨by rfl, by rintro w' ⟨s0, s1, s2, s3, s4, s5, s6, s7, s8, s9, s10, s11, s12, s13, s14, s15, s16, s17, s18, s19⟩; go_simp; with_reducible rfl⟩) ?_
            refine pX (i := 12) (N := some 112) rfl rfl HT_ ?_
            refine pX (i := 13) (N := some 113) rfl rfl HT_ ?_
            refine pX (i := 14) (N := some 114) rfl rfl HT_ ?_
            refine tX (i := 15) (N := some 115) rfl rfl HT_ HW_ hHeld (Or.inl ⟨by rfl, by rintro w' ⟨s0, s1, s2, s3, s4, s5, s6, s7, s8, s9, s10, s11, s12, s13, s14, s15, s16, s17, s18, s19⟩; go_simp; with_reducible rfl⟩) ?_
            refine pX (i := 16) (N := some 116) rfl rfl HT_ ?_
            refine pX (i := 17) (N := some 117) rfl rfl HT_ ?_
            refine pX (i := 18) (N := some 118) rfl rfl HT_ ?_
            refine pX (i := 19) (N := some 119) rfl rfl HT_ ?_
            refine pX (i := 20) (N := some 120) rfl rfl HT_ ?_
            refine pX (i := 21) (N := some 121) rfl rfl HT_ ?_
            refine pX (i := 22) (N := some 122) rfl rfl HT_ ?_
            refine pX (i := 23) (N := some 123) rfl rfl HT_ ?_
            refine pX (i := 24) (N := some 124) rfl rfl HT_ ?_
            refine pX (i := 25) (N := some 125) rfl rfl HT_ ?_
            refine pX (i := 26) (N := some 126) rfl rfl HT_ ?_
            refine pX (i := 27) (N := some 127) rfl rfl HT_ ?_
            refine pX (i := 28) (N := some 128) rfl rfl HT_ ?_
            refine pX (i := 30) (N := some 130) rfl rfl HT_ ?_
            refine pX (i := 33) (N := some 133) rfl rfl HT_ ?_
            refine pX (i := 35) (N := some 135) rfl rfl HT_ ?_
            refine tX (i := 29) (N := some 129) rfl rfl HT_ HW_ hHeld (Or.inl ⟨by rfl, by rintro w' ⟨s0, s1, s2, s3, s4, s5, s6, s7, s8, s9, s10, s11, s12, s13, s14, s15, s16, s17, s18, s19⟩; go_simp; with_reducible rfl⟩) ?_
            refine pX (i := 31) (N := some 131) rfl rfl HT_ ?_
            refine tX (i := 32) (N := some 132) rfl rfl HT_ HW_ hHeld (Or.inl ⟨by rfl, by rintro w' ⟨s0, s1, s2, s3, s4, s5, s6, s7, s8, s9, s10, s11, s12, s13, s14, s15, s16, s17, s18, s19⟩; go_simp; with_reducible rfl⟩) ?_
            refine tX (i := 34) (N := some 134) rfl rfl HT_ HW_ hHeld (Or.inl ⟨by rfl, by rintro w' ⟨s0, s1, s2, s3, s4, s5, s6, s7, s8, s9, s10, s11, s12, s13, s14, s15, s16, s17, s18, s19⟩; go_simp; with_reducible rfl⟩) ?_
            refine pX (i := 36) (N := some 136) rfl rfl HT_ ?_
            refine tX (i := 37) (N := some 137) rfl rfl HT_ HW_ hHeld (Or.inl ⟨by rfl, by rintro w' ⟨s0, s1, s2, s3, s4, s5, s6, s7, s8, s9, s10, s11, s12, s13, s14, s15, s16, s17, s18, s19⟩; go_simp; with_reducible rfl⟩) ?_
            refine pX (i := 38) (N := some 138) rfl rfl HT_ ?_
            refine pX (i := 39) (N := some 139) rfl rfl HT_ ?_
            refine pX (i := 40) (N := some 140) rfl rfl HT_ ?_
            refine done_ (done_of HT_.out (by kernel_rfl)) ?_
            try go_wp2
            go_roundg k1
            case measure => have := HK1.out; omega
            case rel => exact ⟨(wrap64 (x13_1 + 1)), (by first | rfl | (simp; done) | (simp [*]; done)), H', ⟨by have := HK1.out; omega⟩, ⟨by (with_reducible repeat (first | apply Kd.R_alloc | apply Kd.R_drewN | apply Kd.R_drew)); exact HO_118000.out⟩, ⟨by (with_reducible repeat (first | apply Kd.R_alloc | apply Kd.R_drewN | apply Kd.R_drew)); exact HO_128000.out⟩, ⟨by exact bD BK101⟩, ⟨by exact bD BK102⟩, ⟨by exact bD BK103⟩, ⟨by exact bD BK117⟩, ⟨by exact bD BK120⟩, ⟨by exact bD BK127⟩, ⟨sD HB⟩⟩
          ·rw [if_neg c74] at H
           exact absurd H (by simp)
      ·rw [if_neg c68] at H
       have c68b0 : (((rd_T60 t121 x13_1).f0) == x13_1) = false := beq_eq_false_iff_ne.mpr c68
       have c68b1 : (((rd_T60 t121 x13_1).f0) != x13_1) = true := bne_iff_ne.mpr c68
       exact absurd ((Option.some.inj H).trans HT.out) (by decide)
     ·rw [if_neg c67] at H
      exact absurd H (by simp)
    ·rw [if_neg c66] at H
     exact absurd H (by simp)
   ·rw [if_neg c65] at H
    have c65b0 : decide (x13_1 < 4) = false := decide_eq_false c65
    clear c65; replace H := Option.bind_eq_some_iff.mp H
    obtain ⟨⟨t135, t136, t137⟩, A770, H⟩ := H
    replace H : ((parolelaw42_total.f k1 t121).bind fun bt138 => ((parolelaw42_settle.f k1 t121 0 (wrap64 (Int.tmod a1_1 4)) 0 0 ji15 t124 t125).bind fun bt143 => (if t137 = 0 then (if bt138.2.2 = 0 then (if (t135 == bt138.1 && (t136 == bt138.2.1)) = true then (if bt143.2.2.2 = 0 then ((paroleref42_Same.f k1 bt143.1 0 0 0 t111 0 0 0).bind fun t150 => (if t150 = true then (some true) else (some false))) else (none)) else (some false)) else (none)) else (none)))) = some r := H
    have A77 := aM A770; clear A770; replace H := Option.bind_eq_some_iff.mp H
    obtain ⟨⟨t138, t139, t140⟩, A780, H⟩ := H
    replace H : ((parolelaw42_settle.f k1 t121 0 (wrap64 (Int.tmod a1_1 4)) 0 0 ji15 t124 t125).bind fun bt143 => (if t137 = 0 then (if t140 = 0 then (if (t135 == t138 && (t136 == t139)) = true then (if bt143.2.2.2 = 0 then ((paroleref42_Same.f k1 bt143.1 0 0 0 t111 0 0 0).bind fun t150 => (if t150 = true then (some true) else (some false))) else (none)) else (some false)) else (none)) else (none))) = some r := H
    have A78 := aM A780; clear A780; replace H := Option.bind_eq_some_iff.mp H
    obtain ⟨⟨t143, t146, t147, t148⟩, A790, H⟩ := H
    replace H : (if t137 = 0 then (if t140 = 0 then (if (t135 == t138 && (t136 == t139)) = true then (if t148 = 0 then ((paroleref42_Same.f k1 t143 0 0 0 t111 0 0 0).bind fun t150 => (if t150 = true then (some true) else (some false))) else (none)) else (some false)) else (none)) else (none)) = some r := H
    have A79 := aM A790; clear A790
    by_cases c80 : t137 = 0
    ·rw [if_pos c80] at H
     have c80b0 : (t137 == 0) = true := beq_iff_eq.mpr c80
     have c80b1 : (t137 != 0) = false := bne_eq_false_iff_eq.mpr c80
     clear c80
     by_cases c81 : t140 = 0
     ·rw [if_pos c81] at H
      have c81b0 : (t140 == 0) = true := beq_iff_eq.mpr c81
      have c81b1 : (t140 != 0) = false := bne_eq_false_iff_eq.mpr c81
      clear c81
      by_cases c82 : (t135 == t138 && (t136 == t139)) = true
      ·rw [if_pos c82] at H
       have c82b0 : (t135 == t138 && (t136 == t139)) = true := c82
       (try (have c82b1 : decide (t135 = t138 && (t136 == t139)) = true := by simpa using c82))
       (try (have c82b2 : (t135 == t138 && (t136 == t139)) = true := by simpa using c82))
       clear c82
       by_cases c83 : t148 = 0
       ·rw [if_pos c83] at H
        have c83b0 : (t148 == 0) = true := beq_iff_eq.mpr c83
        have c83b1 : (t148 != 0) = false := bne_eq_false_iff_eq.mpr c83
        clear c83; replace H := Option.bind_eq_some_iff.mp H
        obtain ⟨t150, A840, H⟩ := H
        replace H : (if t150 = true then (some true) else (some false)) = some r := H
        have A84 := aM A840; clear A840
        by_cases c85 : t150 = true
        ·subst c85
         have H1 : (some true) = some r := by rw [if_pos rfl] at H; exact H
         clear H; have H := H1; clear H1
         obtain rfl := Option.some.inj H
         try go_wp2
         replace HO_118000 := aM (Kd.R_drew HO_118000.out); replace HO_128000 := aM (Kd.R_drew HO_128000.out); replace BK101 := aM (blk_drew BK101.out); replace BK102 := aM (blk_drew BK102.out); replace BK103 := aM (blk_drew BK103.out); replace BK117 := aM (blk_drew BK117.out); replace BK120 := aM (blk_drew BK120.out); replace BK127 := aM (blk_drew BK127.out); replace HB := aM (below_drew1 HB.out)
         refine start_ (n := 10) (S := fun w' => w'.cell? ⟨gb117, 0, none⟩ = some (.slice (some ad128) t111.length co32) ∧ w'.cell? ⟨gb117, 1, none⟩ = some (.int .i64 t114) ∧ w'.cell? ⟨gb117, 2, none⟩ = some (.int .i64 t115) ∧ w'.cell? ⟨gb117, 3, none⟩ = some (.int .i64 t116) ∧ w'.cell? ⟨gb127, 0, none⟩ = some (.slice Ao55 t121.length co55) ∧ w'.cell? ⟨gb127, 1, none⟩ = some (.int .i64 t124) ∧ w'.cell? ⟨gb127, 2, none⟩ = some (.int .i64 t125) ∧ w'.cell? ⟨gb127, 3, none⟩ = some (.int .i64 t126)) (ds := []) #[false, false, false, false, false, false, false, false, false, false] (by kernel_rfl) rfl rfl ⟨cE BK117 0, cE BK117 1, cE BK117 2, cE BK117 3, cE BK127 0, cE BK127 1, cE BK127 2, cE BK127 3⟩ (fun hHeld => ?_); refine with_tabW parolelaw42_PriceSettles.tab19 parolelaw42_PriceSettles.bits19 (fun HT_ HW_ => ?_)
         generalize wr.drew = w86 at HO_118000 HO_128000 BK101 BK102 BK103 BK117 BK120 BK127 HB hHeld ⊢
         refine pX (i := 0) (N := some 141) rfl rfl HT_ ?_
         refine pX (i := 3) (N := some 144) rfl rfl HT_ ?_
         refine tX (i := 1) (N := some 142) rfl rfl HT_ HW_ hHeld (Or.inl ⟨by rfl, by rintro w' ⟨s0, s1, s2, s3, s4, s5, s6, s7⟩; go_simp; with_reducible rfl⟩) ?_
         refine tX (i := 4) (N := some 145) rfl rfl HT_ HW_ hHeld (Or.inl ⟨by rfl, by rintro w' ⟨s0, s1, s2, s3, s4, s5, s6, s7⟩; go_simp; with_reducible rfl⟩) ?_
         refine join_ (σ := Nat × Nat) 2 #[true, true, true, true, true, true, true, true, false, false] (fun s_ => [(143, .agg #[.int .i64 t135, .int .i64 t136, .int .i64 t137]), (146, .agg #[.int .i64 t138, .int .i64 t139, .int .i64 t140]), (14, .pointer (some ⟨s_.1, 0, none⟩)), (15, .pointer (some ⟨s_.2, 0, none⟩))]) (fun s_ w' => (w'.cell? ⟨gb117, 0, none⟩ = some (.slice (some ad128) t111.length co32) ∧ w'.cell? ⟨gb117, 1, none⟩ = some (.int .i64 t114) ∧ w'.cell? ⟨gb117, 2, none⟩ = some (.int .i64 t115) ∧ w'.cell? ⟨gb117, 3, none⟩ = some (.int .i64 t116) ∧ w'.cell? ⟨gb127, 0, none⟩ = some (.slice Ao55 t121.length co55) ∧ w'.cell? ⟨gb127, 1, none⟩ = some (.int .i64 t124) ∧ w'.cell? ⟨gb127, 2, none⟩ = some (.int .i64 t125) ∧ w'.cell? ⟨gb127, 3, none⟩ = some (.int .i64 t126)) ∧ (Kd.R k60 60 w' w.heap.size (fun k_ => some k_ ≠ (.slice Ao55 t121.length co55 : Value).ownBlock) (.slice (some ad128) t111.length co32) t111) ∧ (Kd.R k60 60 w' w.heap.size (fun k_ => some k_ ≠ (.slice (some ad128) t111.length co32 : Value).ownBlock) (.slice Ao55 t121.length co55) t121) ∧ (w'.heap[gb101]? = some (.cells #[.slice A0_0 l0_0.length c0_0, .slice A0_1 l0_1.length c0_1, .int .u16 a0_2] 45 (0, 0))) ∧ (w'.heap[gb102]? = some (.cells #[.int .u8 a1_0, .int .u8 a1_1] 80 (0, 0))) ∧ (w'.heap[gb103]? = some (.cells #[.int .u8 a2_0, .int .u8 a2_1] 80 (0, 0))) ∧ (w'.heap[gb117]? = some (.cells #[.slice (some ad128) t111.length co32, .int .i64 t114, .int .i64 t115, .int .i64 t116] 56 (0, 0))) ∧ (w'.heap[gb120]? = some (.cells #[.int .i64 t118, .int .i64 t119] 35 (0, 0))) ∧ (w'.heap[gb127]? = some (.cells #[.slice Ao55 t121.length co55, .int .i64 t124, .int .i64 t125, .int .i64 t126] 56 (0, 0))) ∧ (w'.heap[s_.1]? = some (.cells #[.int .i64 0, .int .i64 0, .int .i64 0] 38 (0, 0))) ∧ (w'.heap[s_.2]? = some (.cells #[.int .i64 0, .int .i64 0, .int .i64 0] 38 (0, 0))) ∧ (w.heap.size ≤ s_.1) ∧ (w.heap.size ≤ s_.1) ∧ (gb101 ≠ s_.1) ∧ (s_.1 ≠ gb101) ∧ (gb102 ≠ s_.1) ∧ (s_.1 ≠ gb102) ∧ (gb103 ≠ s_.1) ∧ (s_.1 ≠ gb103) ∧ (gb117 ≠ s_.1) ∧ (s_.1 ≠ gb117) ∧ (gb120 ≠ s_.1) ∧ (s_.1 ≠ gb120) ∧ (gb127 ≠ s_.1) ∧ (s_.1 ≠ gb127) ∧ (s_.2 ≠ s_.1) ∧ (s_.1 ≠ s_.2) ∧ (w.heap.size ≤ s_.2) ∧ (w.heap.size ≤ s_.2) ∧ (gb101 ≠ s_.2) ∧ (s_.2 ≠ gb101) ∧ (gb102 ≠ s_.2) ∧ (s_.2 ≠ gb102) ∧ (gb103 ≠ s_.2) ∧ (s_.2 ≠ gb103) ∧ (gb117 ≠ s_.2) ∧ (s_.2 ≠ gb117) ∧ (gb120 ≠ s_.2) ∧ (s_.2 ≠ gb120) ∧ (gb127 ≠ s_.2) ∧ (s_.2 ≠ gb127) ∧ (Below w.heap.size w w')) ?_ ?_
         rotate_left
         ·intro hJ2_5_6_7
          refine join_ (σ := Nat) 3 #[true, true, true, true, true, true, true, false, false, false] (fun s_ => [(143, .agg #[.int .i64 t135, .int .i64 t136, .int .i64 t137]), (146, .agg #[.int .i64 t138, .int .i64 t139, .int .i64 t140]), (14, .pointer (some ⟨s_, 0, none⟩))]) (fun s_ w' => (w'.cell? ⟨gb117, 0, none⟩ = some (.slice (some ad128) t111.length co32) ∧ w'.cell? ⟨gb117, 1, none⟩ = some (.int .i64 t114) ∧ w'.cell? ⟨gb117, 2, none⟩ = some (.int .i64 t115) ∧ w'.cell? ⟨gb117, 3, none⟩ = some (.int .i64 t116) ∧ w'.cell? ⟨gb127, 0, none⟩ = some (.slice Ao55 t121.length co55) ∧ w'.cell? ⟨gb127, 1, none⟩ = some (.int .i64 t124) ∧ w'.cell? ⟨gb127, 2, none⟩ = some (.int .i64 t125) ∧ w'.cell? ⟨gb127, 3, none⟩ = some (.int .i64 t126)) ∧ (Kd.R k60 60 w' w.heap.size (fun k_ => some k_ ≠ (.slice Ao55 t121.length co55 : Value).ownBlock) (.slice (some ad128) t111.length co32) t111) ∧ (Kd.R k60 60 w' w.heap.size (fun k_ => some k_ ≠ (.slice (some ad128) t111.length co32 : Value).ownBlock) (.slice Ao55 t121.length co55) t121) ∧ (w'.heap[gb101]? = some (.cells #[.slice A0_0 l0_0.length c0_0, .slice A0_1 l0_1.length c0_1, .int .u16 a0_2] 45 (0, 0))) ∧ (w'.heap[gb102]? = some (.cells #[.int .u8 a1_0, .int .u8 a1_1] 80 (0, 0))) ∧ (w'.heap[gb103]? = some (.cells #[.int .u8 a2_0, .int .u8 a2_1] 80 (0, 0))) ∧ (w'.heap[gb117]? = some (.cells #[.slice (some ad128) t111.length co32, .int .i64 t114, .int .i64 t115, .int .i64 t116] 56 (0, 0))) ∧ (w'.heap[gb120]? = some (.cells #[.int .i64 t118, .int .i64 t119] 35 (0, 0))) ∧ (w'.heap[gb127]? = some (.cells #[.slice Ao55 t121.length co55, .int .i64 t124, .int .i64 t125, .int .i64 t126] 56 (0, 0))) ∧ (w'.heap[s_]? = some (.cells #[.int .i64 0, .int .i64 0, .int .i64 0] 38 (0, 0))) ∧ (w.heap.size ≤ s_) ∧ (w.heap.size ≤ s_) ∧ (gb101 ≠ s_) ∧ (s_ ≠ gb101) ∧ (gb102 ≠ s_) ∧ (s_ ≠ gb102) ∧ (gb103 ≠ s_) ∧ (s_ ≠ gb103) ∧ (gb117 ≠ s_) ∧ (s_ ≠ gb117) ∧ (gb120 ≠ s_) ∧ (s_ ≠ gb120) ∧ (gb127 ≠ s_) ∧ (s_ ≠ gb127) ∧ (Below w.heap.size w w')) ?_ ?_
          rotate_left
          ·intro hJ2_5_6
           refine join_ (σ := Nat) 3 #[true, true, true, true, true, true, false, true, false, false] (fun s_ => [(143, .agg #[.int .i64 t135, .int .i64 t136, .int .i64 t137]), (146, .agg #[.int .i64 t138, .int .i64 t139, .int .i64 t140]), (15, .pointer (some ⟨s_, 0, none⟩))]) (fun s_ w' => (w'.cell? ⟨gb117, 0, none⟩ = some (.slice (some ad128) t111.length co32) ∧ w'.cell? ⟨gb117, 1, none⟩ = some (.int .i64 t114) ∧ w'.cell? ⟨gb117, 2, none⟩ = some (.int .i64 t115) ∧ w'.cell? ⟨gb117, 3, none⟩ = some (.int .i64 t116) ∧ w'.cell? ⟨gb127, 0, none⟩ = some (.slice Ao55 t121.length co55) ∧ w'.cell? ⟨gb127, 1, none⟩ = some (.int .i64 t124) ∧ w'.cell? ⟨gb127, 2, none⟩ = some (.int .i64 t125) ∧ w'.cell? ⟨gb127, 3, none⟩ = some (.int .i64 t126)) ∧ (Kd.R k60 60 w' w.heap.size (fun k_ => some k_ ≠ (.slice Ao55 t121.length co55 : Value).ownBlock) (.slice (some ad128) t111.length co32) t111) ∧ (Kd.R k60 60 w' w.heap.size (fun k_ => some k_ ≠ (.slice (some ad128) t111.length co32 : Value).ownBlock) (.slice Ao55 t121.length co55) t121) ∧ (w'.heap[gb101]? = some (.cells #[.slice A0_0 l0_0.length c0_0, .slice A0_1 l0_1.length c0_1, .int .u16 a0_2] 45 (0, 0))) ∧ (w'.heap[gb102]? = some (.cells #[.int .u8 a1_0, .int .u8 a1_1] 80 (0, 0))) ∧ (w'.heap[gb103]? = some (.cells #[.int .u8 a2_0, .int .u8 a2_1] 80 (0, 0))) ∧ (w'.heap[gb117]? = some (.cells #[.slice (some ad128) t111.length co32, .int .i64 t114, .int .i64 t115, .int .i64 t116] 56 (0, 0))) ∧ (w'.heap[gb120]? = some (.cells #[.int .i64 t118, .int .i64 t119] 35 (0, 0))) ∧ (w'.heap[gb127]? = some (.cells #[.slice Ao55 t121.length co55, .int .i64 t124, .int .i64 t125, .int .i64 t126] 56 (0, 0))) ∧ (w'.heap[s_]? = some (.cells #[.int .i64 0, .int .i64 0, .int .i64 0] 38 (0, 0))) ∧ (w.heap.size ≤ s_) ∧ (w.heap.size ≤ s_) ∧ (gb101 ≠ s_) ∧ (s_ ≠ gb101) ∧ (gb102 ≠ s_) ∧ (s_ ≠ gb102) ∧ (gb103 ≠ s_) ∧ (s_ ≠ gb103) ∧ (gb117 ≠ s_) ∧ (s_ ≠ gb117) ∧ (gb120 ≠ s_) ∧ (s_ ≠ gb120) ∧ (gb127 ≠ s_) ∧ (s_ ≠ gb127) ∧ (Below w.heap.size w w')) ?_ ?_
           rotate_left
           ·intro hJ2_5_7
            refine join_ (σ := Nat × Nat) 3 #[true, true, true, true, true, false, true, true, false, false] (fun s_ => [(143, .agg #[.int .i64 t135, .int .i64 t136, .int .i64 t137]), (14, .pointer (some ⟨s_.1, 0, none⟩)), (15, .pointer (some ⟨s_.2, 0, none⟩))]) (fun s_ w' => (w'.cell? ⟨gb117, 0, none⟩ = some (.slice (some ad128) t111.length co32) ∧ w'.cell? ⟨gb117, 1, none⟩ = some (.int .i64 t114) ∧ w'.cell? ⟨gb117, 2, none⟩ = some (.int .i64 t115) ∧ w'.cell? ⟨gb117, 3, none⟩ = some (.int .i64 t116) ∧ w'.cell? ⟨gb127, 0, none⟩ = some (.slice Ao55 t121.length co55) ∧ w'.cell? ⟨gb127, 1, none⟩ = some (.int .i64 t124) ∧ w'.cell? ⟨gb127, 2, none⟩ = some (.int .i64 t125) ∧ w'.cell? ⟨gb127, 3, none⟩ = some (.int .i64 t126)) ∧ (Kd.R k60 60 w' w.heap.size (fun k_ => some k_ ≠ (.slice Ao55 t121.length co55 : Value).ownBlock) (.slice (some ad128) t111.length co32) t111) ∧ (Kd.R k60 60 w' w.heap.size (fun k_ => some k_ ≠ (.slice (some ad128) t111.length co32 : Value).ownBlock) (.slice Ao55 t121.length co55) t121) ∧ (w'.heap[gb101]? = some (.cells #[.slice A0_0 l0_0.length c0_0, .slice A0_1 l0_1.length c0_1, .int .u16 a0_2] 45 (0, 0))) ∧ (w'.heap[gb102]? = some (.cells #[.int .u8 a1_0, .int .u8 a1_1] 80 (0, 0))) ∧ (w'.heap[gb103]? = some (.cells #[.int .u8 a2_0, .int .u8 a2_1] 80 (0, 0))) ∧ (w'.heap[gb117]? = some (.cells #[.slice (some ad128) t111.length co32, .int .i64 t114, .int .i64 t115, .int .i64 t116] 56 (0, 0))) ∧ (w'.heap[gb120]? = some (.cells #[.int .i64 t118, .int .i64 t119] 35 (0, 0))) ∧ (w'.heap[gb127]? = some (.cells #[.slice Ao55 t121.length co55, .int .i64 t124, .int .i64 t125, .int .i64 t126] 56 (0, 0))) ∧ (w'.heap[s_.1]? = some (.cells #[.int .i64 0, .int .i64 0, .int .i64 0] 38 (0, 0))) ∧ (w'.heap[s_.2]? = some (.cells #[.int .i64 0, .int .i64 0, .int .i64 0] 38 (0, 0))) ∧ (w.heap.size ≤ s_.1) ∧ (w.heap.size ≤ s_.1) ∧ (gb101 ≠ s_.1) ∧ (s_.1 ≠ gb101) ∧ (gb102 ≠ s_.1) ∧ (s_.1 ≠ gb102) ∧ (gb103 ≠ s_.1) ∧ (s_.1 ≠ gb103) ∧ (gb117 ≠ s_.1) ∧ (s_.1 ≠ gb117) ∧ (gb120 ≠ s_.1) ∧ (s_.1 ≠ gb120) ∧ (gb127 ≠ s_.1) ∧ (s_.1 ≠ gb127) ∧ (s_.2 ≠ s_.1) ∧ (s_.1 ≠ s_.2) ∧ (w.heap.size ≤ s_.2) ∧ (w.heap.size ≤ s_.2) ∧ (gb101 ≠ s_.2) ∧ (s_.2 ≠ gb101) ∧ (gb102 ≠ s_.2) ∧ (s_.2 ≠ gb102) ∧ (gb103 ≠ s_.2) ∧ (s_.2 ≠ gb103) ∧ (gb117 ≠ s_.2) ∧ (s_.2 ≠ gb117) ∧ (gb120 ≠ s_.2) ∧ (s_.2 ≠ gb120) ∧ (gb127 ≠ s_.2) ∧ (s_.2 ≠ gb127) ∧ (Below w.heap.size w w')) ?_ ?_
            rotate_left
            ·intro hJ2_6_7
             refine join_ (σ := Unit) 4 #[true, true, true, true, true, true, false, false, false, false] (fun s_ => [(143, .agg #[.int .i64 t135, .int .i64 t136, .int .i64 t137]), (146, .agg #[.int .i64 t138, .int .i64 t139, .int .i64 t140])]) (fun s_ w' => (w'.cell? ⟨gb117, 0, none⟩ = some (.slice (some ad128) t111.length co32) ∧ w'.cell? ⟨gb117, 1, none⟩ = some (.int .i64 t114) ∧ w'.cell? ⟨gb117, 2, none⟩ = some (.int .i64 t115) ∧ w'.cell? ⟨gb117, 3, none⟩ = some (.int .i64 t116) ∧ w'.cell? ⟨gb127, 0, none⟩ = some (.slice Ao55 t121.length co55) ∧ w'.cell? ⟨gb127, 1, none⟩ = some (.int .i64 t124) ∧ w'.cell? ⟨gb127, 2, none⟩ = some (.int .i64 t125) ∧ w'.cell? ⟨gb127, 3, none⟩ = some (.int .i64 t126)) ∧ (Kd.R k60 60 w' w.heap.size (fun k_ => some k_ ≠ (.slice Ao55 t121.length co55 : Value).ownBlock) (.slice (some ad128) t111.length co32) t111) ∧ (Kd.R k60 60 w' w.heap.size (fun k_ => some k_ ≠ (.slice (some ad128) t111.length co32 : Value).ownBlock) (.slice Ao55 t121.length co55) t121) ∧ (w'.heap[gb101]? = some (.cells #[.slice A0_0 l0_0.length c0_0, .slice A0_1 l0_1.length c0_1, .int .u16 a0_2] 45 (0, 0))) ∧ (w'.heap[gb102]? = some (.cells #[.int .u8 a1_0, .int .u8 a1_1] 80 (0, 0))) ∧ (w'.heap[gb103]? = some (.cells #[.int .u8 a2_0, .int .u8 a2_1] 80 (0, 0))) ∧ (w'.heap[gb117]? = some (.cells #[.slice (some ad128) t111.length co32, .int .i64 t114, .int .i64 t115, .int .i64 t116] 56 (0, 0))) ∧ (w'.heap[gb120]? = some (.cells #[.int .i64 t118, .int .i64 t119] 35 (0, 0))) ∧ (w'.heap[gb127]? = some (.cells #[.slice Ao55 t121.length co55, .int .i64 t124, .int .i64 t125, .int .i64 t126] 56 (0, 0))) ∧ (Below w.heap.size w w')) ?_ ?_
             rotate_left
             ·intro hJ2_5
              refine join_ (σ := Nat) 4 #[true, true, true, true, true, false, true, false, false, false] (fun s_ => [(143, .agg #[.int .i64 t135, .int .i64 t136, .int .i64 t137]), (14, .pointer (some ⟨s_, 0, none⟩))]) (fun s_ w' => (w'.cell? ⟨gb117, 0, none⟩ = some (.slice (some ad128) t111.length co32) ∧ w'.cell? ⟨gb117, 1, none⟩ = some (.int .i64 t114) ∧ w'.cell? ⟨gb117, 2, none⟩ = some (.int .i64 t115) ∧ w'.cell? ⟨gb117, 3, none⟩ = some (.int .i64 t116) ∧ w'.cell? ⟨gb127, 0, none⟩ = some (.slice Ao55 t121.length co55) ∧ w'.cell? ⟨gb127, 1, none⟩ = some (.int .i64 t124) ∧ w'.cell? ⟨gb127, 2, none⟩ = some (.int .i64 t125) ∧ w'.cell? ⟨gb127, 3, none⟩ = some (.int .i64 t126)) ∧ (Kd.R k60 60 w' w.heap.size (fun k_ => some k_ ≠ (.slice Ao55 t121.length co55 : Value).ownBlock) (.slice (some ad128) t111.length co32) t111) ∧ (Kd.R k60 60 w' w.heap.size (fun k_ => some k_ ≠ (.slice (some ad128) t111.length co32 : Value).ownBlock) (.slice Ao55 t121.length co55) t121) ∧ (w'.heap[gb101]? = some (.cells #[.slice A0_0 l0_0.length c0_0, .slice A0_1 l0_1.length c0_1, .int .u16 a0_2] 45 (0, 0))) ∧ (w'.heap[gb102]? = some (.cells #[.int .u8 a1_0, .int .u8 a1_1] 80 (0, 0))) ∧ (w'.heap[gb103]? = some (.cells #[.int .u8 a2_0, .int .u8 a2_1] 80 (0, 0))) ∧ (w'.heap[gb117]? = some (.cells #[.slice (some ad128) t111.length co32, .int .i64 t114, .int .i64 t115, .int .i64 t116] 56 (0, 0))) ∧ (w'.heap[gb120]? = some (.cells #[.int .i64 t118, .int .i64 t119] 35 (0, 0))) ∧ (w'.heap[gb127]? = some (.cells #[.slice Ao55 t121.length co55, .int .i64 t124, .int .i64 t125, .int .i64 t126] 56 (0, 0))) ∧ (w'.heap[s_]? = some (.cells #[.int .i64 0, .int .i64 0, .int .i64 0] 38 (0, 0))) ∧ (w.heap.size ≤ s_) ∧ (w.heap.size ≤ s_) ∧ (gb101 ≠ s_) ∧ (s_ ≠ gb101) ∧ (gb102 ≠ s_) ∧ (s_ ≠ gb102) ∧ (gb103 ≠ s_) ∧ (s_ ≠ gb103) ∧ (gb117 ≠ s_) ∧ (s_ ≠ gb117) ∧ (gb120 ≠ s_) ∧ (s_ ≠ gb120) ∧ (gb127 ≠ s_) ∧ (s_ ≠ gb127) ∧ (Below w.heap.size w w')) ?_ ?_
              rotate_left
              ·intro hJ2_6
               refine join_ (σ := Nat) 4 #[true, true, true, true, true, false, false, true, false, false] (fun s_ => [(143, .agg #[.int .i64 t135, .int .i64 t136, .int .i64 t137]), (15, .pointer (some ⟨s_, 0, none⟩))]) (fun s_ w' => (w'.cell? ⟨gb117, 0, none⟩ = some (.slice (some ad128) t111.length co32) ∧ w'.cell? ⟨gb117, 1, none⟩ = some (.int .i64 t114) ∧ w'.cell? ⟨gb117, 2, none⟩ = some (.int .i64 t115) ∧ w'.cell? ⟨gb117, 3, none⟩ = some (.int .i64 t116) ∧ w'.cell? ⟨gb127, 0, none⟩ = some (.slice Ao55 t121.length co55) ∧ w'.cell? ⟨gb127, 1, none⟩ = some (.int .i64 t124) ∧ w'.cell? ⟨gb127, 2, none⟩ = some (.int .i64 t125) ∧ w'.cell? ⟨gb127, 3, none⟩ = some (.int .i64 t126)) ∧ (Kd.R k60 60 w' w.heap.size (fun k_ => some k_ ≠ (.slice Ao55 t121.length co55 : Value).ownBlock) (.slice (some ad128) t111.length co32) t111) ∧ (Kd.R k60 60 w' w.heap.size (fun k_ => some k_ ≠ (.slice (some ad128) t111.length co32 : Value).ownBlock) (.slice Ao55 t121.length co55) t121) ∧ (w'.heap[gb101]? = some (.cells #[.slice A0_0 l0_0.length c0_0, .slice A0_1 l0_1.length c0_1, .int .u16 a0_2] 45 (0, 0))) ∧ (w'.heap[gb102]? = some (.cells #[.int .u8 a1_0, .int .u8 a1_1] 80 (0, 0))) ∧ (w'.heap[gb103]? = some (.cells #[.int .u8 a2_0, .int .u8 a2_1] 80 (0, 0))) ∧ (w'.heap[gb117]? = some (.cells #[.slice (some ad128) t111.length co32, .int .i64 t114, .int .i64 t115, .int .i64 t116] 56 (0, 0))) ∧ (w'.heap[gb120]? = some (.cells #[.int .i64 t118, .int .i64 t119] 35 (0, 0))) ∧ (w'.heap[gb127]? = some (.cells #[.slice Ao55 t121.length co55, .int .i64 t124, .int .i64 t125, .int .i64 t126] 56 (0, 0))) ∧ (w'.heap[s_]? = some (.cells #[.int .i64 0, .int .i64 0, .int .i64 0] 38 (0, 0))) ∧ (w.heap.size ≤ s_) ∧ (w.heap.size ≤ s_) ∧ (gb101 ≠ s_) ∧ (s_ ≠ gb101) ∧ (gb102 ≠ s_) ∧ (s_ ≠ gb102) ∧ (gb103 ≠ s_) ∧ (s_ ≠ gb103) ∧ (gb117 ≠ s_) ∧ (s_ ≠ gb117) ∧ (gb120 ≠ s_) ∧ (s_ ≠ gb120) ∧ (gb127 ≠ s_) ∧ (s_ ≠ gb127) ∧ (Below w.heap.size w w')) ?_ ?_
               rotate_left
               ·intro hJ2_7
                refine join_ (σ := Nat × Nat) 4 #[true, true, false, true, true, false, true, true, false, false] (fun s_ => [(14, .pointer (some ⟨s_.1, 0, none⟩)), (15, .pointer (some ⟨s_.2, 0, none⟩))]) (fun s_ w' => (w'.cell? ⟨gb117, 0, none⟩ = some (.slice (some ad128) t111.length co32) ∧ w'.cell? ⟨gb117, 1, none⟩ = some (.int .i64 t114) ∧ w'.cell? ⟨gb117, 2, none⟩ = some (.int .i64 t115) ∧ w'.cell? ⟨gb117, 3, none⟩ = some (.int .i64 t116) ∧ w'.cell? ⟨gb127, 0, none⟩ = some (.slice Ao55 t121.length co55) ∧ w'.cell? ⟨gb127, 1, none⟩ = some (.int .i64 t124) ∧ w'.cell? ⟨gb127, 2, none⟩ = some (.int .i64 t125) ∧ w'.cell? ⟨gb127, 3, none⟩ = some (.int .i64 t126)) ∧ (Kd.R k60 60 w' w.heap.size (fun k_ => some k_ ≠ (.slice Ao55 t121.length co55 : Value).ownBlock) (.slice (some ad128) t111.length co32) t111) ∧ (Kd.R k60 60 w' w.heap.size (fun k_ => some k_ ≠ (.slice (some ad128) t111.length co32 : Value).ownBlock) (.slice Ao55 t121.length co55) t121) ∧ (w'.heap[gb101]? = some (.cells #[.slice A0_0 l0_0.length c0_0, .slice A0_1 l0_1.length c0_1, .int .u16 a0_2] 45 (0, 0))) ∧ (w'.heap[gb102]? = some (.cells #[.int .u8 a1_0, .int .u8 a1_1] 80 (0, 0))) ∧ (w'.heap[gb103]? = some (.cells #[.int .u8 a2_0, .int .u8 a2_1] 80 (0, 0))) ∧ (w'.heap[gb117]? = some (.cells #[.slice (some ad128) t111.length co32, .int .i64 t114, .int .i64 t115, .int .i64 t116] 56 (0, 0))) ∧ (w'.heap[gb120]? = some (.cells #[.int .i64 t118, .int .i64 t119] 35 (0, 0))) ∧ (w'.heap[gb127]? = some (.cells #[.slice Ao55 t121.length co55, .int .i64 t124, .int .i64 t125, .int .i64 t126] 56 (0, 0))) ∧ (w'.heap[s_.1]? = some (.cells #[.int .i64 0, .int .i64 0, .int .i64 0] 38 (0, 0))) ∧ (w'.heap[s_.2]? = some (.cells #[.int .i64 0, .int .i64 0, .int .i64 0] 38 (0, 0))) ∧ (w.heap.size ≤ s_.1) ∧ (w.heap.size ≤ s_.1) ∧ (gb101 ≠ s_.1) ∧ (s_.1 ≠ gb101) ∧ (gb102 ≠ s_.1) ∧ (s_.1 ≠ gb102) ∧ (gb103 ≠ s_.1) ∧ (s_.1 ≠ gb103) ∧ (gb117 ≠ s_.1) ∧ (s_.1 ≠ gb117) ∧ (gb120 ≠ s_.1) ∧ (s_.1 ≠ gb120) ∧ (gb127 ≠ s_.1) ∧ (s_.1 ≠ gb127) ∧ (s_.2 ≠ s_.1) ∧ (s_.1 ≠ s_.2) ∧ (w.heap.size ≤ s_.2) ∧ (w.heap.size ≤ s_.2) ∧ (gb101 ≠ s_.2) ∧ (s_.2 ≠ gb101) ∧ (gb102 ≠ s_.2) ∧ (s_.2 ≠ gb102) ∧ (gb103 ≠ s_.2) ∧ (s_.2 ≠ gb103) ∧ (gb117 ≠ s_.2) ∧ (s_.2 ≠ gb117) ∧ (gb120 ≠ s_.2) ∧ (s_.2 ≠ gb120) ∧ (gb127 ≠ s_.2) ∧ (s_.2 ≠ gb127) ∧ (Below w.heap.size w w')) ?_ ?_
                rotate_left
                ·intro hJ6_7
                 refine join_ (σ := Unit) 5 #[true, true, true, true, true, false, false, false, false, false] (fun s_ => [(143, .agg #[.int .i64 t135, .int .i64 t136, .int .i64 t137])]) (fun s_ w' => (w'.cell? ⟨gb117, 0, none⟩ = some (.slice (some ad128) t111.length co32) ∧ w'.cell? ⟨gb117, 1, none⟩ = some (.int .i64 t114) ∧ w'.cell? ⟨gb117, 2, none⟩ = some (.int .i64 t115) ∧ w'.cell? ⟨gb117, 3, none⟩ = some (.int .i64 t116) ∧ w'.cell? ⟨gb127, 0, none⟩ = some (.slice Ao55 t121.length co55) ∧ w'.cell? ⟨gb127, 1, none⟩ = some (.int .i64 t124) ∧ w'.cell? ⟨gb127, 2, none⟩ = some (.int .i64 t125) ∧ w'.cell? ⟨gb127, 3, none⟩ = some (.int .i64 t126)) ∧ (Kd.R k60 60 w' w.heap.size (fun k_ => some k_ ≠ (.slice Ao55 t121.length co55 : Value).ownBlock) (.slice (some ad128) t111.length co32) t111) ∧ (Kd.R k60 60 w' w.heap.size (fun k_ => some k_ ≠ (.slice (some ad128) t111.length co32 : Value).ownBlock) (.slice Ao55 t121.length co55) t121) ∧ (w'.heap[gb101]? = some (.cells #[.slice A0_0 l0_0.length c0_0, .slice A0_1 l0_1.length c0_1, .int .u16 a0_2] 45 (0, 0))) ∧ (w'.heap[gb102]? = some (.cells #[.int .u8 a1_0, .int .u8 a1_1] 80 (0, 0))) ∧ (w'.heap[gb103]? = some (.cells #[.int .u8 a2_0, .int .u8 a2_1] 80 (0, 0))) ∧ (w'.heap[gb117]? = some (.cells #[.slice (some ad128) t111.length co32, .int .i64 t114, .int .i64 t115, .int .i64 t116] 56 (0, 0))) ∧ (w'.heap[gb120]? = some (.cells #[.int .i64 t118, .int .i64 t119] 35 (0, 0))) ∧ (w'.heap[gb127]? = some (.cells #[.slice Ao55 t121.length co55, .int .i64 t124, .int .i64 t125, .int .i64 t126] 56 (0, 0))) ∧ (Below w.heap.size w w')) ?_ ?_
                 rotate_left
                 ·intro hJ2
                  refine join_ (σ := Nat) 5 #[true, true, false, true, true, false, true, false, false, false] (fun s_ => [(14, .pointer (some ⟨s_, 0, none⟩))]) (fun s_ w' => (w'.cell? ⟨gb117, 0, none⟩ = some (.slice (some ad128) t111.length co32) ∧ w'.cell? ⟨gb117, 1, none⟩ = some (.int .i64 t114) ∧ w'.cell? ⟨gb117, 2, none⟩ = some (.int .i64 t115) ∧ w'.cell? ⟨gb117, 3, none⟩ = some (.int .i64 t116) ∧ w'.cell? ⟨gb127, 0, none⟩ = some (.slice Ao55 t121.length co55) ∧ w'.cell? ⟨gb127, 1, none⟩ = some (.int .i64 t124) ∧ w'.cell? ⟨gb127, 2, none⟩ = some (.int .i64 t125) ∧ w'.cell? ⟨gb127, 3, none⟩ = some (.int .i64 t126)) ∧ (Kd.R k60 60 w' w.heap.size (fun k_ => some k_ ≠ (.slice Ao55 t121.length co55 : Value).ownBlock) (.slice (some ad128) t111.length co32) t111) ∧ (Kd.R k60 60 w' w.heap.size (fun k_ => some k_ ≠ (.slice (some ad128) t111.length co32 : Value).ownBlock) (.slice Ao55 t121.length co55) t121) ∧ (w'.heap[gb101]? = some (.cells #[.slice A0_0 l0_0.length c0_0, .slice A0_1 l0_1.length c0_1, .int .u16 a0_2] 45 (0, 0))) ∧ (w'.heap[gb102]? = some (.cells #[.int .u8 a1_0, .int .u8 a1_1] 80 (0, 0))) ∧ (w'.heap[gb103]? = some (.cells #[.int .u8 a2_0, .int .u8 a2_1] 80 (0, 0))) ∧ (w'.heap[gb117]? = some (.cells #[.slice (some ad128) t111.length co32, .int .i64 t114, .int .i64 t115, .int .i64 t116] 56 (0, 0))) ∧ (w'.heap[gb120]? = some (.cells #[.int .i64 t118, .int .i64 t119] 35 (0, 0))) ∧ (w'.heap[gb127]? = some (.cells #[.slice Ao55 t121.length co55, .int .i64 t124, .int .i64 t125, .int .i64 t126] 56 (0, 0))) ∧ (w'.heap[s_]? = some (.cells #[.int .i64 0, .int .i64 0, .int .i64 0] 38 (0, 0))) ∧ (w.heap.size ≤ s_) ∧ (w.heap.size ≤ s_) ∧ (gb101 ≠ s_) ∧ (s_ ≠ gb101) ∧ (gb102 ≠ s_) ∧ (s_ ≠ gb102) ∧ (gb103 ≠ s_) ∧ (s_ ≠ gb103) ∧ (gb117 ≠ s_) ∧ (s_ ≠ gb117) ∧ (gb120 ≠ s_) ∧ (s_ ≠ gb120) ∧ (gb127 ≠ s_) ∧ (s_ ≠ gb127) ∧ (Below w.heap.size w w')) ?_ ?_
                  rotate_left
                  ·intro hJ6
                   refine join_ (σ := Nat) 5 #[true, true, false, true, true, false, false, true, false, false] (fun s_ => [(15, .pointer (some ⟨s_, 0, none⟩))]) (fun s_ w' => (w'.cell? ⟨gb117, 0, none⟩ = some (.slice (some ad128) t111.length co32) ∧ w'.cell? ⟨gb117, 1, none⟩ = some (.int .i64 t114) ∧ w'.cell? ⟨gb117, 2, none⟩ = some (.int .i64 t115) ∧ w'.cell? ⟨gb117, 3, none⟩ = some (.int .i64 t116) ∧ w'.cell? ⟨gb127, 0, none⟩ = some (.slice Ao55 t121.length co55) ∧ w'.cell? ⟨gb127, 1, none⟩ = some (.int .i64 t124) ∧ w'.cell? ⟨gb127, 2, none⟩ = some (.int .i64 t125) ∧ w'.cell? ⟨gb127, 3, none⟩ = some (.int .i64 t126)) ∧ (Kd.R k60 60 w' w.heap.size (fun k_ => some k_ ≠ (.slice Ao55 t121.length co55 : Value).ownBlock) (.slice (some ad128) t111.length co32) t111) ∧ (Kd.R k60 60 w' w.heap.size (fun k_ => some k_ ≠ (.slice (some ad128) t111.length co32 : Value).ownBlock) (.slice Ao55 t121.length co55) t121) ∧ (w'.heap[gb101]? = some (.cells #[.slice A0_0 l0_0.length c0_0, .slice A0_1 l0_1.length c0_1, .int .u16 a0_2] 45 (0, 0))) ∧ (w'.heap[gb102]? = some (.cells #[.int .u8 a1_0, .int .u8 a1_1] 80 (0, 0))) ∧ (w'.heap[gb103]? = some (.cells #[.int .u8 a2_0, .int .u8 a2_1] 80 (0, 0))) ∧ (w'.heap[gb117]? = some (.cells #[.slice (some ad128) t111.length co32, .int .i64 t114, .int .i64 t115, .int .i64 t116] 56 (0, 0))) ∧ (w'.heap[gb120]? = some (.cells #[.int .i64 t118, .int .i64 t119] 35 (0, 0))) ∧ (w'.heap[gb127]? = some (.cells #[.slice Ao55 t121.length co55, .int .i64 t124, .int .i64 t125, .int .i64 t126] 56 (0, 0))) ∧ (w'.heap[s_]? = some (.cells #[.int .i64 0, .int .i64 0, .int .i64 0] 38 (0, 0))) ∧ (w.heap.size ≤ s_) ∧ (w.heap.size ≤ s_) ∧ (gb101 ≠ s_) ∧ (s_ ≠ gb101) ∧ (gb102 ≠ s_) ∧ (s_ ≠ gb102) ∧ (gb103 ≠ s_) ∧ (s_ ≠ gb103) ∧ (gb117 ≠ s_) ∧ (s_ ≠ gb117) ∧ (gb120 ≠ s_) ∧ (s_ ≠ gb120) ∧ (gb127 ≠ s_) ∧ (s_ ≠ gb127) ∧ (Below w.heap.size w w')) ?_ ?_
                   rotate_left
                   ·intro hJ7
                    refine three3 (i := 2) (j := 6) (k := 7) (Ni := some 143) (Nj := some 14) (Nk := some 15) HT_ rfl rfl rfl rfl rfl rfl (fun K hK => ?_) (fun K hK => ?_) (fun K hK => ?_)
                    ·refine gS Try.func40 #[.slice (some ad128) t111.length co32] ?_
                     with_reducible refine (parolelaw42_total.calls k1 _ _ t111 t135 t136 t137 _ ?side1 ?side2 A77.out).mono ?_
                     (case side1 => exact rC HO_118000)
                     (case side2 => exact rN HO_118000)
                     rintro e w87 ⟨rfl, hb⟩
                     refine ⟨_, rfl, ?_⟩
                     replace HO_118000 := rB HO_118000 hb; replace HO_128000 := rB HO_128000 hb; replace BK101 := bB BK101 hb; replace BK102 := bB BK102 hb; replace BK103 := bB BK103 hb; replace BK117 := bB BK117 hb; replace BK120 := bB BK120 hb; replace BK127 := bB BK127 hb; replace HB := sB HB hb; (try clear hb); (try clear hb2); (try clear hk); (try clear hi)
                     refine hK.out _ _ ⟨cE BK117 0, cE BK117 1, cE BK117 2, cE BK117 3, cE BK127 0, cE BK127 1, cE BK127 2, cE BK127 3⟩ (fun hHeld => ?_)
                     clear hK K
                     refine nX (some 143) ?_
                     exact nV (hJ2 () _ ⟨hHeld, rD HO_118000, rD HO_128000, bD BK101, bD BK102, bD BK103, bD BK117, bD BK120, bD BK127, sD HB⟩)
                    ·refine bS (N := 14) (cs := #[.int .i64 0, .int .i64 0, .int .i64 0]) (t := 38) ?_
                     intro gb141 hg w87 hbox hb
                     have BK141 := aM (hbox); have GW141 := gE hg HB; have GE141 := gE hg HB; obtain ⟨NB101_141, NB141_101⟩ := nB hg BK101; obtain ⟨NB102_141, NB141_102⟩ := nB hg BK102; obtain ⟨NB103_141, NB141_103⟩ := nB hg BK103; obtain ⟨NB117_141, NB141_117⟩ := nB hg BK117; obtain ⟨NB120_141, NB141_120⟩ := nB hg BK120; obtain ⟨NB127_141, NB141_127⟩ := nB hg BK127; replace HO_118000 := rB HO_118000 hb; replace HO_128000 := rB HO_128000 hb; replace BK101 := bB BK101 hb; replace BK102 := bB BK102 hb; replace BK103 := bB BK103 hb; replace BK117 := bB BK117 hb; replace BK120 := bB BK120 hb; replace BK127 := bB BK127 hb; replace HB := sB HB hb; clear hb hbox hg
                     refine hK.out _ _ ⟨cE BK117 0, cE BK117 1, cE BK117 2, cE BK117 3, cE BK127 0, cE BK127 1, cE BK127 2, cE BK127 3⟩ (fun hHeld => ?_)
                     clear hK K
                     refine nX (some 14) ?_
                     exact nV (hJ6 (gb141) _ ⟨hHeld, rD HO_118000, rD HO_128000, bD BK101, bD BK102, bD BK103, bD BK117, bD BK120, bD BK127, bD BK141, GW141.out, GE141.out, NB101_141.out, NB141_101.out, NB102_141.out, NB141_102.out, NB103_141.out, NB141_103.out, NB117_141.out, NB141_117.out, NB120_141.out, NB141_120.out, NB127_141.out, NB141_127.out, sD HB⟩)
                    ·refine bS (N := 15) (cs := #[.int .i64 0, .int .i64 0, .int .i64 0]) (t := 38) ?_
                     intro gb142 hg w87 hbox hb
                     have BK142 := aM (hbox); have GW142 := gE hg HB; have GE142 := gE hg HB; obtain ⟨NB101_142, NB142_101⟩ := nB hg BK101; obtain ⟨NB102_142, NB142_102⟩ := nB hg BK102; obtain ⟨NB103_142, NB142_103⟩ := nB hg BK103; obtain ⟨NB117_142, NB142_117⟩ := nB hg BK117; obtain ⟨NB120_142, NB142_120⟩ := nB hg BK120; obtain ⟨NB127_142, NB142_127⟩ := nB hg BK127; replace HO_118000 := rB HO_118000 hb; replace HO_128000 := rB HO_128000 hb; replace BK101 := bB BK101 hb; replace BK102 := bB BK102 hb; replace BK103 := bB BK103 hb; replace BK117 := bB BK117 hb; replace BK120 := bB BK120 hb; replace BK127 := bB BK127 hb; replace HB := sB HB hb; clear hb hbox hg
                     refine hK.out _ _ ⟨cE BK117 0, cE BK117 1, cE BK117 2, cE BK117 3, cE BK127 0, cE BK127 1, cE BK127 2, cE BK127 3⟩ (fun hHeld => ?_)
                     clear hK K
                     refine nX (some 15) ?_
                     exact nV (hJ7 (gb142) _ ⟨hHeld, rD HO_118000, rD HO_128000, bD BK101, bD BK102, bD BK103, bD BK117, bD BK120, bD BK127, bD BK142, GW142.out, GE142.out, NB101_142.out, NB142_101.out, NB102_142.out, NB142_102.out, NB103_142.out, NB142_103.out, NB117_142.out, NB142_117.out, NB120_142.out, NB142_120.out, NB127_142.out, NB142_127.out, sD HB⟩)
                   ·rintro gb142 w88 ⟨hS_, h0_, h1_, h2_, h3_, h4_, h5_, h6_, h7_, h8_, h9_, h10_, h11_, h12_, h13_, h14_, h15_, h16_, h17_, h18_, h19_, h20_, h21_, h22_, h23_⟩
                    (try dsimp only at h0_ h1_ h2_ h3_ h4_ h5_ h6_ h7_ h8_ h9_ h10_ h11_ h12_ h13_ h14_ h15_ h16_ h17_ h18_ h19_ h20_ h21_ h22_ h23_)
                    have BK142 := aM h8_; have GW142 := aM h9_; have GE142 := aM h10_; have NB101_142 := aM h11_; have NB142_101 := aM h12_; have NB102_142 := aM h13_; have NB142_102 := aM h14_; have NB103_142 := aM h15_; have NB142_103 := aM h16_; have NB117_142 := aM h17_; have NB142_117 := aM h18_; have NB120_142 := aM h19_; have NB142_120 := aM h20_; have NB127_142 := aM h21_; have NB142_127 := aM h22_; replace HO_118000 := aM h0_; replace HO_128000 := aM h1_; replace BK101 := aM h2_; replace BK102 := aM h3_; replace BK103 := aM h4_
                    replace BK117 := aM h5_; replace BK120 := aM h6_; replace BK127 := aM h7_; replace HB := aM h23_; clear h0_ h1_ h2_ h3_ h4_ h5_ h6_ h7_ h8_ h9_ h10_ h11_ h12_ h13_ h14_ h15_ h16_ h17_ h18_ h19_ h20_ h21_ h22_ h23_
                    (try dsimp only at hS_); have hHeld := hS_; clear hS_
                    refine nQ ?_
                    refine two2 (i := 2) (j := 6) (Ni := some 143) (Nj := some 14) HT_ rfl rfl rfl rfl (fun K hK => ?_) (fun K hK => ?_)
                    ·refine gS Try.func40 #[.slice (some ad128) t111.length co32] ?_
                     with_reducible refine (parolelaw42_total.calls k1 _ _ t111 t135 t136 t137 _ ?side1 ?side2 A77.out).mono ?_
                     (case side1 => exact rC HO_118000)
                     (case side2 => exact rN HO_118000)
                     rintro e w89 ⟨rfl, hb⟩
                     refine ⟨_, rfl, ?_⟩
                     replace HO_118000 := rB HO_118000 hb; replace HO_128000 := rB HO_128000 hb; replace BK101 := bB BK101 hb; replace BK102 := bB BK102 hb; replace BK103 := bB BK103 hb; replace BK117 := bB BK117 hb; replace BK120 := bB BK120 hb; replace BK127 := bB BK127 hb; replace BK142 := bB BK142 hb; replace HB := sB HB hb; (try clear hb); (try clear hb2); (try clear hk); (try clear hi)
                     refine hK.out _ _ ⟨cE BK117 0, cE BK117 1, cE BK117 2, cE BK117 3, cE BK127 0, cE BK127 1, cE BK127 2, cE BK127 3⟩ (fun hHeld => ?_)
                     clear hK K
                     refine nX (some 143) ?_
                     exact nV (hJ2_7 (gb142) _ ⟨hHeld, rD HO_118000, rD HO_128000, bD BK101, bD BK102, bD BK103, bD BK117, bD BK120, bD BK127, bD BK142, GW142.out, GE142.out, NB101_142.out, NB142_101.out, NB102_142.out, NB142_102.out, NB103_142.out, NB142_103.out, NB117_142.out, NB142_117.out, NB120_142.out, NB142_120.out, NB127_142.out, NB142_127.out, sD HB⟩)
                    ·refine bS (N := 14) (cs := #[.int .i64 0, .int .i64 0, .int .i64 0]) (t := 38) ?_
                     intro gb141 hg w89 hbox hb
                     have BK141 := aM (hbox); have GW141 := gE hg HB; have GE141 := gE hg HB; obtain ⟨NB101_141, NB141_101⟩ := nB hg BK101; obtain ⟨NB102_141, NB141_102⟩ := nB hg BK102; obtain ⟨NB103_141, NB141_103⟩ := nB hg BK103; obtain ⟨NB117_141, NB141_117⟩ := nB hg BK117; obtain ⟨NB120_141, NB141_120⟩ := nB hg BK120; obtain ⟨NB127_141, NB141_127⟩ := nB hg BK127; obtain ⟨NB142_141, NB141_142⟩ := nB hg BK142; replace HO_118000 := rB HO_118000 hb; replace HO_128000 := rB HO_128000 hb; replace BK101 := bB BK101 hb; replace BK102 := bB BK102 hb; replace BK103 := bB BK103 hb; replace BK117 := bB BK117 hb; replace BK120 := bB BK120 hb; replace BK127 := bB BK127 hb
                     replace BK142 := bB BK142 hb; replace HB := sB HB hb; clear hb hbox hg
                     refine hK.out _ _ ⟨cE BK117 0, cE BK117 1, cE BK117 2, cE BK117 3, cE BK127 0, cE BK127 1, cE BK127 2, cE BK127 3⟩ (fun hHeld => ?_)
                     clear hK K
                     refine nX (some 14) ?_
                     exact nV (hJ6_7 (gb141, gb142) _ ⟨hHeld, rD HO_118000, rD HO_128000, bD BK101, bD BK102, bD BK103, bD BK117, bD BK120, bD BK127, bD BK141, bD BK142, GW141.out, GE141.out, NB101_141.out, NB141_101.out, NB102_141.out, NB141_102.out, NB103_141.out, NB141_103.out, NB117_141.out, NB141_117.out, NB120_141.out, NB141_120.out, NB127_141.out, NB141_127.out, NB142_141.out, NB141_142.out, GW142.out, GE142.out, NB101_142.out, NB142_101.out, NB102_142.out, NB142_102.out, NB103_142.out, NB142_103.out, NB117_142.out, NB142_117.out, NB120_142.out, NB142_120.out, NB127_142.out, NB142_127.out, sD HB⟩)
                  ·rintro gb141 w88 ⟨hS_, h0_, h1_, h2_, h3_, h4_, h5_, h6_, h7_, h8_, h9_, h10_, h11_, h12_, h13_, h14_, h15_, h16_, h17_, h18_, h19_, h20_, h21_, h22_, h23_⟩
                   (try dsimp only at h0_ h1_ h2_ h3_ h4_ h5_ h6_ h7_ h8_ h9_ h10_ h11_ h12_ h13_ h14_ h15_ h16_ h17_ h18_ h19_ h20_ h21_ h22_ h23_)
                   have BK141 := aM h8_; have GW141 := aM h9_; have GE141 := aM h10_; have NB101_141 := aM h11_; have NB141_101 := aM h12_; have NB102_141 := aM h13_; have NB141_102 := aM h14_; have NB103_141 := aM h15_; have NB141_103 := aM h16_; have NB117_141 := aM h17_; have NB141_117 := aM h18_; have NB120_141 := aM h19_; have NB141_120 := aM h20_; have NB127_141 := aM h21_; have NB141_127 := aM h22_; replace HO_118000 := aM h0_; replace HO_128000 := aM h1_; replace BK101 := aM h2_; replace BK102 := aM h3_; replace BK103 := aM h4_
                   replace BK117 := aM h5_; replace BK120 := aM h6_; replace BK127 := aM h7_; replace HB := aM h23_; clear h0_ h1_ h2_ h3_ h4_ h5_ h6_ h7_ h8_ h9_ h10_ h11_ h12_ h13_ h14_ h15_ h16_ h17_ h18_ h19_ h20_ h21_ h22_ h23_
                   (try dsimp only at hS_); have hHeld := hS_; clear hS_
                   refine nQ ?_
                   refine two2 (i := 2) (j := 7) (Ni := some 143) (Nj := some 15) HT_ rfl rfl rfl rfl (fun K hK => ?_) (fun K hK => ?_)
                   ·refine gS Try.func40 #[.slice (some ad128) t111.length co32] ?_
                    with_reducible refine (parolelaw42_total.calls k1 _ _ t111 t135 t136 t137 _ ?side1 ?side2 A77.out).mono ?_
                    (case side1 => exact rC HO_118000)
                    (case side2 => exact rN HO_118000)
                    rintro e w89 ⟨rfl, hb⟩
                    refine ⟨_, rfl, ?_⟩
                    replace HO_118000 := rB HO_118000 hb; replace HO_128000 := rB HO_128000 hb; replace BK101 := bB BK101 hb; replace BK102 := bB BK102 hb; replace BK103 := bB BK103 hb; replace BK117 := bB BK117 hb; replace BK120 := bB BK120 hb; replace BK127 := bB BK127 hb; replace BK141 := bB BK141 hb; replace HB := sB HB hb; (try clear hb); (try clear hb2); (try clear hk); (try clear hi)
                    refine hK.out _ _ ⟨cE BK117 0, cE BK117 1, cE BK117 2, cE BK117 3, cE BK127 0, cE BK127 1, cE BK127 2, cE BK127 3⟩ (fun hHeld => ?_)
                    clear hK K
                    refine nX (some 143) ?_
                    exact nV (hJ2_6 (gb141) _ ⟨hHeld, rD HO_118000, rD HO_128000, bD BK101, bD BK102, bD BK103, bD BK117, bD BK120, bD BK127, bD BK141, GW141.out, GE141.out, NB101_141.out, NB141_101.out, NB102_141.out, NB141_102.out, NB103_141.out, NB141_103.out, NB117_141.out, NB141_117.out, NB120_141.out, NB141_120.out, NB127_141.out, NB141_127.out, sD HB⟩)
                   ·refine bS (N := 15) (cs := #[.int .i64 0, .int .i64 0, .int .i64 0]) (t := 38) ?_
                    intro gb142 hg w89 hbox hb
                    have BK142 := aM (hbox); have GW142 := gE hg HB; have GE142 := gE hg HB; obtain ⟨NB101_142, NB142_101⟩ := nB hg BK101; obtain ⟨NB102_142, NB142_102⟩ := nB hg BK102; obtain ⟨NB103_142, NB142_103⟩ := nB hg BK103; obtain ⟨NB117_142, NB142_117⟩ := nB hg BK117; obtain ⟨NB120_142, NB142_120⟩ := nB hg BK120; obtain ⟨NB127_142, NB142_127⟩ := nB hg BK127; obtain ⟨NB141_142, NB142_141⟩ := nB hg BK141; replace HO_118000 := rB HO_118000 hb; replace HO_128000 := rB HO_128000 hb; replace BK101 := bB BK101 hb; replace BK102 := bB BK102 hb; replace BK103 := bB BK103 hb; replace BK117 := bB BK117 hb; replace BK120 := bB BK120 hb; replace BK127 := bB BK127 hb
                    replace BK141 := bB BK141 hb; replace HB := sB HB hb; clear hb hbox hg
                    refine hK.out _ _ ⟨cE BK117 0, cE BK117 1, cE BK117 2, cE BK117 3, cE BK127 0, cE BK127 1, cE BK127 2, cE BK127 3⟩ (fun hHeld => ?_)
                    clear hK K
                    refine nX (some 15) ?_
                    exact nV (hJ6_7 (gb141, gb142) _ ⟨hHeld, rD HO_118000, rD HO_128000, bD BK101, bD BK102, bD BK103, bD BK117, bD BK120, bD BK127, bD BK141, bD BK142, GW141.out, GE141.out, NB101_141.out, NB141_101.out, NB102_141.out, NB141_102.out, NB103_141.out, NB141_103.out, NB117_141.out, NB141_117.out, NB120_141.out, NB141_120.out, NB127_141.out, NB141_127.out, NB142_141.out, NB141_142.out, GW142.out, GE142.out, NB101_142.out, NB142_101.out, NB102_142.out, NB142_102.out, NB103_142.out, NB142_103.out, NB117_142.out, NB142_117.out, NB120_142.out, NB142_120.out, NB127_142.out, NB142_127.out, sD HB⟩)
                 ·rintro _ w88 ⟨hS_, h0_, h1_, h2_, h3_, h4_, h5_, h6_, h7_, h8_⟩
                  (try dsimp only at h0_ h1_ h2_ h3_ h4_ h5_ h6_ h7_ h8_)
                  replace HO_118000 := aM h0_; replace HO_128000 := aM h1_; replace BK101 := aM h2_; replace BK102 := aM h3_; replace BK103 := aM h4_; replace BK117 := aM h5_; replace BK120 := aM h6_; replace BK127 := aM h7_; replace HB := aM h8_; clear h0_ h1_ h2_ h3_ h4_ h5_ h6_ h7_ h8_
                  (try dsimp only at hS_); have hHeld := hS_; clear hS_
                  refine nQ ?_
                  refine three3 (i := 5) (j := 6) (k := 7) (Ni := some 146) (Nj := some 14) (Nk := some 15) HT_ rfl rfl rfl rfl rfl rfl (fun K hK => ?_) (fun K hK => ?_) (fun K hK => ?_)
                  ·refine gS Try.func40 #[.slice Ao55 t121.length co55] ?_
                   with_reducible refine (parolelaw42_total.calls k1 _ _ t121 t138 t139 t140 _ ?side1 ?side2 A78.out).mono ?_
                   (case side1 => exact rC HO_128000)
                   (case side2 => exact rN HO_128000)
                   rintro e w89 ⟨rfl, hb⟩
                   refine ⟨_, rfl, ?_⟩
                   replace HO_118000 := rB HO_118000 hb; replace HO_128000 := rB HO_128000 hb; replace BK101 := bB BK101 hb; replace BK102 := bB BK102 hb; replace BK103 := bB BK103 hb; replace BK117 := bB BK117 hb; replace BK120 := bB BK120 hb; replace BK127 := bB BK127 hb; replace HB := sB HB hb; (try clear hb); (try clear hb2); (try clear hk); (try clear hi)
                   refine hK.out _ _ ⟨cE BK117 0, cE BK117 1, cE BK117 2, cE BK117 3, cE BK127 0, cE BK127 1, cE BK127 2, cE BK127 3⟩ (fun hHeld => ?_)
                   clear hK K
                   refine nX (some 146) ?_
                   exact nV (hJ2_5 () _ ⟨hHeld, rD HO_118000, rD HO_128000, bD BK101, bD BK102, bD BK103, bD BK117, bD BK120, bD BK127, sD HB⟩)
                  ·refine bS (N := 14) (cs := #[.int .i64 0, .int .i64 0, .int .i64 0]) (t := 38) ?_
                   intro gb141 hg w89 hbox hb
                   have BK141 := aM (hbox); have GW141 := gE hg HB; have GE141 := gE hg HB; obtain ⟨NB101_141, NB141_101⟩ := nB hg BK101; obtain ⟨NB102_141, NB141_102⟩ := nB hg BK102; obtain ⟨NB103_141, NB141_103⟩ := nB hg BK103; obtain ⟨NB117_141, NB141_117⟩ := nB hg BK117; obtain ⟨NB120_141, NB141_120⟩ := nB hg BK120; obtain ⟨NB127_141, NB141_127⟩ := nB hg BK127; replace HO_118000 := rB HO_118000 hb; replace HO_128000 := rB HO_128000 hb; replace BK101 := bB BK101 hb; replace BK102 := bB BK102 hb; replace BK103 := bB BK103 hb; replace BK117 := bB BK117 hb; replace BK120 := bB BK120 hb; replace BK127 := bB BK127 hb; replace HB := sB HB hb; clear hb hbox hg
                   refine hK.out _ _ ⟨cE BK117 0, cE BK117 1, cE BK117 2, cE BK117 3, cE BK127 0, cE BK127 1, cE BK127 2, cE BK127 3⟩ (fun hHeld => ?_)
                   clear hK K
                   refine nX (some 14) ?_
                   exact nV (hJ2_6 (gb141) _ ⟨hHeld, rD HO_118000, rD HO_128000, bD BK101, bD BK102, bD BK103, bD BK117, bD BK120, bD BK127, bD BK141, GW141.out, GE141.out, NB101_141.out, NB141_101.out, NB102_141.out, NB141_102.out, NB103_141.out, NB141_103.out, NB117_141.out, NB141_117.out, NB120_141.out, NB141_120.out, NB127_141.out, NB141_127.out, sD HB⟩)
                  ·refine bS (N := 15) (cs := #[.int .i64 0, .int .i64 0, .int .i64 0]) (t := 38) ?_
                   intro gb142 hg w89 hbox hb
                   have BK142 := aM (hbox); have GW142 := gE hg HB; have GE142 := gE hg HB; obtain ⟨NB101_142, NB142_101⟩ := nB hg BK101; obtain ⟨NB102_142, NB142_102⟩ := nB hg BK102; obtain ⟨NB103_142, NB142_103⟩ := nB hg BK103; obtain ⟨NB117_142, NB142_117⟩ := nB hg BK117; obtain ⟨NB120_142, NB142_120⟩ := nB hg BK120; obtain ⟨NB127_142, NB142_127⟩ := nB hg BK127; replace HO_118000 := rB HO_118000 hb; replace HO_128000 := rB HO_128000 hb; replace BK101 := bB BK101 hb; replace BK102 := bB BK102 hb; replace BK103 := bB BK103 hb; replace BK117 := bB BK117 hb; replace BK120 := bB BK120 hb; replace BK127 := bB BK127 hb; replace HB := sB HB hb; clear hb hbox hg
                   refine hK.out _ _ ⟨cE BK117 0, cE BK117 1, cE BK117 2, cE BK117 3, cE BK127 0, cE BK127 1, cE BK127 2, cE BK127 3⟩ (fun hHeld => ?_)
                   clear hK K
                   refine nX (some 15) ?_
                   exact nV (hJ2_7 (gb142) _ ⟨hHeld, rD HO_118000, rD HO_128000, bD BK101, bD BK102, bD BK103, bD BK117, bD BK120, bD BK127, bD BK142, GW142.out, GE142.out, NB101_142.out, NB142_101.out, NB102_142.out, NB142_102.out, NB103_142.out, NB142_103.out, NB117_142.out, NB142_117.out, NB120_142.out, NB142_120.out, NB127_142.out, NB142_127.out, sD HB⟩)
                ·rintro ⟨gb141, gb142⟩ w89 ⟨hS_, h0_, h1_, h2_, h3_, h4_, h5_, h6_, h7_, h8_, h9_, h10_, h11_, h12_, h13_, h14_, h15_, h16_, h17_, h18_, h19_, h20_, h21_, h22_, h23_, h24_, h25_, h26_, h27_, h28_, h29_, h30_, h31_, h32_, h33_, h34_, h35_, h36_, h37_, h38_, h39_, h40_⟩
                 (try dsimp only at h0_ h1_ h2_ h3_ h4_ h5_ h6_ h7_ h8_ h9_ h10_ h11_ h12_ h13_ h14_ h15_ h16_ h17_ h18_ h19_ h20_ h21_ h22_ h23_ h24_ h25_ h26_ h27_ h28_ h29_ h30_ h31_ h32_ h33_ h34_ h35_ h36_ h37_ h38_ h39_ h40_)
                 have BK141 := aM h8_; have BK142 := aM h9_; have GW141 := aM h10_; have GE141 := aM h11_; have NB101_141 := aM h12_; have NB141_101 := aM h13_; have NB102_141 := aM h14_; have NB141_102 := aM h15_; have NB103_141 := aM h16_; have NB141_103 := aM h17_; have NB117_141 := aM h18_; have NB141_117 := aM h19_; have NB120_141 := aM h20_; have NB141_120 := aM h21_; have NB127_141 := aM h22_; have NB141_127 := aM h23_; have NB142_141 := aM h24_; have NB141_142 := aM h25_; have GW142 := aM h26_; have GE142 := aM h27_
                 have NB101_142 := aM h28_; have NB142_101 := aM h29_; have NB102_142 := aM h30_; have NB142_102 := aM h31_; have NB103_142 := aM h32_; have NB142_103 := aM h33_; have NB117_142 := aM h34_; have NB142_117 := aM h35_; have NB120_142 := aM h36_; have NB142_120 := aM h37_; have NB127_142 := aM h38_; have NB142_127 := aM h39_; replace HO_118000 := aM h0_; replace HO_128000 := aM h1_; replace BK101 := aM h2_; replace BK102 := aM h3_; replace BK103 := aM h4_; replace BK117 := aM h5_; replace BK120 := aM h6_; replace BK127 := aM h7_
                 replace HB := aM h40_; clear h0_ h1_ h2_ h3_ h4_ h5_ h6_ h7_ h8_ h9_ h10_ h11_ h12_ h13_ h14_ h15_ h16_ h17_ h18_ h19_ h20_ h21_ h22_ h23_ h24_ h25_ h26_ h27_ h28_ h29_ h30_ h31_ h32_ h33_ h34_ h35_ h36_ h37_ h38_ h39_ h40_
                 (try dsimp only at hS_); have hHeld := hS_; clear hS_
                 refine nQ ?_
                 refine oX (i := 2) (N := some 143) rfl rfl HT_ (fun K hK => ?_)
                 refine gS Try.func40 #[.slice (some ad128) t111.length co32] ?_
                 with_reducible refine (parolelaw42_total.calls k1 _ _ t111 t135 t136 t137 _ ?side1 ?side2 A77.out).mono ?_
                 (case side1 => exact rC HO_118000)
                 (case side2 => exact rN HO_118000)
                 rintro e w90 ⟨rfl, hb⟩
                 refine ⟨_, rfl, ?_⟩
                 replace HO_118000 := rB HO_118000 hb; replace HO_128000 := rB HO_128000 hb; replace BK101 := bB BK101 hb; replace BK102 := bB BK102 hb; replace BK103 := bB BK103 hb; replace BK117 := bB BK117 hb; replace BK120 := bB BK120 hb; replace BK127 := bB BK127 hb; replace BK141 := bB BK141 hb; replace BK142 := bB BK142 hb; replace HB := sB HB hb; (try clear hb); (try clear hb2); (try clear hk); (try clear hi)
                 refine hK.out _ _ ⟨cE BK117 0, cE BK117 1, cE BK117 2, cE BK117 3, cE BK127 0, cE BK127 1, cE BK127 2, cE BK127 3⟩ (fun hHeld => ?_)
                 clear hK K
                 refine nX (some 143) ?_
                 exact nV (hJ2_6_7 (gb141, gb142) _ ⟨hHeld, rD HO_118000, rD HO_128000, bD BK101, bD BK102, bD BK103, bD BK117, bD BK120, bD BK127, bD BK141, bD BK142, GW141.out, GE141.out, NB101_141.out, NB141_101.out, NB102_141.out, NB141_102.out, NB103_141.out, NB141_103.out, NB117_141.out, NB141_117.out, NB120_141.out, NB141_120.out, NB127_141.out, NB141_127.out, NB142_141.out, NB141_142.out, GW142.out, GE142.out, NB101_142.out, NB142_101.out, NB102_142.out, NB142_102.out, NB103_142.out, NB142_103.out, NB117_142.out, NB142_117.out, NB120_142.out, NB142_120.out, NB127_142.out, NB142_127.out, sD HB⟩)
               ·rintro gb142 w89 ⟨hS_, h0_, h1_, h2_, h3_, h4_, h5_, h6_, h7_, h8_, h9_, h10_, h11_, h12_, h13_, h14_, h15_, h16_, h17_, h18_, h19_, h20_, h21_, h22_, h23_⟩
                (try dsimp only at h0_ h1_ h2_ h3_ h4_ h5_ h6_ h7_ h8_ h9_ h10_ h11_ h12_ h13_ h14_ h15_ h16_ h17_ h18_ h19_ h20_ h21_ h22_ h23_)
                have BK142 := aM h8_; have GW142 := aM h9_; have GE142 := aM h10_; have NB101_142 := aM h11_; have NB142_101 := aM h12_; have NB102_142 := aM h13_; have NB142_102 := aM h14_; have NB103_142 := aM h15_; have NB142_103 := aM h16_; have NB117_142 := aM h17_; have NB142_117 := aM h18_; have NB120_142 := aM h19_; have NB142_120 := aM h20_; have NB127_142 := aM h21_; have NB142_127 := aM h22_; replace HO_118000 := aM h0_; replace HO_128000 := aM h1_; replace BK101 := aM h2_; replace BK102 := aM h3_; replace BK103 := aM h4_
                replace BK117 := aM h5_; replace BK120 := aM h6_; replace BK127 := aM h7_; replace HB := aM h23_; clear h0_ h1_ h2_ h3_ h4_ h5_ h6_ h7_ h8_ h9_ h10_ h11_ h12_ h13_ h14_ h15_ h16_ h17_ h18_ h19_ h20_ h21_ h22_ h23_
                (try dsimp only at hS_); have hHeld := hS_; clear hS_
                refine nQ ?_
                refine two2 (i := 5) (j := 6) (Ni := some 146) (Nj := some 14) HT_ rfl rfl rfl rfl (fun K hK => ?_) (fun K hK => ?_)
                ·refine gS Try.func40 #[.slice Ao55 t121.length co55] ?_
                 with_reducible refine (parolelaw42_total.calls k1 _ _ t121 t138 t139 t140 _ ?side1 ?side2 A78.out).mono ?_
                 (case side1 => exact rC HO_128000)
                 (case side2 => exact rN HO_128000)
                 rintro e w90 ⟨rfl, hb⟩
                 refine ⟨_, rfl, ?_⟩
                 replace HO_118000 := rB HO_118000 hb; replace HO_128000 := rB HO_128000 hb; replace BK101 := bB BK101 hb; replace BK102 := bB BK102 hb; replace BK103 := bB BK103 hb; replace BK117 := bB BK117 hb; replace BK120 := bB BK120 hb; replace BK127 := bB BK127 hb; replace BK142 := bB BK142 hb; replace HB := sB HB hb; (try clear hb); (try clear hb2); (try clear hk); (try clear hi)
                 refine hK.out _ _ ⟨cE BK117 0, cE BK117 1, cE BK117 2, cE BK117 3, cE BK127 0, cE BK127 1, cE BK127 2, cE BK127 3⟩ (fun hHeld => ?_)
                 clear hK K
                 refine nX (some 146) ?_
                 exact nV (hJ2_5_7 (gb142) _ ⟨hHeld, rD HO_118000, rD HO_128000, bD BK101, bD BK102, bD BK103, bD BK117, bD BK120, bD BK127, bD BK142, GW142.out, GE142.out, NB101_142.out, NB142_101.out, NB102_142.out, NB142_102.out, NB103_142.out, NB142_103.out, NB117_142.out, NB142_117.out, NB120_142.out, NB142_120.out, NB127_142.out, NB142_127.out, sD HB⟩)
                ·refine bS (N := 14) (cs := #[.int .i64 0, .int .i64 0, .int .i64 0]) (t := 38) ?_
                 intro gb141 hg w90 hbox hb
                 have BK141 := aM (hbox); have GW141 := gE hg HB; have GE141 := gE hg HB; obtain ⟨NB101_141, NB141_101⟩ := nB hg BK101; obtain ⟨NB102_141, NB141_102⟩ := nB hg BK102; obtain ⟨NB103_141, NB141_103⟩ := nB hg BK103; obtain ⟨NB117_141, NB141_117⟩ := nB hg BK117; obtain ⟨NB120_141, NB141_120⟩ := nB hg BK120; obtain ⟨NB127_141, NB141_127⟩ := nB hg BK127; obtain ⟨NB142_141, NB141_142⟩ := nB hg BK142; replace HO_118000 := rB HO_118000 hb; replace HO_128000 := rB HO_128000 hb; replace BK101 := bB BK101 hb; replace BK102 := bB BK102 hb; replace BK103 := bB BK103 hb; replace BK117 := bB BK117 hb; replace BK120 := bB BK120 hb; replace BK127 := bB BK127 hb
                 replace BK142 := bB BK142 hb; replace HB := sB HB hb; clear hb hbox hg
                 refine hK.out _ _ ⟨cE BK117 0, cE BK117 1, cE BK117 2, cE BK117 3, cE BK127 0, cE BK127 1, cE BK127 2, cE BK127 3⟩ (fun hHeld => ?_)
                 clear hK K
                 refine nX (some 14) ?_
                 exact nV (hJ2_6_7 (gb141, gb142) _ ⟨hHeld, rD HO_118000, rD HO_128000, bD BK101, bD BK102, bD BK103, bD BK117, bD BK120, bD BK127, bD BK141, bD BK142, GW141.out, GE141.out, NB101_141.out, NB141_101.out, NB102_141.out, NB141_102.out, NB103_141.out, NB141_103.out, NB117_141.out, NB141_117.out, NB120_141.out, NB141_120.out, NB127_141.out, NB141_127.out, NB142_141.out, NB141_142.out, GW142.out, GE142.out, NB101_142.out, NB142_101.out, NB102_142.out, NB142_102.out, NB103_142.out, NB142_103.out, NB117_142.out, NB142_117.out, NB120_142.out, NB142_120.out, NB127_142.out, NB142_127.out, sD HB⟩)
              ·rintro gb141 w89 ⟨hS_, h0_, h1_, h2_, h3_, h4_, h5_, h6_, h7_, h8_, h9_, h10_, h11_, h12_, h13_, h14_, h15_, h16_, h17_, h18_, h19_, h20_, h21_, h22_, h23_⟩
               (try dsimp only at h0_ h1_ h2_ h3_ h4_ h5_ h6_ h7_ h8_ h9_ h10_ h11_ h12_ h13_ h14_ h15_ h16_ h17_ h18_ h19_ h20_ h21_ h22_ h23_)
               have BK141 := aM h8_; have GW141 := aM h9_; have GE141 := aM h10_; have NB101_141 := aM h11_; have NB141_101 := aM h12_; have NB102_141 := aM h13_; have NB141_102 := aM h14_; have NB103_141 := aM h15_; have NB141_103 := aM h16_; have NB117_141 := aM h17_; have NB141_117 := aM h18_; have NB120_141 := aM h19_; have NB141_120 := aM h20_; have NB127_141 := aM h21_; have NB141_127 := aM h22_; replace HO_118000 := aM h0_; replace HO_128000 := aM h1_; replace BK101 := aM h2_; replace BK102 := aM h3_; replace BK103 := aM h4_
               replace BK117 := aM h5_; replace BK120 := aM h6_; replace BK127 := aM h7_; replace HB := aM h23_; clear h0_ h1_ h2_ h3_ h4_ h5_ h6_ h7_ h8_ h9_ h10_ h11_ h12_ h13_ h14_ h15_ h16_ h17_ h18_ h19_ h20_ h21_ h22_ h23_
               (try dsimp only at hS_); have hHeld := hS_; clear hS_
               refine nQ ?_
               refine two2 (i := 5) (j := 7) (Ni := some 146) (Nj := some 15) HT_ rfl rfl rfl rfl (fun K hK => ?_) (fun K hK => ?_)
               ·refine gS Try.func40 #[.slice Ao55 t121.length co55] ?_
                with_reducible refine (parolelaw42_total.calls k1 _ _ t121 t138 t139 t140 _ ?side1 ?side2 A78.out).mono ?_
                (case side1 => exact rC HO_128000)
                (case side2 => exact rN HO_128000)
                rintro e w90 ⟨rfl, hb⟩
                refine ⟨_, rfl, ?_⟩
                replace HO_118000 := rB HO_118000 hb; replace HO_128000 := rB HO_128000 hb; replace BK101 := bB BK101 hb; replace BK102 := bB BK102 hb; replace BK103 := bB BK103 hb; replace BK117 := bB BK117 hb; replace BK120 := bB BK120 hb; replace BK127 := bB BK127 hb; replace BK141 := bB BK141 hb; replace HB := sB HB hb; (try clear hb); (try clear hb2); (try clear hk); (try clear hi)
                refine hK.out _ _ ⟨cE BK117 0, cE BK117 1, cE BK117 2, cE BK117 3, cE BK127 0, cE BK127 1, cE BK127 2, cE BK127 3⟩ (fun hHeld => ?_)
                clear hK K
                refine nX (some 146) ?_
                exact nV (hJ2_5_6 (gb141) _ ⟨hHeld, rD HO_118000, rD HO_128000, bD BK101, bD BK102, bD BK103, bD BK117, bD BK120, bD BK127, bD BK141, GW141.out, GE141.out, NB101_141.out, NB141_101.out, NB102_141.out, NB141_102.out, NB103_141.out, NB141_103.out, NB117_141.out, NB141_117.out, NB120_141.out, NB141_120.out, NB127_141.out, NB141_127.out, sD HB⟩)
               ·refine bS (N := 15) (cs := #[.int .i64 0, .int .i64 0, .int .i64 0]) (t := 38) ?_
                intro gb142 hg w90 hbox hb
                have BK142 := aM (hbox); have GW142 := gE hg HB; have GE142 := gE hg HB; obtain ⟨NB101_142, NB142_101⟩ := nB hg BK101; obtain ⟨NB102_142, NB142_102⟩ := nB hg BK102; obtain ⟨NB103_142, NB142_103⟩ := nB hg BK103; obtain ⟨NB117_142, NB142_117⟩ := nB hg BK117; obtain ⟨NB120_142, NB142_120⟩ := nB hg BK120; obtain ⟨NB127_142, NB142_127⟩ := nB hg BK127; obtain ⟨NB141_142, NB142_141⟩ := nB hg BK141; replace HO_118000 := rB HO_118000 hb; replace HO_128000 := rB HO_128000 hb; replace BK101 := bB BK101 hb; replace BK102 := bB BK102 hb; replace BK103 := bB BK103 hb; replace BK117 := bB BK117 hb; replace BK120 := bB BK120 hb; replace BK127 := bB BK127 hb
                replace BK141 := bB BK141 hb; replace HB := sB HB hb; clear hb hbox hg
                refine hK.out _ _ ⟨cE BK117 0, cE BK117 1, cE BK117 2, cE BK117 3, cE BK127 0, cE BK127 1, cE BK127 2, cE BK127 3⟩ (fun hHeld => ?_)
                clear hK K
                refine nX (some 15) ?_
                exact nV (hJ2_6_7 (gb141, gb142) _ ⟨hHeld, rD HO_118000, rD HO_128000, bD BK101, bD BK102, bD BK103, bD BK117, bD BK120, bD BK127, bD BK141, bD BK142, GW141.out, GE141.out, NB101_141.out, NB141_101.out, NB102_141.out, NB141_102.out, NB103_141.out, NB141_103.out, NB117_141.out, NB141_117.out, NB120_141.out, NB141_120.out, NB127_141.out, NB141_127.out, NB142_141.out, NB141_142.out, GW142.out, GE142.out, NB101_142.out, NB142_101.out, NB102_142.out, NB142_102.out, NB103_142.out, NB142_103.out, NB117_142.out, NB142_117.out, NB120_142.out, NB142_120.out, NB127_142.out, NB142_127.out, sD HB⟩)
             ·rintro _ w89 ⟨hS_, h0_, h1_, h2_, h3_, h4_, h5_, h6_, h7_, h8_⟩
              (try dsimp only at h0_ h1_ h2_ h3_ h4_ h5_ h6_ h7_ h8_)
              replace HO_118000 := aM h0_; replace HO_128000 := aM h1_; replace BK101 := aM h2_; replace BK102 := aM h3_; replace BK103 := aM h4_; replace BK117 := aM h5_; replace BK120 := aM h6_; replace BK127 := aM h7_; replace HB := aM h8_; clear h0_ h1_ h2_ h3_ h4_ h5_ h6_ h7_ h8_
              (try dsimp only at hS_); have hHeld := hS_; clear hS_
              refine nQ ?_
              refine two2 (i := 6) (j := 7) (Ni := some 14) (Nj := some 15) HT_ rfl rfl rfl rfl (fun K hK => ?_) (fun K hK => ?_)
              ·refine bS (N := 14) (cs := #[.int .i64 0, .int .i64 0, .int .i64 0]) (t := 38) ?_
               intro gb141 hg w90 hbox hb
               have BK141 := aM (hbox); have GW141 := gE hg HB; have GE141 := gE hg HB; obtain ⟨NB101_141, NB141_101⟩ := nB hg BK101; obtain ⟨NB102_141, NB141_102⟩ := nB hg BK102; obtain ⟨NB103_141, NB141_103⟩ := nB hg BK103; obtain ⟨NB117_141, NB141_117⟩ := nB hg BK117; obtain ⟨NB120_141, NB141_120⟩ := nB hg BK120; obtain ⟨NB127_141, NB141_127⟩ := nB hg BK127; replace HO_118000 := rB HO_118000 hb; replace HO_128000 := rB HO_128000 hb; replace BK101 := bB BK101 hb; replace BK102 := bB BK102 hb; replace BK103 := bB BK103 hb; replace BK117 := bB BK117 hb; replace BK120 := bB BK120 hb; replace BK127 := bB BK127 hb; replace HB := sB HB hb; clear hb hbox hg
               refine hK.out _ _ ⟨cE BK117 0, cE BK117 1, cE BK117 2, cE BK117 3, cE BK127 0, cE BK127 1, cE BK127 2, cE BK127 3⟩ (fun hHeld => ?_)
               clear hK K
               refine nX (some 14) ?_
               exact nV (hJ2_5_6 (gb141) _ ⟨hHeld, rD HO_118000, rD HO_128000, bD BK101, bD BK102, bD BK103, bD BK117, bD BK120, bD BK127, bD BK141, GW141.out, GE141.out, NB101_141.out, NB141_101.out, NB102_141.out, NB141_102.out, NB103_141.out, NB141_103.out, NB117_141.out, NB141_117.out, NB120_141.out, NB141_120.out, NB127_141.out, NB141_127.out, sD HB⟩)
              ·refine bS (N := 15) (cs := #[.int .i64 0, .int .i64 0, .int .i64 0]) (t := 38) ?_
               intro gb142 hg w90 hbox hb
               have BK142 := aM (hbox); have GW142 := gE hg HB; have GE142 := gE hg HB; obtain ⟨NB101_142, NB142_101⟩ := nB hg BK101; obtain ⟨NB102_142, NB142_102⟩ := nB hg BK102; obtain ⟨NB103_142, NB142_103⟩ := nB hg BK103; obtain ⟨NB117_142, NB142_117⟩ := nB hg BK117; obtain ⟨NB120_142, NB142_120⟩ := nB hg BK120; obtain ⟨NB127_142, NB142_127⟩ := nB hg BK127; replace HO_118000 := rB HO_118000 hb; replace HO_128000 := rB HO_128000 hb; replace BK101 := bB BK101 hb; replace BK102 := bB BK102 hb; replace BK103 := bB BK103 hb; replace BK117 := bB BK117 hb; replace BK120 := bB BK120 hb; replace BK127 := bB BK127 hb; replace HB := sB HB hb; clear hb hbox hg
               refine hK.out _ _ ⟨cE BK117 0, cE BK117 1, cE BK117 2, cE BK117 3, cE BK127 0, cE BK127 1, cE BK127 2, cE BK127 3⟩ (fun hHeld => ?_)
               clear hK K
               refine nX (some 15) ?_
               exact nV (hJ2_5_7 (gb142) _ ⟨hHeld, rD HO_118000, rD HO_128000, bD BK101, bD BK102, bD BK103, bD BK117, bD BK120, bD BK127, bD BK142, GW142.out, GE142.out, NB101_142.out, NB142_101.out, NB102_142.out, NB142_102.out, NB103_142.out, NB142_103.out, NB117_142.out, NB142_117.out, NB120_142.out, NB142_120.out, NB127_142.out, NB142_127.out, sD HB⟩)
            ·rintro ⟨gb141, gb142⟩ w90 ⟨hS_, h0_, h1_, h2_, h3_, h4_, h5_, h6_, h7_, h8_, h9_, h10_, h11_, h12_, h13_, h14_, h15_, h16_, h17_, h18_, h19_, h20_, h21_, h22_, h23_, h24_, h25_, h26_, h27_, h28_, h29_, h30_, h31_, h32_, h33_, h34_, h35_, h36_, h37_, h38_, h39_, h40_⟩
             (try dsimp only at h0_ h1_ h2_ h3_ h4_ h5_ h6_ h7_ h8_ h9_ h10_ h11_ h12_ h13_ h14_ h15_ h16_ h17_ h18_ h19_ h20_ h21_ h22_ h23_ h24_ h25_ h26_ h27_ h28_ h29_ h30_ h31_ h32_ h33_ h34_ h35_ h36_ h37_ h38_ h39_ h40_)
             have BK141 := aM h8_; have BK142 := aM h9_; have GW141 := aM h10_; have GE141 := aM h11_; have NB101_141 := aM h12_; have NB141_101 := aM h13_; have NB102_141 := aM h14_; have NB141_102 := aM h15_; have NB103_141 := aM h16_; have NB141_103 := aM h17_; have NB117_141 := aM h18_; have NB141_117 := aM h19_; have NB120_141 := aM h20_; have NB141_120 := aM h21_; have NB127_141 := aM h22_; have NB141_127 := aM h23_; have NB142_141 := aM h24_; have NB141_142 := aM h25_; have GW142 := aM h26_; have GE142 := aM h27_; have NB101_142 := aM h28_
             have NB142_101 := aM h29_; have NB102_142 := aM h30_; have NB142_102 := aM h31_; have NB103_142 := aM h32_; have NB142_103 := aM h33_; have NB117_142 := aM h34_; have NB142_117 := aM h35_; have NB120_142 := aM h36_; have NB142_120 := aM h37_; have NB127_142 := aM h38_; have NB142_127 := aM h39_; replace HO_118000 := aM h0_; replace HO_128000 := aM h1_; replace BK101 := aM h2_; replace BK102 := aM h3_; replace BK103 := aM h4_; replace BK117 := aM h5_; replace BK120 := aM h6_; replace BK127 := aM h7_; replace HB := aM h40_
             clear h0_ h1_ h2_ h3_ h4_ h5_ h6_ h7_ h8_ h9_ h10_ h11_ h12_ h13_ h14_ h15_ h16_ h17_ h18_ h19_ h20_ h21_ h22_ h23_ h24_ h25_ h26_ h27_ h28_ h29_ h30_ h31_ h32_ h33_ h34_ h35_ h36_ h37_ h38_ h39_ h40_
             (try dsimp only at hS_); have hHeld := hS_; clear hS_
             refine nQ ?_
             refine oX (i := 5) (N := some 146) rfl rfl HT_ (fun K hK => ?_)
             refine gS Try.func40 #[.slice Ao55 t121.length co55] ?_
             with_reducible refine (parolelaw42_total.calls k1 _ _ t121 t138 t139 t140 _ ?side1 ?side2 A78.out).mono ?_
             (case side1 => exact rC HO_128000)
             (case side2 => exact rN HO_128000)
             rintro e w91 ⟨rfl, hb⟩
             refine ⟨_, rfl, ?_⟩
             replace HO_118000 := rB HO_118000 hb; replace HO_128000 := rB HO_128000 hb; replace BK101 := bB BK101 hb; replace BK102 := bB BK102 hb; replace BK103 := bB BK103 hb; replace BK117 := bB BK117 hb; replace BK120 := bB BK120 hb; replace BK127 := bB BK127 hb; replace BK141 := bB BK141 hb; replace BK142 := bB BK142 hb; replace HB := sB HB hb; (try clear hb); (try clear hb2); (try clear hk); (try clear hi)
             refine hK.out _ _ ⟨cE BK117 0, cE BK117 1, cE BK117 2, cE BK117 3, cE BK127 0, cE BK127 1, cE BK127 2, cE BK127 3⟩ (fun hHeld => ?_)
             clear hK K
             refine nX (some 146) ?_
             exact nV (hJ2_5_6_7 (gb141, gb142) _ ⟨hHeld, rD HO_118000, rD HO_128000, bD BK101, bD BK102, bD BK103, bD BK117, bD BK120, bD BK127, bD BK141, bD BK142, GW141.out, GE141.out, NB101_141.out, NB141_101.out, NB102_141.out, NB141_102.out, NB103_141.out, NB141_103.out, NB117_141.out, NB141_117.out, NB120_141.out, NB141_120.out, NB127_141.out, NB141_127.out, NB142_141.out, NB141_142.out, GW142.out, GE142.out, NB101_142.out, NB142_101.out, NB102_142.out, NB142_102.out, NB103_142.out, NB142_103.out, NB117_142.out, NB142_117.out, NB120_142.out, NB142_120.out, NB127_142.out, NB142_127.out, sD HB⟩)
           ·rintro gb142 w90 ⟨hS_, h0_, h1_, h2_, h3_, h4_, h5_, h6_, h7_, h8_, h9_, h10_, h11_, h12_, h13_, h14_, h15_, h16_, h17_, h18_, h19_, h20_, h21_, h22_, h23_⟩
            (try dsimp only at h0_ h1_ h2_ h3_ h4_ h5_ h6_ h7_ h8_ h9_ h10_ h11_ h12_ h13_ h14_ h15_ h16_ h17_ h18_ h19_ h20_ h21_ h22_ h23_)
            have BK142 := aM h8_; have GW142 := aM h9_; have GE142 := aM h10_; have NB101_142 := aM h11_; have NB142_101 := aM h12_; have NB102_142 := aM h13_; have NB142_102 := aM h14_; have NB103_142 := aM h15_; have NB142_103 := aM h16_; have NB117_142 := aM h17_; have NB142_117 := aM h18_; have NB120_142 := aM h19_; have NB142_120 := aM h20_; have NB127_142 := aM h21_; have NB142_127 := aM h22_; replace HO_118000 := aM h0_; replace HO_128000 := aM h1_; replace BK101 := aM h2_; replace BK102 := aM h3_; replace BK103 := aM h4_
            replace BK117 := aM h5_; replace BK120 := aM h6_; replace BK127 := aM h7_; replace HB := aM h23_; clear h0_ h1_ h2_ h3_ h4_ h5_ h6_ h7_ h8_ h9_ h10_ h11_ h12_ h13_ h14_ h15_ h16_ h17_ h18_ h19_ h20_ h21_ h22_ h23_
            (try dsimp only at hS_); have hHeld := hS_; clear hS_
            refine nQ ?_
            refine oX (i := 6) (N := some 14) rfl rfl HT_ (fun K hK => ?_)
            refine bS (N := 14) (cs := #[.int .i64 0, .int .i64 0, .int .i64 0]) (t := 38) ?_
            intro gb141 hg w91 hbox hb
            have BK141 := aM (hbox); have GW141 := gE hg HB; have GE141 := gE hg HB; obtain ⟨NB101_141, NB141_101⟩ := nB hg BK101; obtain ⟨NB102_141, NB141_102⟩ := nB hg BK102; obtain ⟨NB103_141, NB141_103⟩ := nB hg BK103; obtain ⟨NB117_141, NB141_117⟩ := nB hg BK117; obtain ⟨NB120_141, NB141_120⟩ := nB hg BK120; obtain ⟨NB127_141, NB141_127⟩ := nB hg BK127; obtain ⟨NB142_141, NB141_142⟩ := nB hg BK142; replace HO_118000 := rB HO_118000 hb; replace HO_128000 := rB HO_128000 hb; replace BK101 := bB BK101 hb; replace BK102 := bB BK102 hb; replace BK103 := bB BK103 hb; replace BK117 := bB BK117 hb; replace BK120 := bB BK120 hb; replace BK127 := bB BK127 hb; replace BK142 := bB BK142 hb
            replace HB := sB HB hb; clear hb hbox hg
            refine hK.out _ _ ⟨cE BK117 0, cE BK117 1, cE BK117 2, cE BK117 3, cE BK127 0, cE BK127 1, cE BK127 2, cE BK127 3⟩ (fun hHeld => ?_)
            clear hK K
            refine nX (some 14) ?_
            exact nV (hJ2_5_6_7 (gb141, gb142) _ ⟨hHeld, rD HO_118000, rD HO_128000, bD BK101, bD BK102, bD BK103, bD BK117, bD BK120, bD BK127, bD BK141, bD BK142, GW141.out, GE141.out, NB101_141.out, NB141_101.out, NB102_141.out, NB141_102.out, NB103_141.out, NB141_103.out, NB117_141.out, NB141_117.out, NB120_141.out, NB141_120.out, NB127_141.out, NB141_127.out, NB142_141.out, NB141_142.out, GW142.out, GE142.out, NB101_142.out, NB142_101.out, NB102_142.out, NB142_102.out, NB103_142.out, NB142_103.out, NB117_142.out, NB142_117.out, NB120_142.out, NB142_120.out, NB127_142.out, NB142_127.out, sD HB⟩)
          ·rintro gb141 w90 ⟨hS_, h0_, h1_, h2_, h3_, h4_, h5_, h6_, h7_, h8_, h9_, h10_, h11_, h12_, h13_, h14_, h15_, h16_, h17_, h18_, h19_, h20_, h21_, h22_, h23_⟩
           (try dsimp only at h0_ h1_ h2_ h3_ h4_ h5_ h6_ h7_ h8_ h9_ h10_ h11_ h12_ h13_ h14_ h15_ h16_ h17_ h18_ h19_ h20_ h21_ h22_ h23_)
           have BK141 := aM h8_; have GW141 := aM h9_; have GE141 := aM h10_; have NB101_141 := aM h11_; have NB141_101 := aM h12_; have NB102_141 := aM h13_; have NB141_102 := aM h14_; have NB103_141 := aM h15_; have NB141_103 := aM h16_; have NB117_141 := aM h17_; have NB141_117 := aM h18_; have NB120_141 := aM h19_; have NB141_120 := aM h20_; have NB127_141 := aM h21_; have NB141_127 := aM h22_; replace HO_118000 := aM h0_; replace HO_128000 := aM h1_; replace BK101 := aM h2_; replace BK102 := aM h3_; replace BK103 := aM h4_
           replace BK117 := aM h5_; replace BK120 := aM h6_; replace BK127 := aM h7_; replace HB := aM h23_; clear h0_ h1_ h2_ h3_ h4_ h5_ h6_ h7_ h8_ h9_ h10_ h11_ h12_ h13_ h14_ h15_ h16_ h17_ h18_ h19_ h20_ h21_ h22_ h23_
           (try dsimp only at hS_); have hHeld := hS_; clear hS_
           refine nQ ?_
           refine oX (i := 7) (N := some 15) rfl rfl HT_ (fun K hK => ?_)
           refine bS (N := 15) (cs := #[.int .i64 0, .int .i64 0, .int .i64 0]) (t := 38) ?_
           intro gb142 hg w91 hbox hb
           have BK142 := aM (hbox); have GW142 := gE hg HB; have GE142 := gE hg HB; obtain ⟨NB101_142, NB142_101⟩ := nB hg BK101; obtain ⟨NB102_142, NB142_102⟩ := nB hg BK102; obtain ⟨NB103_142, NB142_103⟩ := nB hg BK103; obtain ⟨NB117_142, NB142_117⟩ := nB hg BK117; obtain ⟨NB120_142, NB142_120⟩ := nB hg BK120; obtain ⟨NB127_142, NB142_127⟩ := nB hg BK127; obtain ⟨NB141_142, NB142_141⟩ := nB hg BK141; replace HO_118000 := rB HO_118000 hb; replace HO_128000 := rB HO_128000 hb; replace BK101 := bB BK101 hb; replace BK102 := bB BK102 hb; replace BK103 := bB BK103 hb; replace BK117 := bB BK117 hb; replace BK120 := bB BK120 hb; replace BK127 := bB BK127 hb; replace BK141 := bB BK141 hb
           replace HB := sB HB hb; clear hb hbox hg
           refine hK.out _ _ ⟨cE BK117 0, cE BK117 1, cE BK117 2, cE BK117 3, cE BK127 0, cE BK127 1, cE BK127 2, cE BK127 3⟩ (fun hHeld => ?_)
           clear hK K
           refine nX (some 15) ?_
           exact nV (hJ2_5_6_7 (gb141, gb142) _ ⟨hHeld, rD HO_118000, rD HO_128000, bD BK101, bD BK102, bD BK103, bD BK117, bD BK120, bD BK127, bD BK141, bD BK142, GW141.out, GE141.out, NB101_141.out, NB141_101.out, NB102_141.out, NB141_102.out, NB103_141.out, NB141_103.out, NB117_141.out, NB141_117.out, NB120_141.out, NB141_120.out, NB127_141.out, NB141_127.out, NB142_141.out, NB141_142.out, GW142.out, GE142.out, NB101_142.out, NB142_101.out, NB102_142.out, NB142_102.out, NB103_142.out, NB142_103.out, NB117_142.out, NB142_117.out, NB120_142.out, NB142_120.out, NB127_142.out, NB142_127.out, sD HB⟩)
         rintro ⟨gb141, gb142⟩ w91 ⟨hS_, h0_, h1_, h2_, h3_, h4_, h5_, h6_, h7_, h8_, h9_, h10_, h11_, h12_, h13_, h14_, h15_, h16_, h17_, h18_, h19_, h20_, h21_, h22_, h23_, h24_, h25_, h26_, h27_, h28_, h29_, h30_, h31_, h32_, h33_, h34_, h35_, h36_, h37_, h38_, h39_, h40_⟩
         (try dsimp only at h0_ h1_ h2_ h3_ h4_ h5_ h6_ h7_ h8_ h9_ h10_ h11_ h12_ h13_ h14_ h15_ h16_ h17_ h18_ h19_ h20_ h21_ h22_ h23_ h24_ h25_ h26_ h27_ h28_ h29_ h30_ h31_ h32_ h33_ h34_ h35_ h36_ h37_ h38_ h39_ h40_)
         have BK141 := aM h8_; have BK142 := aM h9_; have GW141 := aM h10_; have GE141 := aM h11_; have NB101_141 := aM h12_; have NB141_101 := aM h13_; have NB102_141 := aM h14_; have NB141_102 := aM h15_; have NB103_141 := aM h16_; have NB141_103 := aM h17_; have NB117_141 := aM h18_; have NB141_117 := aM h19_; have NB120_141 := aM h20_; have NB141_120 := aM h21_; have NB127_141 := aM h22_; have NB141_127 := aM h23_; have NB142_141 := aM h24_; have NB141_142 := aM h25_; have GW142 := aM h26_; have GE142 := aM h27_; have NB101_142 := aM h28_
         have NB142_101 := aM h29_; have NB102_142 := aM h30_; have NB142_102 := aM h31_; have NB103_142 := aM h32_; have NB142_103 := aM h33_; have NB117_142 := aM h34_; have NB142_117 := aM h35_; have NB120_142 := aM h36_; have NB142_120 := aM h37_; have NB127_142 := aM h38_; have NB142_127 := aM h39_; replace HO_118000 := aM h0_; replace HO_128000 := aM h1_; replace BK101 := aM h2_; replace BK102 := aM h3_; replace BK103 := aM h4_; replace BK117 := aM h5_; replace BK120 := aM h6_; replace BK127 := aM h7_; replace HB := aM h40_
         clear h0_ h1_ h2_ h3_ h4_ h5_ h6_ h7_ h8_ h9_ h10_ h11_ h12_ h13_ h14_ h15_ h16_ h17_ h18_ h19_ h20_ h21_ h22_ h23_ h24_ h25_ h26_ h27_ h28_ h29_ h30_ h31_ h32_ h33_ h34_ h35_ h36_ h37_ h38_ h39_ h40_
         (try dsimp only at hS_); have hHeld := hS_; clear hS_
         refine nQ ?_
         refine oX (i := 8) (N := none) rfl rfl HT_ (fun K hK => ?_)
         have hs92 : w91.cell? ⟨gb141, 0, none⟩ = some (.int .i64 0) := (blk_cell BK141.out 0).trans rfl
         have hfs92 := blk_frozen BK141.out 0; have hns92_0 := NB101_141.out; have hns92_1 := NB102_141.out; have hns92_2 := NB103_141.out; have hns92_3 := NB117_141.out; have hns92_4 := NB120_141.out; have hns92_5 := NB127_141.out; have hns92_7 := NB142_141.out; have hms92_0 := NB141_101.out; have hms92_1 := NB141_102.out; have hms92_2 := NB141_103.out; have hms92_3 := NB141_117.out; have hms92_4 := NB141_120.out; have hms92_5 := NB141_127.out; have hms92_7 := NB141_142.out
         have hs93 : w91.cell? ⟨gb141, 1, none⟩ = some (.int .i64 0) := (blk_cell BK141.out 1).trans rfl
         have hfs93 := blk_frozen BK141.out 1; have hns93_0 := NB101_141.out; have hns93_1 := NB102_141.out; have hns93_2 := NB103_141.out; have hns93_3 := NB117_141.out; have hns93_4 := NB120_141.out; have hns93_5 := NB127_141.out; have hns93_7 := NB142_141.out; have hms93_0 := NB141_101.out; have hms93_1 := NB141_102.out; have hms93_2 := NB141_103.out; have hms93_3 := NB141_117.out; have hms93_4 := NB141_120.out; have hms93_5 := NB141_127.out; have hms93_7 := NB141_142.out
         have hs94 : w91.cell? ⟨gb141, 2, none⟩ = some (.int .i64 0) := (blk_cell BK141.out 2).trans rfl
         have hfs94 := blk_frozen BK141.out 2; have hns94_0 := NB101_141.out; have hns94_1 := NB102_141.out; have hns94_2 := NB103_141.out; have hns94_3 := NB117_141.out; have hns94_4 := NB120_141.out; have hns94_5 := NB127_141.out; have hns94_7 := NB142_141.out; have hms94_0 := NB141_101.out; have hms94_1 := NB141_102.out; have hms94_2 := NB141_103.out; have hms94_3 := NB141_117.out; have hms94_4 := NB141_120.out; have hms94_5 := NB141_127.out; have hms94_7 := NB141_142.out
         refine skip_ (w1 := ?_) (by rfl) rfl ?_ ?_
         rotate_left
         ·go_simp
          rfl
         refine hK.out _ _ ⟨((cell_far (p := ⟨gb141, _, none⟩) NB117_141.out _).trans (((cell_far (p := ⟨gb141, _, none⟩) NB117_141.out _).trans (((cell_far (p := ⟨gb141, _, none⟩) NB117_141.out _).trans (hHeld.1)))))), ((cell_far (p := ⟨gb141, _, none⟩) NB117_141.out _).trans (((cell_far (p := ⟨gb141, _, none⟩) NB117_141.out _).trans (((cell_far (p := ⟨gb141, _, none⟩) NB117_141.out _).trans (hHeld.2.1)))))), ((cell_far (p := ⟨gb141, _, none⟩) NB117_141.out _).trans (((cell_far (p := ⟨gb141, _, none⟩) NB117_141.out _).trans (((cell_far (p := ⟨gb141, _, none⟩) NB117_141.out _).trans (hHeld.2.2.1)))))), ((cell_far (p := ⟨gb141, _, none⟩) NB117_141.out _).trans (((cell_far (p := ⟨gb141, _, none⟩) NB117_141.out _).trans (((cell_far (p := ⟨gb141, _, none⟩) NB117_141.out _).trans (hHeld.2.2.2.1)))))), ((cell_far (p := ⟨gb141, _, none⟩) NB127_141.out _).trans (((cell_far (p := ⟨gb141, _, none⟩) NB127_141.out _).trans (((cell_far (p := ⟨gb141, _, none⟩) NB127_141.out _).trans (hHeld.2.2.2.2.1)))))), ((cell_far (p := ⟨gb141, _, none⟩) NB127_141.out _).trans (((cell_far (p := ⟨gb141, _, none⟩) NB127_141.out _).trans (((cell_far (p := ⟨gb141, _, none⟩) NB127_141.out _).trans (hHeld.2.2.2.2.2.1)))))), ((cell_far (p := ⟨gb141, _, none⟩) NB127_141.out _).trans (((cell_far (p := ⟨gb141, _, none⟩) NB127_141.out _).trans (((cell_far (p := ⟨gb141, _, none⟩) NB127_141.out _).trans (hHeld.2.2.2.2.2.2.1)))))), ((cell_far (p := ⟨gb141, _, none⟩) NB127_141.out _).trans (((cell_far (p := ⟨gb141, _, none⟩) NB127_141.out _).trans (((cell_far (p := ⟨gb141, _, none⟩) NB127_141.out _).trans (hHeld.2.2.2.2.2.2.2))))))⟩ (fun hHeld => ?_)
         clear hK K
         refine oX (i := 9) (N := none) rfl rfl HT_ (fun K hK => ?_)
         have hs95 : w91.cell? ⟨gb142, 0, none⟩ = some (.int .i64 0) := (blk_cell BK142.out 0).trans rfl
         have hfs95 := blk_frozen BK142.out 0; have hns95_0 := NB101_142.out; have hns95_1 := NB102_142.out; have hns95_2 := NB103_142.out; have hns95_3 := NB117_142.out; have hns95_4 := NB120_142.out; have hns95_5 := NB127_142.out; have hns95_6 := NB141_142.out; have hms95_0 := NB142_101.out; have hms95_1 := NB142_102.out; have hms95_2 := NB142_103.out; have hms95_3 := NB142_117.out; have hms95_4 := NB142_120.out; have hms95_5 := NB142_127.out; have hms95_6 := NB142_141.out
         have hs96 : w91.cell? ⟨gb142, 1, none⟩ = some (.int .i64 0) := (blk_cell BK142.out 1).trans rfl
         have hfs96 := blk_frozen BK142.out 1; have hns96_0 := NB101_142.out; have hns96_1 := NB102_142.out; have hns96_2 := NB103_142.out; have hns96_3 := NB117_142.out; have hns96_4 := NB120_142.out; have hns96_5 := NB127_142.out; have hns96_6 := NB141_142.out; have hms96_0 := NB142_101.out; have hms96_1 := NB142_102.out; have hms96_2 := NB142_103.out; have hms96_3 := NB142_117.out; have hms96_4 := NB142_120.out; have hms96_5 := NB142_127.out; have hms96_6 := NB142_141.out
         have hs97 : w91.cell? ⟨gb142, 2, none⟩ = some (.int .i64 0) := (blk_cell BK142.out 2).trans rfl
         have hfs97 := blk_frozen BK142.out 2; have hns97_0 := NB101_142.out; have hns97_1 := NB102_142.out; have hns97_2 := NB103_142.out; have hns97_3 := NB117_142.out; have hns97_4 := NB120_142.out; have hns97_5 := NB127_142.out; have hns97_6 := NB141_142.out; have hms97_0 := NB142_101.out; have hms97_1 := NB142_102.out; have hms97_2 := NB142_103.out; have hms97_3 := NB142_117.out; have hms97_4 := NB142_120.out; have hms97_5 := NB142_127.out; have hms97_6 := NB142_141.out
         refine skip_ (w1 := ?_) (by rfl) rfl ?_ ?_
         rotate_left
         ·go_simp
          rfl
         refine hK.out _ _ ⟨((cell_far (p := ⟨gb142, _, none⟩) NB117_142.out _).trans (((cell_far (p := ⟨gb142, _, none⟩) NB117_142.out _).trans (((cell_far (p := ⟨gb142, _, none⟩) NB117_142.out _).trans (hHeld.1)))))), ((cell_far (p := ⟨gb142, _, none⟩) NB117_142.out _).trans (((cell_far (p := ⟨gb142, _, none⟩) NB117_142.out _).trans (((cell_far (p := ⟨gb142, _, none⟩) NB117_142.out _).trans (hHeld.2.1)))))), ((cell_far (p := ⟨gb142, _, none⟩) NB117_142.out _).trans (((cell_far (p := ⟨gb142, _, none⟩) NB117_142.out _).trans (((cell_far (p := ⟨gb142, _, none⟩) NB117_142.out _).trans (hHeld.2.2.1)))))), ((cell_far (p := ⟨gb142, _, none⟩) NB117_142.out _).trans (((cell_far (p := ⟨gb142, _, none⟩) NB117_142.out _).trans (((cell_far (p := ⟨gb142, _, none⟩) NB117_142.out _).trans (hHeld.2.2.2.1)))))), ((cell_far (p := ⟨gb142, _, none⟩) NB127_142.out _).trans (((cell_far (p := ⟨gb142, _, none⟩) NB127_142.out _).trans (((cell_far (p := ⟨gb142, _, none⟩) NB127_142.out _).trans (hHeld.2.2.2.2.1)))))), ((cell_far (p := ⟨gb142, _, none⟩) NB127_142.out _).trans (((cell_far (p := ⟨gb142, _, none⟩) NB127_142.out _).trans (((cell_far (p := ⟨gb142, _, none⟩) NB127_142.out _).trans (hHeld.2.2.2.2.2.1)))))), ((cell_far (p := ⟨gb142, _, none⟩) NB127_142.out _).trans (((cell_far (p := ⟨gb142, _, none⟩) NB127_142.out _).trans (((cell_far (p := ⟨gb142, _, none⟩) NB127_142.out _).trans (hHeld.2.2.2.2.2.2.1)))))), ((cell_far (p := ⟨gb142, _, none⟩) NB127_142.out _).trans (((cell_far (p := ⟨gb142, _, none⟩) NB127_142.out _).trans (((cell_far (p := ⟨gb142, _, none⟩) NB127_142.out _).trans (hHeld.2.2.2.2.2.2.2))))))⟩ (fun hHeld => ?_)
         clear hK K
         refine done_ (done_of HT_.out (by kernel_rfl)) ?_
         have hnb98 := NB127_101.out; have hnc98 := NB101_127.out; have hnb99 := NB127_102.out; have hnc99 := NB102_127.out; have hnb100 := NB127_103.out; have hnc100 := NB103_127.out; have hnb101 := NB127_117.out; have hnc101 := NB117_127.out; have hnb102 := NB127_120.out; have hnc102 := NB120_127.out; have hnb103 := NB127_141.out; have hnc103 := NB141_127.out; have hnb104 := NB127_142.out; have hnc104 := NB142_127.out; obtain ⟨hcz105_0, hcz105_1, hcz105_2, hcz105_3, hfz105_0, hfz105_1, hfz105_2, hfz105_3⟩ := cZ4 BK127
         try go_wp2_with (first | ((with_reducible refine gate_callee (f := 45) rfl ?_); refine gL (some 154) Try.func45 #[.slice Ao55 t121.length co55, .agg #[.int .i64 0, .int .i64 (wrap64 (Int.tmod a1_1 4)), .int .i64 0, .int .i64 0], .int .i64 ji15, .agg #[.int .i64 t124, .int .i64 t125]] ?_ (hargs := by (try simp only [List.map_toArray, List.map_cons, List.map_nil]); first | done | (simp only [hji15]; rfl) | rfl); (with_reducible refine (parolelaw42_settle.calls k1 _ _ t121 0 (wrap64 (Int.tmod a1_1 4)) 0 0 ji15 t124 t125 t143 t146 t147 t148 _ ?side1 ?side2 A79.out).mono ?_); (case side1 => refine (Kd.R_reads' (e := 60) (base := w.heap.size) (ok := fun k_ => some k_ ≠ (.slice (some ad128) t111.length co32 : Value).ownBlock) (n := t121.length) (c := co55) ?_).2.2; exact (rD ⟨(Kd.R_mono (Kd.R_mono (Kd.R_far (p := ⟨gb142, 2, none⟩) (Kd.R_far (p := ⟨gb142, 1, none⟩) (Kd.R_far (p := ⟨gb142, 0, none⟩) (Kd.R_far (p := ⟨gb141, 2, none⟩) (Kd.R_far (p := ⟨gb141, 1, none⟩) (Kd.R_far (p := ⟨gb141, 0, none⟩) (Kd.R_types (Kd.R_types HO_128000.out BK141.out (by decide)) BK142.out (by decide)) (fun _ hk => hk.1.2) (.int .i64 t135)) (fun _ hk => hk.1.2) (.int .i64 t136)) (fun _ hk => hk.1.2) (.int .i64 t137)) (fun _ hk => hk.2) (.int .i64 t138)) (fun _ hk => hk.2) (.int .i64 t139)) (fun _ hk => hk.2) (.int .i64 t140)) (fun _ h_ => h_.1)) (fun _ h_ => h_.1))⟩)); (case side2 => exact rN HO_128000); rintro e w106 ⟨v144, rfl, ho0, hb⟩; refine ⟨_, rfl, ?_⟩; have HO145 := aM (Kd.R_lower (Kd.R_new' (Kd.R_new' ho0 (Kd.R_lt (rD ⟨(Kd.R_mono (Kd.R_mono (Kd.R_far (p := ⟨gb142, 2, none⟩) (Kd.R_far (p := ⟨gb142, 1, none⟩) (Kd.R_far (p := ⟨gb142, 0, none⟩) (Kd.R_far (p := ⟨gb141, 2, none⟩) (Kd.R_far (p := ⟨gb141, 1, none⟩) (Kd.R_far (p := ⟨gb141, 0, none⟩) (Kd.R_types (Kd.R_types HO_118000.out BK141.out (by decide)) BK142.out (by decide)) (fun _ hk => hk.1.2) (.int .i64 t135)) (fun _ hk => hk.1.2) (.int .i64 t136)) (fun _ hk => hk.1.2) (.int .i64 t137)) (fun _ hk => hk.2) (.int .i64 t138)) (fun _ hk => hk.2) (.int .i64 t139)) (fun _ hk => hk.2) (.int .i64 t140)) (fun _ h_ => h_.1)) (fun _ h_ => h_.1))⟩))) (Kd.R_lt (rD ⟨(Kd.R_mono (Kd.R_mono (Kd.R_far (p := ⟨gb142, 2, none⟩) (Kd.R_far (p := ⟨gb142, 1, none⟩) (Kd.R_far (p := ⟨gb142, 0, none⟩) (Kd.R_far (p := ⟨gb141, 2, none⟩) (Kd.R_far (p := ⟨gb141, 1, none⟩) (Kd.R_far (p := ⟨gb141, 0, none⟩) (Kd.R_types (Kd.R_types HO_128000.out BK141.out (by decide)) BK142.out (by decide)) (fun _ hk => hk.1.2) (.int .i64 t135)) (fun _ hk => hk.1.2) (.int .i64 t136)) (fun _ hk => hk.1.2) (.int .i64 t137)) (fun _ hk => hk.2) (.int .i64 t138)) (fun _ hk => hk.2) (.int .i64 t139)) (fun _ hk => hk.2) (.int .i64 t140)) (fun _ h_ => h_.1)) (fun _ h_ => h_.1))⟩))) (below_size (sD HB))); replace HO_118000 := aM (Kd.R_elder' (rD ⟨(Kd.R_mono (Kd.R_mono (Kd.R_far (p := ⟨gb142, 2, none⟩) (Kd.R_far (p := ⟨gb142, 1, none⟩) (Kd.R_far (p := ⟨gb142, 0, none⟩) (Kd.R_far (p := ⟨gb141, 2, none⟩) (Kd.R_far (p := ⟨gb141, 1, none⟩) (Kd.R_far (p := ⟨gb141, 0, none⟩) (Kd.R_types (Kd.R_types HO_118000.out BK141.out (by decide)) BK142.out (by decide)) (fun _ hk => hk.1.2) (.int .i64 t135)) (fun _ hk => hk.1.2) (.int .i64 t136)) (fun _ hk => hk.1.2) (.int .i64 t137)) (fun _ hk => hk.2) (.int .i64 t138)) (fun _ hk => hk.2) (.int .i64 t139)) (fun _ hk => hk.2) (.int .i64 t140)) (fun _ h_ => h_.1)) (fun _ h_ => h_.1))⟩) (Kd.R_base ho0) hb); replace HO_128000 := aM (Kd.R_elder' (rD ⟨(Kd.R_mono (Kd.R_mono (Kd.R_far (p := ⟨gb142, 2, none⟩) (Kd.R_far (p := ⟨gb142, 1, none⟩) (Kd.R_far (p := ⟨gb142, 0, none⟩) (Kd.R_far (p := ⟨gb141, 2, none⟩) (Kd.R_far (p := ⟨gb141, 1, none⟩) (Kd.R_far (p := ⟨gb141, 0, none⟩) (Kd.R_types (Kd.R_types HO_128000.out BK141.out (by decide)) BK142.out (by decide)) (fun _ hk => hk.1.2) (.int .i64 t135)) (fun _ hk => hk.1.2) (.int .i64 t136)) (fun _ hk => hk.1.2) (.int .i64 t137)) (fun _ hk => hk.2) (.int .i64 t138)) (fun _ hk => hk.2) (.int .i64 t139)) (fun _ hk => hk.2) (.int .i64 t140)) (fun _ h_ => h_.1)) (fun _ h_ => h_.1))⟩) (Kd.R_base ho0) hb); replace BK101 := aM (blk_below (g := gb101) (o := .cells #[.slice A0_0 l0_0.length c0_0, .slice A0_1 l0_1.length c0_1, .int .u16 a0_2] 45 (0, 0)) (bF BK101) hb); replace BK102 := aM (blk_below (g := gb102) (o := .cells #[.int .u8 a1_0, .int .u8 a1_1] 80 (0, 0)) (bF BK102) hb); replace BK103 := aM (blk_below (g := gb103) (o := .cells #[.int .u8 a2_0, .int .u8 a2_1] 80 (0, 0)) (bF BK103) hb); replace BK117 := aM (blk_below (g := gb117) (o := .cells #[.slice (some ad128) t111.length co32, .int .i64 t114, .int .i64 t115, .int .i64 t116] 56 (0, 0)) (bF BK117) hb); replace BK120 := aM (blk_below (g := gb120) (o := .cells #[.int .i64 t118, .int .i64 t119] 35 (0, 0)) (bF BK120) hb); replace BK127 := aM (blk_below (g := gb127) (o := .cells #[.slice Ao55 t121.length co55, .int .i64 t124, .int .i64 t125, .int .i64 t126] 56 (0, 0)) (bF BK127) hb); replace HB := sB HB hb; replace BK141 := aM (blk_below (g := gb141) (o := .cells #[.int .i64 t135, .int .i64 t136, .int .i64 t137] 38 (0, 0)) (by refine bM ?_; refine blk_far ?_ NB141_142.out _; refine bM ?_; refine blk_far ?_ NB141_142.out _; refine bM ?_; refine blk_far ?_ NB141_142.out _; refine bM ?_; refine blk_put (cs := #[.int .i64 t135, .int .i64 t136, .int .i64 0]) ?_ 2 _ rfl; refine bM ?_; refine blk_put (cs := #[.int .i64 t135, .int .i64 0, .int .i64 0]) ?_ 1 _ rfl; refine bM ?_; refine blk_put (cs := #[.int .i64 0, .int .i64 0, .int .i64 0]) ?_ 0 _ rfl; exact bD BK141) hb); replace BK142 := aM (blk_below (g := gb142) (o := .cells #[.int .i64 t138, .int .i64 t139, .int .i64 t140] 38 (0, 0)) (by refine bM ?_; refine blk_put (cs := #[.int .i64 t138, .int .i64 t139, .int .i64 0]) ?_ 2 _ rfl; refine bM ?_; refine blk_put (cs := #[.int .i64 t138, .int .i64 0, .int .i64 0]) ?_ 1 _ rfl; refine bM ?_; refine blk_put (cs := #[.int .i64 0, .int .i64 0, .int .i64 0]) ?_ 0 _ rfl; refine bM ?_; refine blk_far ?_ NB142_141.out _; refine bM ?_; refine blk_far ?_ NB142_141.out _; refine bM ?_; refine blk_far ?_ NB142_141.out _; exact bD BK142) hb); (try clear hb); (try clear ho0)) | ((with_reducible refine gate_dst (N := 16) rfl ?_); (try (refine gate_guard (by rfl) ?_; dsimp only)); refine bE (N := 16) (cs := #[.slice none 0 0, .int .i64 0, .int .i64 0, .int .i64 0]) (t := 56) ?_; intro gb149 hg w107 hbox hb; have BK149 := aM (hbox); have GW149 := gE hg HB; have GE149 := gE hg HB; obtain ⟨NB101_149, NB149_101⟩ := nB hg BK101; obtain ⟨NB102_149, NB149_102⟩ := nB hg BK102; obtain ⟨NB103_149, NB149_103⟩ := nB hg BK103; obtain ⟨NB117_149, NB149_117⟩ := nB hg BK117; obtain ⟨NB120_149, NB149_120⟩ := nB hg BK120; obtain ⟨NB127_149, NB149_127⟩ := nB hg BK127; obtain ⟨NB141_149, NB149_141⟩ := nB hg BK141; obtain ⟨NB142_149, NB149_142⟩ := nB hg BK142; replace HO_118000 := rB HO_118000 hb; replace HO_128000 := rB HO_128000 hb; replace HO145 := rB HO145 hb; replace BK101 := bB BK101 hb; replace BK102 := bB BK102 hb; replace BK103 := bB BK103 hb; replace BK117 := bB BK117 hb; replace BK120 := bB BK120 hb; replace BK127 := bB BK127 hb; replace BK141 := bB BK141 hb; replace BK142 := bB BK142 hb; replace HB := sB HB hb; clear hb hbox hg; obtain ⟨Ao108, co108, eo108⟩ := Kd.R_slice HO145.out; subst eo108; have hnb109 := NB149_101.out; have hnc109 := NB101_149.out; have hnb110 := NB149_102.out; have hnc110 := NB102_149.out; have hnb111 := NB149_103.out; have hnc111 := NB103_149.out; have hnb112 := NB149_117.out; have hnc112 := NB117_149.out; have hnb113 := NB149_120.out; have hnc113 := NB120_149.out; have hnb114 := NB149_127.out; have hnc114 := NB127_149.out; have hnb115 := NB149_141.out; have hnc115 := NB141_149.out; have hnb116 := NB149_142.out; have hnc116 := NB142_149.out; obtain ⟨hcz117_0, hcz117_1, hcz117_2, hcz117_3, hfz117_0, hfz117_1, hfz117_2, hfz117_3⟩ := cZ4 BK149; have hnb118 := NB141_101.out; have hnc118 := NB101_141.out; have hnb119 := NB141_102.out; have hnc119 := NB102_141.out; have hnb120 := NB141_103.out; have hnc120 := NB103_141.out; have hnb121 := NB141_117.out; have hnc121 := NB117_141.out; have hnb122 := NB141_120.out; have hnc122 := NB120_141.out; have hnb123 := NB141_142.out; have hnc123 := NB142_141.out; obtain ⟨hcz124_0, hcz124_1, hcz124_2, hfz124_0, hfz124_1, hfz124_2⟩ := cZ3 BK141; have hnb125 := NB142_101.out; have hnc125 := NB101_142.out; have hnb126 := NB142_102.out; have hnc126 := NB102_142.out; have hnb127 := NB142_103.out; have hnc127 := NB103_142.out; have hnb128 := NB142_117.out; have hnc128 := NB117_142.out; have hnb129 := NB142_120.out; have hnc129 := NB120_142.out; obtain ⟨hcz130_0, hcz130_1, hcz130_2, hfz130_0, hfz130_1, hfz130_2⟩ := cZ3 BK142; have hnb131 := NB117_101.out; have hnc131 := NB101_117.out; have hnb132 := NB117_102.out; have hnc132 := NB102_117.out; have hnb133 := NB117_103.out; have hnc133 := NB103_117.out; have hnb134 := NB117_120.out; have hnc134 := NB120_117.out; obtain ⟨hcz135_0, hcz135_1, hcz135_2, hcz135_3, hfz135_0, hfz135_1, hfz135_2, hfz135_3⟩ := cZ4 BK117) | (go_at_call 37; (with_reducible refine (paroleref42_Same.calls k1 _ _ t143 0 0 0 _ _ t111 0 0 0 true _ ?side1 ?side2 ?side3 ?side4 A84.out).mono ?_); (case side1 => refine (Kd.R_reads' (e := 60) (base := w.heap.size) (ok := fun k_ => ((True ∧ some k_ ≠ (.slice (some ad128) t111.length co32 : Value).ownBlock) ∧ some k_ ≠ (.slice Ao55 t121.length co55 : Value).ownBlock)) (n := t143.length) (c := co108) ?_).2.2; exact (rD ⟨(Kd.R_mono (Kd.R_far (p := ⟨gb149, 3, none⟩) (Kd.R_far (p := ⟨gb149, 2, none⟩) (Kd.R_far (p := ⟨gb149, 1, none⟩) (Kd.R_far (p := ⟨gb149, 0, none⟩) (Kd.R_types HO145.out BK149.out (by decide)) (fun _ hk => hk.2) (.slice Ao108 t143.length co108)) (fun _ hk => hk.2) (.int .i64 t146)) (fun _ hk => hk.2) (.int .i64 t147)) (fun _ hk => hk.2) (.int .i64 t148)) (fun _ h_ => h_.1))⟩)); (case side2 => exact rN HO145); (case side3 => refine (Kd.R_reads' (e := 60) (base := w.heap.size) (ok := fun k_ => (some k_ ≠ (.slice Ao55 t121.length co55 : Value).ownBlock ∧ some k_ ≠ (.slice Ao108 t143.length co108 : Value).ownBlock)) (n := t111.length) (c := co32) ?_).2.2; exact (rD ⟨(Kd.R_mono (Kd.R_far (p := ⟨gb149, 3, none⟩) (Kd.R_far (p := ⟨gb149, 2, none⟩) (Kd.R_far (p := ⟨gb149, 1, none⟩) (Kd.R_far (p := ⟨gb149, 0, none⟩) (Kd.R_types HO_118000.out BK149.out (by decide)) (fun _ hk => hk.2) (.slice Ao108 t143.length co108)) (fun _ hk => hk.2) (.int .i64 t146)) (fun _ hk => hk.2) (.int .i64 t147)) (fun _ hk => hk.2) (.int .i64 t148)) (fun _ h_ => h_.1))⟩)); (case side4 => exact rN HO_118000); rintro e w136 ⟨rfl, hb⟩; replace HO_118000 := aM (Kd.R_below (rD ⟨(Kd.R_mono (Kd.R_far (p := ⟨gb149, 3, none⟩) (Kd.R_far (p := ⟨gb149, 2, none⟩) (Kd.R_far (p := ⟨gb149, 1, none⟩) (Kd.R_far (p := ⟨gb149, 0, none⟩) (Kd.R_types HO_118000.out BK149.out (by decide)) (fun _ hk => hk.2) (.slice Ao108 t143.length co108)) (fun _ hk => hk.2) (.int .i64 t146)) (fun _ hk => hk.2) (.int .i64 t147)) (fun _ hk => hk.2) (.int .i64 t148)) (fun _ h_ => h_.1))⟩) hb); replace HO_128000 := aM (Kd.R_below (rD ⟨(Kd.R_mono (Kd.R_far (p := ⟨gb149, 3, none⟩) (Kd.R_far (p := ⟨gb149, 2, none⟩) (Kd.R_far (p := ⟨gb149, 1, none⟩) (Kd.R_far (p := ⟨gb149, 0, none⟩) (Kd.R_types HO_128000.out BK149.out (by decide)) (fun _ hk => hk.2) (.slice Ao108 t143.length co108)) (fun _ hk => hk.2) (.int .i64 t146)) (fun _ hk => hk.2) (.int .i64 t147)) (fun _ hk => hk.2) (.int .i64 t148)) (fun _ h_ => h_.1))⟩) hb); replace HO145 := aM (Kd.R_below (rD ⟨(Kd.R_mono (Kd.R_far (p := ⟨gb149, 3, none⟩) (Kd.R_far (p := ⟨gb149, 2, none⟩) (Kd.R_far (p := ⟨gb149, 1, none⟩) (Kd.R_far (p := ⟨gb149, 0, none⟩) (Kd.R_types HO145.out BK149.out (by decide)) (fun _ hk => hk.2) (.slice Ao108 t143.length co108)) (fun _ hk => hk.2) (.int .i64 t146)) (fun _ hk => hk.2) (.int .i64 t147)) (fun _ hk => hk.2) (.int .i64 t148)) (fun _ h_ => h_.1))⟩) hb); replace BK101 := aM (blk_below (g := gb101) (o := .cells #[.slice A0_0 l0_0.length c0_0, .slice A0_1 l0_1.length c0_1, .int .u16 a0_2] 45 (0, 0)) (bF BK101) hb); replace BK102 := aM (blk_below (g := gb102) (o := .cells #[.int .u8 a1_0, .int .u8 a1_1] 80 (0, 0)) (bF BK102) hb); replace BK103 := aM (blk_below (g := gb103) (o := .cells #[.int .u8 a2_0, .int .u8 a2_1] 80 (0, 0)) (bF BK103) hb); replace BK117 := aM (blk_below (g := gb117) (o := .cells #[.slice (some ad128) t111.length co32, .int .i64 t114, .int .i64 t115, .int .i64 t116] 56 (0, 0)) (bF BK117) hb); replace BK120 := aM (blk_below (g := gb120) (o := .cells #[.int .i64 t118, .int .i64 t119] 35 (0, 0)) (bF BK120) hb); replace BK127 := aM (blk_below (g := gb127) (o := .cells #[.slice Ao55 t121.length co55, .int .i64 t124, .int .i64 t125, .int .i64 t126] 56 (0, 0)) (bF BK127) hb); replace BK141 := aM (blk_below (g := gb141) (o := .cells #[.int .i64 t135, .int .i64 t136, .int .i64 t137] 38 (0, 0)) (bF BK141) hb); replace BK142 := aM (blk_below (g := gb142) (o := .cells #[.int .i64 t138, .int .i64 t139, .int .i64 t140] 38 (0, 0)) (bF BK142) hb); replace HB := sB HB hb; replace BK149 := aM (blk_below (g := gb149) (o := .cells #[.slice Ao108 t143.length co108, .int .i64 t146, .int .i64 t147, .int .i64 t148] 56 (0, 0)) (by refine bM ?_; refine blk_put (cs := #[.slice Ao108 t143.length co108, .int .i64 t146, .int .i64 t147, .int .i64 0]) ?_ 3 _ rfl; refine bM ?_; refine blk_put (cs := #[.slice Ao108 t143.length co108, .int .i64 t146, .int .i64 0, .int .i64 0]) ?_ 2 _ rfl; refine bM ?_; refine blk_put (cs := #[.slice Ao108 t143.length co108, .int .i64 0, .int .i64 0, .int .i64 0]) ?_ 1 _ rfl; refine bM ?_; refine blk_put (cs := #[.slice none 0 0, .int .i64 0, .int .i64 0, .int .i64 0]) ?_ 0 _ rfl; exact bD BK149) hb); (try clear hb)))
         go_ret
         exact ⟨by first | rfl | (simp [errW_none, errW_some] <;> rfl) | (simp only [← hji15]; first | rfl | (simp [errW_none, errW_some] <;> rfl)) | (simp [*, errW_none, errW_some] <;> rfl), sD HB⟩
        ·replace c85 := Bool.eq_false_iff.mpr c85
         subst c85
         have H1 : (some false) = some r := by rw [if_neg (show ¬ (false = true) by decide)] at H; exact H
         clear H; have H := H1; clear H1
         exact absurd ((Option.some.inj H).trans HT.out) (by decide)
       ·rw [if_neg c83] at H
        exact absurd H (by simp)
      ·rw [if_neg c82] at H
       have c82b0 : (t135 == t138 && (t136 == t139)) = false := by simpa using c82
       (try (have c82b1 : decide (t135 = t138 && (t136 == t139)) = false := by simpa using c82))
       (try (have c82b2 : (t135 == t138 && (t136 == t139)) = false := by simpa using c82))
       (try (have c82b3 : ¬ (t135 = t138 && (t136 == t139)) := by simpa using c82))
       clear c82
       exact absurd ((Option.some.inj H).trans HT.out) (by decide)
     ·rw [if_neg c81] at H
      exact absurd H (by simp)
    ·rw [if_neg c80] at H
     exact absurd H (by simp)
/-- THE ONE PURE STATEMENT of parolelaw42_PriceSettles. -/
def parolelaw42_PriceSettles.Pure : Prop := ∀ (l0_0 : List Int) (l0_1 : List Int) (a0_2 : Int) (a1_0 : Int) (a1_1 : Int) (a2_0 : Int) (a2_1 : Int), ((l0_0.length ≤ maxLen ∧ ∀ x151 ∈ l0_0, (Lit.int .u8 x151).wf = true) ∧ (l0_1.length ≤ maxLen ∧ ∀ x152 ∈ l0_1, (Lit.int .u8 x152).wf = true) ∧ (Lit.int .u16 a0_2).wf = true) → ((Lit.int .u8 a1_0).wf = true ∧ (Lit.int .u8 a1_1).wf = true) → ((Lit.int .u8 a2_0).wf = true ∧ (Lit.int .u8 a2_1).wf = true) → ∃ k, parolelaw42_PriceSettles.f k l0_0 l0_1 a0_2 a1_0 a1_1 a2_0 a2_1 = some true
end Go.Proofs.Ytohnkcmbogcfhaa.P

/- A part of the claim PriceBonds: lemmas, printed functions with their contracts, plain laws. -/
import Derived.Test.YtohnkcmbogcfhaacPriceBonds6
set_option linter.unusedVariables false
set_option linter.unusedSimpArgs false
namespace Go.Proofs.Ytohnkcmbogcfhaa.P
open Go.Proofs.YtohnkcmbogcfhaaH Go.RowKit Go.Proofs.YtohnkcmbogcfhaaW.PrintWords Go.Proofs.YtohnkcmbogcfhaaW.PrintLast Go.Proofs.YtohnkcmbogcfhaaW.PrintMore
attribute [local go_sem] max2_int min2_int max_two min_two max_three min_three max_four min_four   -- for this text's walks alone
attribute [local go_sem] Go.Proofs.YtohnkcmbogcfhaaH.cell_set_map
attribute [local go_sem high] eqA38
def parolelaw42_PriceBondsA.f (k : Nat) (l0_0 : List Int) (l0_1 : List Int) (a0_2 : Int) (a1_0 : Int) (a1_1 : Int) (a2 : Int) : Option (Bool) := (parolelaw42_examples.f).bind fun t103 => (if t103 = true then ((paroleref42_Book.f k l0_0).bind fun t104 => ((paroleref42_Risks.f k l0_1).bind fun t107 => ((some (([] : List (S47)) : List (S47))).bind fun y111 => (if y111.length + t107.length < 5864062014805 then ((some (y111 ++ t107 : List (S47))).bind fun y114 => ((some (([(⟨wrap64 (Int.tmod a1_0 4), 1 + (((Int.tdiv a1_0 4) % 256) % 14), wrap64 (a1_1)⟩ : S47)] : List (S47)) : List (S47))).bind fun y117 => (if y114.length + y117.length < 5864062014805 then ((parolelaw42_bond.f k t104 t107 (wrap64 (Int.tmod a2 8)) (wrap64 (a0_2))).bind fun bt123 => ((parolelaw42_bond.f k t104 (y114 ++ y117) (wrap64 (Int.tmod a2 8)) (wrap64 (a0_2))).bind fun bt126 => ((parolelaw42_premium.f k t104 (wrap64 (Int.tmod a1_0 4)) (1 + (((Int.tdiv a1_0 4) % 256) % 14)) (wrap64 (a1_1))).bind fun bt129 => (if (wrap64 (Int.tmod a2 8)) = (wrap64 (Int.tmod a1_0 4)) then (if bt123.2.2 = 0 then ((rat_Add.f k bt123.1 bt123.2.1 bt129.1 bt129.2.1).bind fun bt135 => (if bt129.2.2 = 0 then (if ((bt126.1 == bt135.1 && (bt126.2.1 == bt135.2.1)) && (bt126.2.2 == bt135.2.2)) = true then ((paroleref42_Whole.f (wrap64 (a0_2))).bind fun bt139 => ((rat_Cmp.f bt139.1 bt139.2 bt123.1 bt123.2.1).bind fun t141 => (if t141 ≤ 0 then (some t103) else (some false)))) else (some false)) else (none))) else (none)) else (none))))) else (none)))) else (none))))) else (some false))
def parolelaw42_PriceBondsA.T4 : Bool × List (List Nat × List Nat) := (true, [([], []), ([0], [0]), ([1], [1]), ([], []), ([3], [3]), ([4, 2], [4]), ([], []), ([6], [6]), ([7], [7]), ([2, 5, 0, 1, 2], [2]), ([5, 9, 0, 1, 2, 3, 4, 5, 9], [5]), ([8, 10, 0, 1, 2, 3, 4, 5, 6, 7, 8, 9, 10], [8])])
def parolelaw42_PriceBondsA.B4 : List Nat := [0, 1, 3, 0, 8, 31, 0, 64, 192, 63, 575, 2047]
theorem parolelaw42_PriceBondsA.tab4 : rtab .any (opsOf Try.f12 4) = parolelaw42_PriceBondsA.T4 := by kernel_rfl
theorem parolelaw42_PriceBondsA.bits4 : waitsOk parolelaw42_PriceBondsA.T4.2 parolelaw42_PriceBondsA.B4 = true := by kernel_rfl
def parolelaw42_PriceBondsA.T8 : Bool × List (List Nat × List Nat) := (true, [([], []), ([], []), ([], []), ([], []), ([0, 1, 2, 3], [0, 1, 2, 3]), ([], []), ([], []), ([], []), ([], []), ([5, 6, 7, 8, 4], [5, 6, 7, 8]), ([], []), ([], []), ([10, 11, 9], [10, 11]), ([], []), ([], []), ([], []), ([13, 4, 12, 0, 1, 2, 3, 4, 13, 14, 15], [4, 13]), ([14, 9, 16, 0, 1, 2, 3, 4, 5, 6, 7, 8, 9, 13, 14, 15, 16], [9, 14]), ([15, 12, 17, 0, 1, 2, 3, 4, 5, 6, 7, 8, 9, 10, 11, 12, 13, 14, 15, 16, 17], [12, 15])])
def parolelaw42_PriceBondsA.B8 : List Nat := [0, 0, 0, 0, 15, 0, 0, 0, 0, 511, 0, 0, 4095, 0, 0, 0, 65535, 131071, 262143]
theorem parolelaw42_PriceBondsA.tab8 : rtab .any (opsOf Try.f12 8) = parolelaw42_PriceBondsA.T8 := by kernel_rfl
theorem parolelaw42_PriceBondsA.bits8 : waitsOk parolelaw42_PriceBondsA.T8.2 parolelaw42_PriceBondsA.B8 = true := by kernel_rfl
def parolelaw42_PriceBondsA.T14 : Bool × List (List Nat × List Nat) := (true, [([], []), ([0], [0]), ([1], [1]), ([2], [2]), ([3], [3]), ([3], [3]), ([3], [3]), ([5, 6, 3], [3, 5, 6]), ([4, 7, 3], [3, 4, 7]), ([3, 8], [3, 8]), ([9, 3], [9]), ([10], [10]), ([11, 10, 10], [10, 11]), ([10], [10]), ([13, 10], [10, 13]), ([12, 14, 12, 10], [10, 12, 14]), ([15, 10], [10, 15]), ([10, 16], [10, 16]), ([17, 15], [17]), ([18], [18]), ([18, 19], [18, 19]), ([20, 18, 0, 1, 2, 3, 4, 5, 6, 7, 8, 9, 10, 11, 12, 13, 14, 15, 16, 17, 18, 19, 20], [20])])
def parolelaw42_PriceBondsA.B14 : List Nat := [0, 1, 3, 7, 15, 15, 15, 111, 255, 511, 1023, 2047, 4095, 2047, 10239, 32767, 65535, 131071, 262143, 524287, 1048575, 2097151]
theorem parolelaw42_PriceBondsA.tab14 : rtab .any (opsOf Try.f12 14) = parolelaw42_PriceBondsA.T14 := by kernel_rfl
theorem parolelaw42_PriceBondsA.bits14 : waitsOk parolelaw42_PriceBondsA.T14.2 parolelaw42_PriceBondsA.B14 = true := by kernel_rfl
set_option maxHeartbeats 40000000 in
set_option maxRecDepth 100000 in
theorem parolelaw42_PriceBondsA.calls (k : Nat) (A0_0 : Option Addr) (c0_0 : Nat) (l0_0 : List Int) (A0_1 : Option Addr) (c0_1 : Nat) (l0_1 : List Int) (a0_2 : Int) (a1_0 : Int) (a1_1 : Int) (a2 : Int) (r : Bool) (w : World) (hr0_0 : Kd.C (Kd.int .u8) w A0_0 l0_0.length l0_0) (hc0_0 : l0_0.length ≤ c0_0) (hr0_1 : Kd.C (Kd.int .u8) w A0_1 l0_1.length l0_1) (hc0_1 : l0_1.length ≤ c0_1) (hT : r = true) (h : parolelaw42_PriceBondsA.f k l0_0 l0_1 a0_2 a1_0 a1_1 a2 = some r) :
  Calls Try.prog 12 #[.agg #[.slice A0_0 l0_0.length c0_0, .slice A0_1 l0_1.length c0_1, .int .u16 a0_2], .agg #[.int .u8 a1_0, .int .u8 a1_1], .int .u8 a2] w fun e w' => e = .returned (.bool r) ∧ Below w.heap.size w w' := by
 have hu45 := Try.underlying45; have hu80 := Try.underlying80; have hu47 := Try.underlying47; have hu38 := Try.underlying38; have hu35 := Try.underlying35; have HR0_0 := aM hr0_0; have HC0_0 := aM hc0_0; clear hr0_0 hc0_0; have HR0_1 := aM hr0_1; have HC0_1 := aM hc0_1; clear hr0_1 hc0_1; have HB := aM (Below.refl w.heap.size w); have HT := aM hT; clear hT
 have H : ((parolelaw42_examples.f).bind fun t103 => (if t103 = true then ((paroleref42_Book.f k l0_0).bind fun t104 => ((paroleref42_Risks.f k l0_1).bind fun t107 => ((some (([] : List (S47)) : List (S47))).bind fun y111 => (if y111.length + t107.length < 5864062014805 then ((some (y111 ++ t107 : List (S47))).bind fun y114 => ((some (([(⟨wrap64 (Int.tmod a1_0 4), 1 + (((Int.tdiv a1_0 4) % 256) % 14), wrap64 (a1_1)⟩ : S47)] : List (S47)) : List (S47))).bind fun y117 => (if y114.length + y117.length < 5864062014805 then ((parolelaw42_bond.f k t104 t107 (wrap64 (Int.tmod a2 8)) (wrap64 (a0_2))).bind fun bt123 => ((parolelaw42_bond.f k t104 (y114 ++ y117) (wrap64 (Int.tmod a2 8)) (wrap64 (a0_2))).bind fun bt126 => ((parolelaw42_premium.f k t104 (wrap64 (Int.tmod a1_0 4)) (1 + (((Int.tdiv a1_0 4) % 256) % 14)) (wrap64 (a1_1))).bind fun bt129 => (if (wrap64 (Int.tmod a2 8)) = (wrap64 (Int.tmod a1_0 4)) then (if bt123.2.2 = 0 then ((rat_Add.f k bt123.1 bt123.2.1 bt129.1 bt129.2.1).bind fun bt135 => (if bt129.2.2 = 0 then (if ((bt126.1 == bt135.1 && (bt126.2.1 == bt135.2.1)) && (bt126.2.2 == bt135.2.2)) = true then ((paroleref42_Whole.f (wrap64 (a0_2))).bind fun bt139 => ((rat_Cmp.f bt139.1 bt139.2 bt123.1 bt123.2.1).bind fun t141 => (if t141 ≤ 0 then (some t103) else (some false)))) else (some false)) else (none))) else (none)) else (none))))) else (none)))) else (none))))) else (some false))) = some r := h
 clear h; replace H := Option.bind_eq_some_iff.mp H
 obtain ⟨t103, A40, H⟩ := H
 replace H : (if t103 = true then ((paroleref42_Book.f k l0_0).bind fun t104 => ((paroleref42_Risks.f k l0_1).bind fun t107 => ((some (([] : List (S47)) : List (S47))).bind fun y111 => (if y111.length + t107.length < 5864062014805 then ((some (y111 ++ t107 : List (S47))).bind fun y114 => ((some (([(⟨wrap64 (Int.tmod a1_0 4), 1 + (((Int.tdiv a1_0 4) % 256) % 14), wrap64 (a1_1)⟩ : S47)] : List (S47)) : List (S47))).bind fun y117 => (if y114.length + y117.length < 5864062014805 then ((parolelaw42_bond.f k t104 t107 (wrap64 (Int.tmod a2 8)) (wrap64 (a0_2))).bind fun bt123 => ((parolelaw42_bond.f k t104 (y114 ++ y117) (wrap64 (Int.tmod a2 8)) (wrap64 (a0_2))).bind fun bt126 => ((parolelaw42_premium.f k t104 (wrap64 (Int.tmod a1_0 4)) (1 + (((Int.tdiv a1_0 4) % 256) % 14)) (wrap64 (a1_1))).bind fun bt129 => (if (wrap64 (Int.tmod a2 8)) = (wrap64 (Int.tmod a1_0 4)) then (if bt123.2.2 = 0 then ((rat_Add.f k bt123.1 bt123.2.1 bt129.1 bt129.2.1).bind fun bt135 => (if bt129.2.2 = 0 then (if ((bt126.1 == bt135.1 && (bt126.2.1 == bt135.2.1)) && (bt126.2.2 == bt135.2.2)) = true then ((paroleref42_Whole.f (wrap64 (a0_2))).bind fun bt139 => ((rat_Cmp.f bt139.1 bt139.2 bt123.1 bt123.2.1).bind fun t141 => (if t141 ≤ 0 then (some t103) else (some false)))) else (some false)) else (none))) else (none)) else (none))))) else (none)))) else (none))))) else (some false)) = some r := H
 have A4 := aM A40; clear A40
 by_cases c5 : t103 = true
 rotate_left
 ·replace c5 := Bool.eq_false_iff.mpr c5
  subst c5
  have H1 : (some false) = some r := by rw [if_neg (show ¬ (false = true) by decide)] at H; exact H
  clear H; have H := H1; clear H1
  exact absurd ((Option.some.inj H).trans HT.out) (by decide)
 subst c5
 have H1 : ((paroleref42_Book.f k l0_0).bind fun t104 => ((paroleref42_Risks.f k l0_1).bind fun t107 => ((some (([] : List (S47)) : List (S47))).bind fun y111 => (if y111.length + t107.length < 5864062014805 then ((some (y111 ++ t107 : List (S47))).bind fun y114 => ((some (([(⟨wrap64 (Int.tmod a1_0 4), 1 + (((Int.tdiv a1_0 4) % 256) % 14), wrap64 (a1_1)⟩ : S47)] : List (S47)) : List (S47))).bind fun y117 => (if y114.length + y117.length < 5864062014805 then ((parolelaw42_bond.f k t104 t107 (wrap64 (Int.tmod a2 8)) (wrap64 (a0_2))).bind fun bt123 => ((parolelaw42_bond.f k t104 (y114 ++ y117) (wrap64 (Int.tmod a2 8)) (wrap64 (a0_2))).bind fun bt126 => ((parolelaw42_premium.f k t104 (wrap64 (Int.tmod a1_0 4)) (1 + (((Int.tdiv a1_0 4) % 256) % 14)) (wrap64 (a1_1))).bind fun bt129 => (if (wrap64 (Int.tmod a2 8)) = (wrap64 (Int.tmod a1_0 4)) then (if bt123.2.2 = 0 then ((rat_Add.f k bt123.1 bt123.2.1 bt129.1 bt129.2.1).bind fun bt135 => (if bt129.2.2 = 0 then (if ((bt126.1 == bt135.1 && (bt126.2.1 == bt135.2.1)) && (bt126.2.2 == bt135.2.2)) = true then ((paroleref42_Whole.f (wrap64 (a0_2))).bind fun bt139 => ((rat_Cmp.f bt139.1 bt139.2 bt123.1 bt123.2.1).bind fun t141 => (if t141 ≤ 0 then (some true) else (some false)))) else (some false)) else (none))) else (none)) else (none))))) else (none)))) else (none))))) = some r := by rw [if_pos rfl] at H; exact H
 clear H; have H := H1; clear H1; replace H := Option.bind_eq_some_iff.mp H
 obtain ⟨t104, A60, H⟩ := H
 replace H : ((paroleref42_Risks.f k l0_1).bind fun t107 => ((some (([] : List (S47)) : List (S47))).bind fun y111 => (if y111.length + t107.length < 5864062014805 then ((some (y111 ++ t107 : List (S47))).bind fun y114 => ((some (([(⟨wrap64 (Int.tmod a1_0 4), 1 + (((Int.tdiv a1_0 4) % 256) % 14), wrap64 (a1_1)⟩ : S47)] : List (S47)) : List (S47))).bind fun y117 => (if y114.length + y117.length < 5864062014805 then ((parolelaw42_bond.f k t104 t107 (wrap64 (Int.tmod a2 8)) (wrap64 (a0_2))).bind fun bt123 => ((parolelaw42_bond.f k t104 (y114 ++ y117) (wrap64 (Int.tmod a2 8)) (wrap64 (a0_2))).bind fun bt126 => ((parolelaw42_premium.f k t104 (wrap64 (Int.tmod a1_0 4)) (1 + (((Int.tdiv a1_0 4) % 256) % 14)) (wrap64 (a1_1))).bind fun bt129 => (if (wrap64 (Int.tmod a2 8)) = (wrap64 (Int.tmod a1_0 4)) then (if bt123.2.2 = 0 then ((rat_Add.f k bt123.1 bt123.2.1 bt129.1 bt129.2.1).bind fun bt135 => (if bt129.2.2 = 0 then (if ((bt126.1 == bt135.1 && (bt126.2.1 == bt135.2.1)) && (bt126.2.2 == bt135.2.2)) = true then ((paroleref42_Whole.f (wrap64 (a0_2))).bind fun bt139 => ((rat_Cmp.f bt139.1 bt139.2 bt123.1 bt123.2.1).bind fun t141 => (if t141 ≤ 0 then (some true) else (some false)))) else (some false)) else (none))) else (none)) else (none))))) else (none)))) else (none)))) = some r := H
 have A6 := aM A60; clear A60; replace H := Option.bind_eq_some_iff.mp H
 obtain ⟨t107, A70, H⟩ := H
 replace H : ((some (([] : List (S47)) : List (S47))).bind fun y111 => (if y111.length + t107.length < 5864062014805 then ((some (y111 ++ t107 : List (S47))).bind fun y114 => ((some (([(⟨wrap64 (Int.tmod a1_0 4), 1 + (((Int.tdiv a1_0 4) % 256) % 14), wrap64 (a1_1)⟩ : S47)] : List (S47)) : List (S47))).bind fun y117 => (if y114.length + y117.length < 5864062014805 then ((parolelaw42_bond.f k t104 t107 (wrap64 (Int.tmod a2 8)) (wrap64 (a0_2))).bind fun bt123 => ((parolelaw42_bond.f k t104 (y114 ++ y117) (wrap64 (Int.tmod a2 8)) (wrap64 (a0_2))).bind fun bt126 => ((parolelaw42_premium.f k t104 (wrap64 (Int.tmod a1_0 4)) (1 + (((Int.tdiv a1_0 4) % 256) % 14)) (wrap64 (a1_1))).bind fun bt129 => (if (wrap64 (Int.tmod a2 8)) = (wrap64 (Int.tmod a1_0 4)) then (if bt123.2.2 = 0 then ((rat_Add.f k bt123.1 bt123.2.1 bt129.1 bt129.2.1).bind fun bt135 => (if bt129.2.2 = 0 then (if ((bt126.1 == bt135.1 && (bt126.2.1 == bt135.2.1)) && (bt126.2.2 == bt135.2.2)) = true then ((paroleref42_Whole.f (wrap64 (a0_2))).bind fun bt139 => ((rat_Cmp.f bt139.1 bt139.2 bt123.1 bt123.2.1).bind fun t141 => (if t141 ≤ 0 then (some true) else (some false)))) else (some false)) else (none))) else (none)) else (none))))) else (none)))) else (none))) = some r := H
 have A7 := aM A70; clear A70
 obtain ⟨y111, hy111⟩ : ∃ y_ : List (S47), y_ = (([] : List (S47))) := ⟨_, rfl⟩
 replace H : (if y111.length + t107.length < 5864062014805 then ((some (y111 ++ t107 : List (S47))).bind fun y114 => ((some (([(⟨wrap64 (Int.tmod a1_0 4), 1 + (((Int.tdiv a1_0 4) % 256) % 14), wrap64 (a1_1)⟩ : S47)] : List (S47)) : List (S47))).bind fun y117 => (if y114.length + y117.length < 5864062014805 then ((parolelaw42_bond.f k t104 t107 (wrap64 (Int.tmod a2 8)) (wrap64 (a0_2))).bind fun bt123 => ((parolelaw42_bond.f k t104 (y114 ++ y117) (wrap64 (Int.tmod a2 8)) (wrap64 (a0_2))).bind fun bt126 => ((parolelaw42_premium.f k t104 (wrap64 (Int.tmod a1_0 4)) (1 + (((Int.tdiv a1_0 4) % 256) % 14)) (wrap64 (a1_1))).bind fun bt129 => (if (wrap64 (Int.tmod a2 8)) = (wrap64 (Int.tmod a1_0 4)) then (if bt123.2.2 = 0 then ((rat_Add.f k bt123.1 bt123.2.1 bt129.1 bt129.2.1).bind fun bt135 => (if bt129.2.2 = 0 then (if ((bt126.1 == bt135.1 && (bt126.2.1 == bt135.2.1)) && (bt126.2.2 == bt135.2.2)) = true then ((paroleref42_Whole.f (wrap64 (a0_2))).bind fun bt139 => ((rat_Cmp.f bt139.1 bt139.2 bt123.1 bt123.2.1).bind fun t141 => (if t141 ≤ 0 then (some true) else (some false)))) else (some false)) else (none))) else (none)) else (none))))) else (none)))) else (none)) = some r := by first | (rw [hy111]; with_reducible exact H) | (have H2_ := (Option.bind_some _ _).symm.trans H; rw [hy111]; with_reducible exact H2_) | (have H2_ := (Option.bind_some _ _).symm.trans H; with_reducible exact H2_) | with_reducible exact H | (rw [hy111]; exact H) | exact H
 have Ny111 := aM hy111; clear hy111
 by_cases c8 : y111.length + t107.length < 5864062014805
 rotate_left
 ·rw [if_neg c8] at H
  exact absurd H (by simp)
 rw [if_pos c8] at H
 have LMc8 := aM c8; clear c8
 obtain ⟨y114, hy114⟩ : ∃ y_ : List (S47), y_ = (y111 ++ t107) := ⟨_, rfl⟩
 replace H : ((some (([(⟨wrap64 (Int.tmod a1_0 4), 1 + (((Int.tdiv a1_0 4) % 256) % 14), wrap64 (a1_1)⟩ : S47)] : List (S47)) : List (S47))).bind fun y117 => (if y114.length + y117.length < 5864062014805 then ((parolelaw42_bond.f k t104 t107 (wrap64 (Int.tmod a2 8)) (wrap64 (a0_2))).bind fun bt123 => ((parolelaw42_bond.f k t104 (y114 ++ y117) (wrap64 (Int.tmod a2 8)) (wrap64 (a0_2))).bind fun bt126 => ((parolelaw42_premium.f k t104 (wrap64 (Int.tmod a1_0 4)) (1 + (((Int.tdiv a1_0 4) % 256) % 14)) (wrap64 (a1_1))).bind fun bt129 => (if (wrap64 (Int.tmod a2 8)) = (wrap64 (Int.tmod a1_0 4)) then (if bt123.2.2 = 0 then ((rat_Add.f k bt123.1 bt123.2.1 bt129.1 bt129.2.1).bind fun bt135 => (if bt129.2.2 = 0 then (if ((bt126.1 == bt135.1 && (bt126.2.1 == bt135.2.1)) && (bt126.2.2 == bt135.2.2)) = true then ((paroleref42_Whole.f (wrap64 (a0_2))).bind fun bt139 => ((rat_Cmp.f bt139.1 bt139.2 bt123.1 bt123.2.1).bind fun t141 => (if t141 ≤ 0 then (some true) else (some false)))) else (some false)) else (none))) else (none)) else (none))))) else (none))) = some r := by first | (rw [hy114]; with_reducible exact H) | (have H2_ := (Option.bind_some _ _).symm.trans H; rw [hy114]; with_reducible exact H2_) | (have H2_ := (Option.bind_some _ _).symm.trans H; with_reducible exact H2_) | with_reducible exact H | (rw [hy114]; exact H) | exact H
 have Ny114 := aM hy114; clear hy114
 obtain ⟨y117, hy117⟩ : ∃ y_ : List (S47), y_ = (([(⟨wrap64 (Int.tmod a1_0 4), 1 + (((Int.tdiv a1_0 4) % 256) % 14), wrap64 (a1_1)⟩ : S47)] : List (S47))) := ⟨_, rfl⟩
 replace H : (if y114.length + y117.length < 5864062014805 then ((parolelaw42_bond.f k t104 t107 (wrap64 (Int.tmod a2 8)) (wrap64 (a0_2))).bind fun bt123 => ((parolelaw42_bond.f k t104 (y114 ++ y117) (wrap64 (Int.tmod a2 8)) (wrap64 (a0_2))).bind fun bt126 => ((parolelaw42_premium.f k t104 (wrap64 (Int.tmod a1_0 4)) (1 + (((Int.tdiv a1_0 4) % 256) % 14)) (wrap64 (a1_1))).bind fun bt129 => (if (wrap64 (Int.tmod a2 8)) = (wrap64 (Int.tmod a1_0 4)) then (if bt123.2.2 = 0 then ((rat_Add.f k bt123.1 bt123.2.1 bt129.1 bt129.2.1).bind fun bt135 => (if bt129.2.2 = 0 then (if ((bt126.1 == bt135.1 && (bt126.2.1 == bt135.2.1)) && (bt126.2.2 == bt135.2.2)) = true then ((paroleref42_Whole.f (wrap64 (a0_2))).bind fun bt139 => ((rat_Cmp.f bt139.1 bt139.2 bt123.1 bt123.2.1).bind fun t141 => (if t141 ≤ 0 then (some true) else (some false)))) else (some false)) else (none))) else (none)) else (none))))) else (none)) = some r := by first | (rw [hy117]; with_reducible exact H) | (have H2_ := (Option.bind_some _ _).symm.trans H; rw [hy117]; with_reducible exact H2_) | (have H2_ := (Option.bind_some _ _).symm.trans H; with_reducible exact H2_) | with_reducible exact H | (rw [hy117]; exact H) | exact H
 have Ny117 := aM hy117; clear hy117
 by_cases c9 : y114.length + y117.length < 5864062014805
 rotate_left
 ·rw [if_neg c9] at H
  exact absurd H (by simp)
 rw [if_pos c9] at H
 have LMc9 := aM c9; clear c9
 obtain ⟨y120, hy120⟩ : ∃ y_ : List (S47), y_ = (y114 ++ y117) := ⟨_, rfl⟩
 replace H : ((parolelaw42_bond.f k t104 t107 (wrap64 (Int.tmod a2 8)) (wrap64 (a0_2))).bind fun bt123 => ((parolelaw42_bond.f k t104 y120 (wrap64 (Int.tmod a2 8)) (wrap64 (a0_2))).bind fun bt126 => ((parolelaw42_premium.f k t104 (wrap64 (Int.tmod a1_0 4)) (1 + (((Int.tdiv a1_0 4) % 256) % 14)) (wrap64 (a1_1))).bind fun bt129 => (if (wrap64 (Int.tmod a2 8)) = (wrap64 (Int.tmod a1_0 4)) then (if bt123.2.2 = 0 then ((rat_Add.f k bt123.1 bt123.2.1 bt129.1 bt129.2.1).bind fun bt135 => (if bt129.2.2 = 0 then (if ((bt126.1 == bt135.1 && (bt126.2.1 == bt135.2.1)) && (bt126.2.2 == bt135.2.2)) = true then ((paroleref42_Whole.f (wrap64 (a0_2))).bind fun bt139 => ((rat_Cmp.f bt139.1 bt139.2 bt123.1 bt123.2.1).bind fun t141 => (if t141 ≤ 0 then (some true) else (some false)))) else (some false)) else (none))) else (none)) else (none))))) = some r := by first | (rw [hy120]; with_reducible exact H) | (have H2_ := (Option.bind_some _ _).symm.trans H; rw [hy120]; with_reducible exact H2_) | (have H2_ := (Option.bind_some _ _).symm.trans H; with_reducible exact H2_) | with_reducible exact H | (rw [hy120]; exact H) | exact H
 have Ny120 := aM hy120; clear hy120; replace H := Option.bind_eq_some_iff.mp H
 obtain ⟨⟨t123, t124, t125⟩, A100, H⟩ := H
 replace H : ((parolelaw42_bond.f k t104 y120 (wrap64 (Int.tmod a2 8)) (wrap64 (a0_2))).bind fun bt126 => ((parolelaw42_premium.f k t104 (wrap64 (Int.tmod a1_0 4)) (1 + (((Int.tdiv a1_0 4) % 256) % 14)) (wrap64 (a1_1))).bind fun bt129 => (if (wrap64 (Int.tmod a2 8)) = (wrap64 (Int.tmod a1_0 4)) then (if t125 = 0 then ((rat_Add.f k t123 t124 bt129.1 bt129.2.1).bind fun bt135 => (if bt129.2.2 = 0 then (if ((bt126.1 == bt135.1 && (bt126.2.1 == bt135.2.1)) && (bt126.2.2 == bt135.2.2)) = true then ((paroleref42_Whole.f (wrap64 (a0_2))).bind fun bt139 => ((rat_Cmp.f bt139.1 bt139.2 t123 t124).bind fun t141 => (if t141 ≤ 0 then (some true) else (some false)))) else (some false)) else (none))) else (none)) else (none)))) = some r := H
 have A10 := aM A100; clear A100; replace H := Option.bind_eq_some_iff.mp H
 obtain ⟨⟨t126, t127, t128⟩, A110, H⟩ := H
 replace H : ((parolelaw42_premium.f k t104 (wrap64 (Int.tmod a1_0 4)) (1 + (((Int.tdiv a1_0 4) % 256) % 14)) (wrap64 (a1_1))).bind fun bt129 => (if (wrap64 (Int.tmod a2 8)) = (wrap64 (Int.tmod a1_0 4)) then (if t125 = 0 then ((rat_Add.f k t123 t124 bt129.1 bt129.2.1).bind fun bt135 => (if bt129.2.2 = 0 then (if ((t126 == bt135.1 && (t127 == bt135.2.1)) && (t128 == bt135.2.2)) = true then ((paroleref42_Whole.f (wrap64 (a0_2))).bind fun bt139 => ((rat_Cmp.f bt139.1 bt139.2 t123 t124).bind fun t141 => (if t141 ≤ 0 then (some true) else (some false)))) else (some false)) else (none))) else (none)) else (none))) = some r := H
 have A11 := aM A110; clear A110; replace H := Option.bind_eq_some_iff.mp H
 obtain ⟨⟨t129, t130, t131⟩, A120, H⟩ := H
 replace H : (if (wrap64 (Int.tmod a2 8)) = (wrap64 (Int.tmod a1_0 4)) then (if t125 = 0 then ((rat_Add.f k t123 t124 t129 t130).bind fun bt135 => (if t131 = 0 then (if ((t126 == bt135.1 && (t127 == bt135.2.1)) && (t128 == bt135.2.2)) = true then ((paroleref42_Whole.f (wrap64 (a0_2))).bind fun bt139 => ((rat_Cmp.f bt139.1 bt139.2 t123 t124).bind fun t141 => (if t141 ≤ 0 then (some true) else (some false)))) else (some false)) else (none))) else (none)) else (none)) = some r := H
 have A12 := aM A120; clear A120
 by_cases c13 : (wrap64 (Int.tmod a2 8)) = (wrap64 (Int.tmod a1_0 4))
 rotate_left
 ·rw [if_neg c13] at H
  exact absurd H (by simp)
 rw [if_pos c13] at H
 have c13b0 : ((wrap64 (Int.tmod a2 8)) == (wrap64 (Int.tmod a1_0 4))) = true := beq_iff_eq.mpr c13
 have c13b1 : ((wrap64 (Int.tmod a2 8)) != (wrap64 (Int.tmod a1_0 4))) = false := bne_eq_false_iff_eq.mpr c13
 clear c13
 by_cases c14 : t125 = 0
 rotate_left
 ·rw [if_neg c14] at H
  exact absurd H (by simp)
 rw [if_pos c14] at H
 have c14b0 : (t125 == 0) = true := beq_iff_eq.mpr c14
 have c14b1 : (t125 != 0) = false := bne_eq_false_iff_eq.mpr c14
 clear c14; replace H := Option.bind_eq_some_iff.mp H
 obtain ⟨⟨t135, t136, t137⟩, A150, H⟩ := H
 replace H : (if t131 = 0 then (if ((t126 == t135 && (t127 == t136)) && (t128 == t137)) = true then ((paroleref42_Whole.f (wrap64 (a0_2))).bind fun bt139 => ((rat_Cmp.f bt139.1 bt139.2 t123 t124).bind fun t141 => (if t141 ≤ 0 then (some true) else (some false)))) else (some false)) else (none)) = some r := H
 have A15 := aM A150; clear A150
 by_cases c16 : t131 = 0
 rotate_left
 ·rw [if_neg c16] at H
  exact absurd H (by simp)
 rw [if_pos c16] at H
 have c16b0 : (t131 == 0) = true := beq_iff_eq.mpr c16
 have c16b1 : (t131 != 0) = false := bne_eq_false_iff_eq.mpr c16
 clear c16
 by_cases c17 : ((t126 == t135 && (t127 == t136)) && (t128 == t137)) = true
 rotate_left
 ·rw [if_neg c17] at H
  have c17b0 : ((t126 == t135 && (t127 == t136)) && (t128 == t137)) = false := by simpa using c17
  clear c17
  exact absurd ((Option.some.inj H).trans HT.out) (by decide)
 rw [if_pos c17] at H
 have c17b0 : ((t126 == t135 && (t127 == t136)) && (t128 == t137)) = true := c17
 clear c17; replace H := Option.bind_eq_some_iff.mp H
 obtain ⟨⟨t139, t140⟩, A180, H⟩ := H
 replace H : ((rat_Cmp.f t139 t140 t123 t124).bind fun t141 => (if t141 ≤ 0 then (some true) else (some false))) = some r := H
 have A18 := aM A180; clear A180; replace H := Option.bind_eq_some_iff.mp H
 obtain ⟨t141, A190, H⟩ := H
 replace H : (if t141 ≤ 0 then (some true) else (some false)) = some r := H
 have A19 := aM A190; clear A190
 by_cases c20 : t141 ≤ 0
 rotate_left
 ·rw [if_neg c20] at H
  have c20b0 : decide (t141 ≤ 0) = false := decide_eq_false c20
  clear c20
  exact absurd ((Option.some.inj H).trans HT.out) (by decide)
 rw [if_pos c20] at H
 have c20b0 : decide (t141 ≤ 0) = true := decide_eq_true c20
 clear c20
 obtain rfl := Option.some.inj H
 go_enter Try.func12, Try.ntmps12
 try go_wp2_with (first | ((with_reducible refine gate_dst (N := 3) rfl ?_); refine bE (N := 3) (cs := #[.slice A0_0 l0_0.length c0_0, .slice A0_1 l0_1.length c0_1, .int .u16 a0_2]) (t := 45) ?_; intro gb101 hg w21 hbox hb; have BK101 := aM (hbox); have GW101 := gE hg HB; have GE101 := gE hg HB; replace HB := sB HB hb; clear hb hbox hg) | ((with_reducible refine gate_dst (N := 4) rfl ?_); refine bE (N := 4) (cs := #[.int .u8 a1_0, .int .u8 a1_1]) (t := 80) ?_; intro gb102 hg w22 hbox hb; have BK102 := aM (hbox); have GW102 := gE hg HB; have GE102 := gE hg HB; have NB101_102 := nL hg BK101; replace BK101 := bB BK101 hb; replace HB := sB HB hb; clear hb hbox hg) | ((with_reducible refine gate_callee (f := 28) rfl ?_); refine gL (some 19) Try.func28 #[] ?_; (with_reducible refine (parolelaw42_examples.calls  true _ A4.out).mono ?_); rintro e w23 ⟨rfl, hb⟩; refine ⟨_, rfl, ?_⟩; replace BK101 := bB BK101 hb; replace BK102 := bB BK102 hb; replace HB := sB HB hb; (try clear hb)))
 replace BK101 := aM (blk_drew BK101.out); replace BK102 := aM (blk_drew BK102.out); replace HB := aM (below_drew1 HB.out)
 refine start_ (n := 12) (S := fun w' => w'.cell? ⟨gb101, 0, none⟩ = some (.slice A0_0 l0_0.length c0_0) ∧ w'.cell? ⟨gb101, 1, none⟩ = some (.slice A0_1 l0_1.length c0_1) ∧ w'.cell? ⟨gb101, 2, none⟩ = some (.int .u16 a0_2)) (ds := []) #[false, false, false, false, false, false, false, false, false, false, false, false] (by kernel_rfl) rfl rfl ⟨cE BK101 0, cE BK101 1, cE BK101 2⟩ (fun hHeld => ?_); refine with_tabW parolelaw42_PriceBondsA.tab4 parolelaw42_PriceBondsA.bits4 (fun HT_ HW_ => ?_)
 generalize w23.drew = w24 at BK101 BK102 HB hHeld ⊢
 refine pX (i := 0) (N := some 22) rfl rfl HT_ ?_
 refine pX (i := 3) (N := some 25) rfl rfl HT_ ?_
 refine pX (i := 6) (N := some 28) rfl rfl HT_ ?_
 refine tX (i := 1) (N := some 23) rfl rfl HT_ HW_ hHeld (Or.inl ⟨by rfl, by rintro w' ⟨s0, s1, s2⟩; go_simp; with_reducible rfl⟩) ?_
 refine tX (i := 4) (N := some 26) rfl rfl HT_ HW_ hHeld (Or.inl ⟨by rfl, by rintro w' ⟨s0, s1, s2⟩; go_simp; with_reducible rfl⟩) ?_
 refine tX (i := 7) (N := some 29) rfl rfl HT_ HW_ hHeld (Or.inl ⟨by rfl, by rintro w' ⟨s0, s1, s2⟩; go_simp; with_reducible rfl⟩) ?_
 refine pX (i := 8) (N := some 30) rfl rfl HT_ ?_
 refine oX (i := 2) (N := some 24) rfl rfl HT_ (fun K hK => ?_)
 refine gS Try.func29 #[.slice A0_0 l0_0.length c0_0] ?_
 with_reducible refine (paroleref42_Book.calls k _ _ l0_0 t104 _ ?side1 ?side2 A6.out).mono ?_
 (case side1 => exact cC HR0_0 HB)
 (case side2 => exact HC0_0.out)
 rintro e w25 ⟨v105, rfl, ho0, hb⟩
 refine ⟨_, rfl, ?_⟩
 have HO106 := rL (n := 0) ho0 HB; replace BK101 := bB BK101 hb; replace BK102 := bB BK102 hb; replace HB := sB HB hb; (try clear hb); (try clear hb2); (try clear hk); (try clear hi); (try clear ho0)
 refine hK.out _ _ ⟨cE BK101 0, cE BK101 1, cE BK101 2⟩ (fun hHeld => ?_)
 clear hK K
 refine nX (some 24) ?_
 refine oX (i := 5) (N := some 27) rfl rfl HT_ (fun K hK => ?_)
 refine gS Try.func30 #[.slice A0_1 l0_1.length c0_1] ?_
 with_reducible refine (paroleref42_Risks.calls k _ _ l0_1 t107 _ ?side1 ?side2 A7.out).mono ?_
 (case side1 => exact cC HR0_1 HB)
 (case side2 => exact HC0_1.out)
 rintro e w26 ⟨v108, rfl, ho0, hb⟩
 refine ⟨_, rfl, ?_⟩
 have HO109 := rL (n := 0) ho0 HB; replace HO106 := rB HO106 hb; replace BK101 := bB BK101 hb; replace BK102 := bB BK102 hb; replace HB := sB HB hb; (try clear hb); (try clear hb2); (try clear hk); (try clear hi); (try clear ho0)
 refine hK.out _ _ ⟨cE BK101 0, cE BK101 1, cE BK101 2⟩ (fun hHeld => ?_)
 clear hK K
 refine nX (some 27) ?_
 refine pX (i := 9) (N := some 8) rfl rfl HT_ ?_
 refine pX (i := 10) (N := some 9) rfl rfl HT_ ?_
 refine pX (i := 11) (N := some 10) rfl rfl HT_ ?_
 refine done_ (done_of HT_.out (by kernel_rfl)) ?_
 have hnb27 := NB101_102.out.symm; have hnc27 := NB101_102.out; obtain ⟨hcz28_0, hcz28_1, hfz28_0, hfz28_1⟩ := cZ2 BK102
 try go_wp2_with (first | ((with_reducible refine gate_dst (N := 11) rfl ?_); refine bE (N := 11) (cs := #[.int .i64 0, .int .i64 0, .int .i64 0]) (t := 47) ?_; intro gb110 hg w29 hbox hb; have BK110 := aM (hbox); have GW110 := gE hg HB; have GE110 := gE hg HB; have NB101_110 := nL hg BK101; have NB102_110 := nL hg BK102; replace HO106 := rB HO106 hb; replace HO109 := aM (Kd.R_below (Kd.R_elderB (rD HO109) gb110 (Nat.le_of_eq hg.symm)) hb); replace BK101 := bB BK101 hb; replace BK102 := bB BK102 hb; replace HB := sB HB hb; clear hb hbox hg; have hnb30 := NB101_110.out.symm; have hnc30 := NB101_110.out; have hnb31 := NB102_110.out.symm; have hnc31 := NB102_110.out; obtain ⟨hcz32_0, hcz32_1, hcz32_2, hfz32_0, hfz32_1, hfz32_2⟩ := cZ3 BK110; obtain ⟨Ao33, co33, eo33⟩ := Kd.R_slice HO109.out; subst eo33))
 have n0_ : Aside0 (Kd.R k71 71 (((w29.setCell ⟨gb110, 0, none⟩ (.int .i64 (wrap64 (Int.tmod a1_0 4)))).setCell ⟨gb110, 1, none⟩ (.int .i64 (1 + (((Int.tdiv a1_0 4) % 256) % 14)))).setCell ⟨gb110, 2, none⟩ (.int .i64 (wrap64 (a1_1)))) w.heap.size (fun _ => True) v105 t104) := ⟨by (with_reducible repeat (first | apply Kd.R_alloc | apply Kd.R_drewN | apply Kd.R_drew)); exact Kd.R_mono (Kd.R_far (p := ⟨gb110, 2, none⟩) (Kd.R_far (p := ⟨gb110, 1, none⟩) (Kd.R_far (p := ⟨gb110, 0, none⟩) (Kd.R_types HO106.out BK110.out (by decide)) (fun _ hk => hk.2) (.int .i64 (wrap64 (Int.tmod a1_0 4)))) (fun _ hk => hk.2) (.int .i64 (1 + (((Int.tdiv a1_0 4) % 256) % 14)))) (fun _ hk => hk.2) (.int .i64 (wrap64 (a1_1)))) (fun _ hk => trivial)⟩
 have n1_ : Aside0 (Kd.R k47 47 (((w29.setCell ⟨gb110, 0, none⟩ (.int .i64 (wrap64 (Int.tmod a1_0 4)))).setCell ⟨gb110, 1, none⟩ (.int .i64 (1 + (((Int.tdiv a1_0 4) % 256) % 14)))).setCell ⟨gb110, 2, none⟩ (.int .i64 (wrap64 (a1_1)))) w.heap.size (fun k_ => k_ ≠ gb110) (.slice Ao33 t107.length co33) t107) := ⟨by (with_reducible repeat (first | apply Kd.R_alloc | apply Kd.R_drewN | apply Kd.R_drew)); exact Kd.R_mono (Kd.R_far (p := ⟨gb110, 2, none⟩) (Kd.R_far (p := ⟨gb110, 1, none⟩) (Kd.R_far (p := ⟨gb110, 0, none⟩) (Kd.R_mono HO109.out (fun k_ hk => (⟨hk, hk.2⟩ : _ ∧ k_ ≠ gb110))) (fun _ hk => hk.2) (.int .i64 (wrap64 (Int.tmod a1_0 4)))) (fun _ hk => hk.2) (.int .i64 (1 + (((Int.tdiv a1_0 4) % 256) % 14)))) (fun _ hk => hk.2) (.int .i64 (wrap64 (a1_1)))) (fun _ hk => hk.1.2)⟩
 have n2_ : Aside0 ((((w29.setCell ⟨gb110, 0, none⟩ (.int .i64 (wrap64 (Int.tmod a1_0 4)))).setCell ⟨gb110, 1, none⟩ (.int .i64 (1 + (((Int.tdiv a1_0 4) % 256) % 14)))).setCell ⟨gb110, 2, none⟩ (.int .i64 (wrap64 (a1_1)))).heap[gb101]? = some (.cells #[.slice A0_0 l0_0.length c0_0, .slice A0_1 l0_1.length c0_1, .int .u16 a0_2] 45 (0, 0))) := ⟨bF BK101⟩
 have n3_ : Aside0 ((((w29.setCell ⟨gb110, 0, none⟩ (.int .i64 (wrap64 (Int.tmod a1_0 4)))).setCell ⟨gb110, 1, none⟩ (.int .i64 (1 + (((Int.tdiv a1_0 4) % 256) % 14)))).setCell ⟨gb110, 2, none⟩ (.int .i64 (wrap64 (a1_1)))).heap[gb102]? = some (.cells #[.int .u8 a1_0, .int .u8 a1_1] 80 (0, 0))) := ⟨bF BK102⟩
 have n4_ : Aside0 ((((w29.setCell ⟨gb110, 0, none⟩ (.int .i64 (wrap64 (Int.tmod a1_0 4)))).setCell ⟨gb110, 1, none⟩ (.int .i64 (1 + (((Int.tdiv a1_0 4) % 256) % 14)))).setCell ⟨gb110, 2, none⟩ (.int .i64 (wrap64 (a1_1)))).heap[gb110]? = some (.cells #[.int .i64 (wrap64 (Int.tmod a1_0 4)), .int .i64 (1 + (((Int.tdiv a1_0 4) % 256) % 14)), .int .i64 (wrap64 (a1_1))] 47 (0, 0))) := ⟨by refine bM ?_; refine blk_put (cs := #[.int .i64 (wrap64 (Int.tmod a1_0 4)), .int .i64 (1 + (((Int.tdiv a1_0 4) % 256) % 14)), .int .i64 0]) ?_ 2 _ rfl; refine bM ?_; refine blk_put (cs := #[.int .i64 (wrap64 (Int.tmod a1_0 4)), .int .i64 0, .int .i64 0]) ?_ 1 _ rfl; refine bM ?_; refine blk_put (cs := #[.int .i64 0, .int .i64 0, .int .i64 0]) ?_ 0 _ rfl; exact bD BK110⟩
 have n5_ : Aside0 (Below w.heap.size w (((w29.setCell ⟨gb110, 0, none⟩ (.int .i64 (wrap64 (Int.tmod a1_0 4)))).setCell ⟨gb110, 1, none⟩ (.int .i64 (1 + (((Int.tdiv a1_0 4) % 256) % 14)))).setCell ⟨gb110, 2, none⟩ (.int .i64 (wrap64 (a1_1))))) := ⟨sD HB⟩
 (try clear HO106); (try clear HO109); (try clear BK101); (try clear BK102); (try clear BK110); (try clear HB)
 generalize (((w29.setCell ⟨gb110, 0, none⟩ (.int .i64 (wrap64 (Int.tmod a1_0 4)))).setCell ⟨gb110, 1, none⟩ (.int .i64 (1 + (((Int.tdiv a1_0 4) % 256) % 14)))).setCell ⟨gb110, 2, none⟩ (.int .i64 (wrap64 (a1_1)))) = w34 at n0_ n1_ n2_ n3_ n4_ n5_ ⊢
 have HO106 := n0_; have HO109 := n1_; have BK101 := n2_; have BK102 := n3_; have BK110 := n4_; have HB := n5_; clear n0_ n1_ n2_ n3_ n4_ n5_; replace HO106 := aM (Kd.R_drew HO106.out); replace HO109 := aM (Kd.R_drew HO109.out); replace BK101 := aM (blk_drew BK101.out); replace BK102 := aM (blk_drew BK102.out); replace BK110 := aM (blk_drew BK110.out); replace HB := aM (below_drew1 HB.out)
 refine start_ (n := 7) (S := fun w' => w'.cell? ⟨gb110, 0, none⟩ = some (.int .i64 (wrap64 (Int.tmod a1_0 4))) ∧ w'.cell? ⟨gb110, 1, none⟩ = some (.int .i64 (1 + (((Int.tdiv a1_0 4) % 256) % 14))) ∧ w'.cell? ⟨gb110, 2, none⟩ = some (.int .i64 (wrap64 (a1_1)))) (ds := []) #[false, false, false, false, false, false, false] (by kernel_rfl) rfl rfl ⟨cE BK110 0, cE BK110 1, cE BK110 2⟩ (fun hHeld => ?_)
 generalize w34.drew = w35 at HO106 HO109 BK101 BK102 BK110 HB hHeld ⊢
 refine pure_ (i := 1) (N := some 46) (v := ?_) (a' := ?_) #[false, true, false, false, false, false, false] rfl rfl (by kernel_rfl) (fun _ _ _ h => h) (Or.inl ⟨by rfl, ?_⟩) ?_ ?_
 rotate_left
 ·intro w'
  go_simp
  with_reducible rfl
 rotate_left
 ·simp only [Act.put, List.setIfInBounds_toArray, List.set_cons_zero, List.set_cons_succ, i64_w, i32_w]
  rfl
 refine take_ (i := 3) (N := some 48) (v := ?_) (a' := ?_) #[false, true, false, true, false, false, false] rfl rfl (by kernel_rfl) (fun _ _ _ h => h) (Or.inl ⟨by rfl, ?_⟩) hHeld ?_ ?_
 rotate_left
 ·rintro w' ⟨s0, s1, s2⟩
  go_simp
  with_reducible rfl
 rotate_left
 ·simp only [Act.put, List.setIfInBounds_toArray, List.set_cons_zero, List.set_cons_succ, i64_w, i32_w]
  rfl
 refine join_ (σ := Value × Value × Value) 2 #[true, true, true, true, true, false, false] (fun s_ => [(45, s_.1), (47, s_.2.1), (49, s_.2.2)]) (fun s_ w' => (w'.cell? ⟨gb110, 0, none⟩ = some (.int .i64 (wrap64 (Int.tmod a1_0 4))) ∧ w'.cell? ⟨gb110, 1, none⟩ = some (.int .i64 (1 + (((Int.tdiv a1_0 4) % 256) % 14))) ∧ w'.cell? ⟨gb110, 2, none⟩ = some (.int .i64 (wrap64 (a1_1)))) ∧ (Kd.R k71 71 w' w.heap.size (fun _ => True) v105 t104) ∧ (Kd.R k47 47 w' w.heap.size (fun k_ => some k_ ≠ (s_.2.1 : Value).ownBlock ∧ some k_ ≠ (s_.2.2 : Value).ownBlock ∧ k_ ≠ gb110) (.slice Ao33 t107.length co33) t107) ∧ (Kd.R k47 47 w' w.heap.size (fun k_ => some k_ ≠ (.slice Ao33 t107.length co33 : Value).ownBlock ∧ some k_ ≠ (s_.2.2 : Value).ownBlock ∧ k_ ≠ gb110) s_.2.1 y114) ∧ (Kd.R k47 47 w' w.heap.size (fun k_ => some k_ ≠ (.slice Ao33 t107.length co33 : Value).ownBlock ∧ some k_ ≠ (s_.2.1 : Value).ownBlock ∧ k_ ≠ gb110) s_.2.2 y117) ∧ (w'.heap[gb101]? = some (.cells #[.slice A0_0 l0_0.length c0_0, .slice A0_1 l0_1.length c0_1, .int .u16 a0_2] 45 (0, 0))) ∧ (w'.heap[gb102]? = some (.cells #[.int .u8 a1_0, .int .u8 a1_1] 80 (0, 0))) ∧ (w'.heap[gb110]? = some (.cells #[.int .i64 (wrap64 (Int.tmod a1_0 4)), .int .i64 (1 + (((Int.tdiv a1_0 4) % 256) % 14)), .int .i64 (wrap64 (a1_1))] 47 (0, 0))) ∧ (Below w.heap.size w w')) ?_ ?_
 rotate_left
 ·intro hCont
  refine two_ (i := 0) (j := 4) (Ni := some 45) (Nj := some 49) #[true, true, false, true, false, false, false] #[false, true, false, true, true, false, false] rfl rfl rfl rfl (by kernel_rfl) (by decide) (by decide) (fun K hK => ?_) (fun K hK => ?_)
  ·refine Kd.R_lit_step k47 _ 47 ?hg (N := 45) ?hd (xs := ([] : List (S47))) (inner := []) (ok := fun _ => True) (okp := fun _ => True) ?hr ?hp (fun _ hk => hk) trivial (Below.refl _ _) (Nat.le_refl _) (by simp) ?_; (case hd => rfl); (case hg => rfl); (case hr => first | (go_simp; done) | (go_simp; rfl)); (case hp => exact (Reps.none _ _))
   intro v112 w36 ho37 hb hg_ hnew_
   clear hg_ hnew_
   (first | rw [← Ny111.out] at ho37 | (simp only [Int.reduceToNat] at ho37; rw [← Ny111.out] at ho37))
   have HO113 := aM (Kd.R_lower (Kd.R_newB (Kd.R_new' ho37 (Kd.R_lt (rD HO109))) (g := gb110) (o := .cells #[.int .i64 (wrap64 (Int.tmod a1_0 4)), .int .i64 (1 + (((Int.tdiv a1_0 4) % 256) % 14)), .int .i64 (wrap64 (a1_1))] 47 (0, 0)) (bD BK110)) (below_size (sD HB))); replace HO106 := rB HO106 hb; replace HO109 := aM (Kd.R_elder' (rD HO109) (Kd.R_base ho37) hb); replace BK101 := bB BK101 hb; replace BK102 := bB BK102 hb; replace BK110 := bB BK110 hb; replace HB := sB HB hb; clear hb ho37
   refine hK.out _ _ ⟨cE BK110 0, cE BK110 1, cE BK110 2⟩ (fun hHeld => ?_)
   clear hK K
   refine nX (some 45) ?_
   refine two_ (i := 2) (j := 4) (Ni := some 47) (Nj := some 49) #[true, true, true, true, false, false, false] #[true, true, false, true, true, false, false] rfl rfl rfl rfl (by kernel_rfl) (by decide) (by decide) (fun K hK => ?_) (fun K hK => ?_)
   ·refine Kd.R_append_rows_step k47 (w0 := w) w.heap.size (by rfl) (.tmp 45) (.tmp 46) 50 47 (.agg #[(.int .i64 0), (.int .i64 0), (.int .i64 0)]) 24 rfl Try.underlying50 info47 rfl (by decide) (by omega) v112 y111 t107 _ _ _ (fun k_ => some k_ ≠ (.slice Ao33 t107.length co33 : Value).ownBlock ∧ k_ ≠ gb110) (fun _ => False) rfl rfl ?aO ?aR (fun _ _ h => h) (fun _ h => h.elim) ?aF ?aB ?aS ?aL ?_
    (case aR => repeat (first | exact (Kd.R_reads' HO109.out).2.2 | (with_reducible refine Kd.C_alloc ?_ _) | (with_reducible refine Kd.C_drewN ?_ _) | (with_reducible refine Kd.C_drew ?_)))
    (case aB => exact (sD HB))
    (case aF => exact (fun k_ hk => ⟨Kd.fresh' (Kd.R_lt (rD HO109)) k_ hk, Kd.freshB (g := gb110) (o := .cells #[.int .i64 (wrap64 (Int.tmod a1_0 4)), .int .i64 (1 + (((Int.tdiv a1_0 4) % 256) % 14)), .int .i64 (wrap64 (a1_1))] 47 (0, 0)) (bD BK110) k_ hk⟩))
    (case aO => exact (rD ⟨Kd.R_mono HO113.out (fun _ hk => ⟨hk.1.2, hk.2⟩)⟩))
    (case aS => exact (below_size (sD HB)))
    (case aL => have := LMc8.out; omega)
    intro v115 w38 ho hb hg hat
    rw [← Ny114.out] at ho
    have HO116 := aM (ho); replace BK101 := aM (blk_grown (g := gb101) (o := .cells #[.slice A0_0 l0_0.length c0_0, .slice A0_1 l0_1.length c0_1, .int .u16 a0_2] 45 (0, 0)) (bD BK101) hg (Kd.R_ne HO113.out BK101.out (by decide))); replace BK102 := aM (blk_grown (g := gb102) (o := .cells #[.int .u8 a1_0, .int .u8 a1_1] 80 (0, 0)) (bD BK102) hg (Kd.R_ne HO113.out BK102.out (by decide))); replace HO106 := aM (Kd.R_over' (rD HO106) (Kd.R_typed (rD HO113)) (by decide) hg); replace HO109 := aM (Kd.R_after (ok := (fun k_ => k_ ≠ gb110)) (rD HO109) hg hat); replace BK110 := aM (blk_grown (g := gb110) (o := .cells #[.int .i64 (wrap64 (Int.tmod a1_0 4)), .int .i64 (1 + (((Int.tdiv a1_0 4) % 256) % 14)), .int .i64 (wrap64 (a1_1))] 47 (0, 0)) (bD BK110) hg (Kd.R_away HO113.out (fun _ hk => hk.2)))
    replace HB := aM (hb); clear HO113 ho hb hg hat
    refine hK.out _ _ ⟨cE BK110 0, cE BK110 1, cE BK110 2⟩ (fun hHeld => ?_)
    clear hK K
    refine nX (some 47) ?_
    refine one_ (i := 4) (N := some 49) #[true, true, true, true, true, false, false] rfl rfl (by kernel_rfl) (by decide) (fun K hK => ?_)
    refine Kd.R_lit_step k47 _ 47 ?hg (N := 49) ?hd (xs := ([(⟨wrap64 (Int.tmod a1_0 4), 1 + (((Int.tdiv a1_0 4) % 256) % 14), wrap64 (a1_1)⟩ : S47)] : List (S47))) (inner := [.int .i64 (wrap64 (Int.tmod a1_0 4)), .int .i64 (1 + (((Int.tdiv a1_0 4) % 256) % 14)), .int .i64 (wrap64 (a1_1))]) (ok := fun _ => True) (okp := fun _ => True) ?hr ?hp (fun _ hk => hk) trivial (Below.refl _ _) (Nat.le_refl _) (by simp) ?_; (case hd => rfl); (case hg => rfl); (case hr => first | (go_simp; done) | (go_simp; rfl)); (case hp => exact (Reps.c3 (show Kd.M k47 _ _ _ (⟨wrap64 (Int.tmod a1_0 4), 1 + (((Int.tdiv a1_0 4) % 256) % 14), wrap64 (a1_1)⟩ : S47) [.int .i64 (wrap64 (Int.tmod a1_0 4)), .int .i64 (1 + (((Int.tdiv a1_0 4) % 256) % 14)), .int .i64 (wrap64 (a1_1))] from (k47_mkM _ _ _ (⟨wrap64 (Int.tmod a1_0 4), 1 + (((Int.tdiv a1_0 4) % 256) % 14), wrap64 (a1_1)⟩ : S47) )) (Reps.none _ _)))
    intro v118 w39 ho40 hb hg_ hnew_
    clear hg_ hnew_
    (first | rw [← Ny117.out] at ho40 | (simp only [Int.reduceToNat] at ho40; rw [← Ny117.out] at ho40))
    have HO119 := aM (Kd.R_lower (Kd.R_newB (Kd.R_new' (Kd.R_new' ho40 (Kd.R_lt (rD HO109))) (Kd.R_lt (rD HO116))) (g := gb110) (o := .cells #[.int .i64 (wrap64 (Int.tmod a1_0 4)), .int .i64 (1 + (((Int.tdiv a1_0 4) % 256) % 14)), .int .i64 (wrap64 (a1_1))] 47 (0, 0)) (bD BK110)) (below_size (sD HB))); replace HO106 := rB HO106 hb; replace HO109 := aM (Kd.R_elder' (rD HO109) (Kd.R_base ho40) hb); replace HO116 := aM (Kd.R_elder' (rD HO116) (Kd.R_base ho40) hb); replace BK101 := bB BK101 hb; replace BK102 := bB BK102 hb; replace BK110 := bB BK110 hb; replace HB := sB HB hb; clear hb ho40
    refine hK.out _ _ ⟨cE BK110 0, cE BK110 1, cE BK110 2⟩ (fun hHeld => ?_)
    clear hK K
    refine nX (some 49) ?_
    exact nP (hCont (v112, v115, v118) _ ⟨hHeld, rD HO106, (rD ⟨Kd.R_mono HO109.out (fun _ hk => ⟨hk.1.2, ⟨hk.2, hk.1.1⟩⟩)⟩), (rD ⟨Kd.R_mono HO116.out (fun _ hk => ⟨hk.1.1, ⟨hk.2, hk.1.2⟩⟩)⟩), (rD ⟨Kd.R_mono HO119.out (fun _ hk => ⟨hk.1.1.2, ⟨hk.1.2, hk.2⟩⟩)⟩), bD BK101, bD BK102, bD BK110, sD HB⟩)
   refine Kd.R_lit_step k47 _ 47 ?hg (N := 49) ?hd (xs := ([(⟨wrap64 (Int.tmod a1_0 4), 1 + (((Int.tdiv a1_0 4) % 256) % 14), wrap64 (a1_1)⟩ : S47)] : List (S47))) (inner := [.int .i64 (wrap64 (Int.tmod a1_0 4)), .int .i64 (1 + (((Int.tdiv a1_0 4) % 256) % 14)), .int .i64 (wrap64 (a1_1))]) (ok := fun _ => True) (okp := fun _ => True) ?hr ?hp (fun _ hk => hk) trivial (Below.refl _ _) (Nat.le_refl _) (by simp) ?_; (case hd => rfl); (case hg => rfl); (case hr => first | (go_simp; done) | (go_simp; rfl)); (case hp => exact (Reps.c3 (show Kd.M k47 _ _ _ (⟨wrap64 (Int.tmod a1_0 4), 1 + (((Int.tdiv a1_0 4) % 256) % 14), wrap64 (a1_1)⟩ : S47) [.int .i64 (wrap64 (Int.tmod a1_0 4)), .int .i64 (1 + (((Int.tdiv a1_0 4) % 256) % 14)), .int .i64 (wrap64 (a1_1))] from (k47_mkM _ _ _ (⟨wrap64 (Int.tmod a1_0 4), 1 + (((Int.tdiv a1_0 4) % 256) % 14), wrap64 (a1_1)⟩ : S47) )) (Reps.none _ _)))
   intro v118 w38 ho39 hb hg_ hnew_
   clear hg_ hnew_
   (first | rw [← Ny117.out] at ho39 | (simp only [Int.reduceToNat] at ho39; rw [← Ny117.out] at ho39))
   have HO119 := aM (Kd.R_lower (Kd.R_newB (Kd.R_new' (Kd.R_new' ho39 (Kd.R_lt (rD HO109))) (Kd.R_lt (rD HO113))) (g := gb110) (o := .cells #[.int .i64 (wrap64 (Int.tmod a1_0 4)), .int .i64 (1 + (((Int.tdiv a1_0 4) % 256) % 14)), .int .i64 (wrap64 (a1_1))] 47 (0, 0)) (bD BK110)) (below_size (sD HB))); replace HO106 := rB HO106 hb; replace HO109 := aM (Kd.R_elder' (rD HO109) (Kd.R_base ho39) hb); replace HO113 := aM (Kd.R_elder' (rD HO113) (Kd.R_base ho39) hb); replace BK101 := bB BK101 hb; replace BK102 := bB BK102 hb; replace BK110 := bB BK110 hb; replace HB := sB HB hb; clear hb ho39
   refine hK.out _ _ ⟨cE BK110 0, cE BK110 1, cE BK110 2⟩ (fun hHeld => ?_)
   clear hK K
   refine nX (some 49) ?_
   refine one_ (i := 2) (N := some 47) #[true, true, true, true, true, false, false] rfl rfl (by kernel_rfl) (by decide) (fun K hK => ?_)
   refine Kd.R_append_rows_step k47 (w0 := w) w.heap.size (by rfl) (.tmp 45) (.tmp 46) 50 47 (.agg #[(.int .i64 0), (.int .i64 0), (.int .i64 0)]) 24 rfl Try.underlying50 info47 rfl (by decide) (by omega) v112 y111 t107 _ _ _ (fun k_ => some k_ ≠ (.slice Ao33 t107.length co33 : Value).ownBlock ∧ some k_ ≠ (v118 : Value).ownBlock ∧ k_ ≠ gb110) (fun _ => False) rfl rfl ?aO ?aR (fun _ _ h => h) (fun _ h => h.elim) ?aF ?aB ?aS ?aL ?_
   (case aR => repeat (first | exact (Kd.R_reads' HO109.out).2.2 | (with_reducible refine Kd.C_alloc ?_ _) | (with_reducible refine Kd.C_drewN ?_ _) | (with_reducible refine Kd.C_drew ?_)))
   (case aB => exact (sD HB))
   (case aF => exact (fun k_ hk => ⟨Kd.fresh' (Kd.R_lt (rD HO109)) k_ hk, Kd.fresh' (Kd.R_lt (rD HO119)) k_ hk, Kd.freshB (g := gb110) (o := .cells #[.int .i64 (wrap64 (Int.tmod a1_0 4)), .int .i64 (1 + (((Int.tdiv a1_0 4) % 256) % 14)), .int .i64 (wrap64 (a1_1))] 47 (0, 0)) (bD BK110) k_ hk⟩))
   (case aO => exact (rD ⟨Kd.R_mono HO113.out (fun _ hk => ⟨hk.1.1.2, ⟨hk.2, hk.1.2⟩⟩)⟩))
   (case aS => exact (below_size (sD HB)))
   (case aL => have := LMc8.out; omega)
   intro v115 w40 ho hb hg hat
   rw [← Ny114.out] at ho
   have HO116 := aM (ho); replace BK101 := aM (blk_grown (g := gb101) (o := .cells #[.slice A0_0 l0_0.length c0_0, .slice A0_1 l0_1.length c0_1, .int .u16 a0_2] 45 (0, 0)) (bD BK101) hg (Kd.R_ne HO113.out BK101.out (by decide))); replace BK102 := aM (blk_grown (g := gb102) (o := .cells #[.int .u8 a1_0, .int .u8 a1_1] 80 (0, 0)) (bD BK102) hg (Kd.R_ne HO113.out BK102.out (by decide))); replace HO106 := aM (Kd.R_over' (rD HO106) (Kd.R_typed (rD HO113)) (by decide) hg); replace HO109 := aM (Kd.R_after (ok := (fun k_ => some k_ ≠ (v118 : Value).ownBlock ∧ k_ ≠ gb110)) (rD ⟨Kd.R_mono HO109.out (fun _ hk => ⟨⟨hk.2, hk.1.1⟩, hk.1.2⟩)⟩) hg hat)
   replace BK110 := aM (blk_grown (g := gb110) (o := .cells #[.int .i64 (wrap64 (Int.tmod a1_0 4)), .int .i64 (1 + (((Int.tdiv a1_0 4) % 256) % 14)), .int .i64 (wrap64 (a1_1))] 47 (0, 0)) (bD BK110) hg (Kd.R_away HO113.out (fun _ hk => hk.1.2))); replace HO119 := aM (Kd.R_after (ok := (fun k_ => some k_ ≠ (.slice Ao33 t107.length co33 : Value).ownBlock ∧ k_ ≠ gb110)) (rD ⟨Kd.R_mono HO119.out (fun _ hk => ⟨⟨hk.1.1.2, hk.2⟩, hk.1.2⟩)⟩) hg hat); replace HB := aM (hb); clear HO113 ho hb hg hat
   refine hK.out _ _ ⟨cE BK110 0, cE BK110 1, cE BK110 2⟩ (fun hHeld => ?_)
   clear hK K
   refine nX (some 47) ?_
   exact nP (hCont (v112, v115, v118) _ ⟨hHeld, rD HO106, (rD ⟨Kd.R_mono HO109.out (fun _ hk => ⟨hk.2, ⟨hk.1.1, hk.1.2⟩⟩)⟩), rD HO116, (rD ⟨Kd.R_mono HO119.out (fun _ hk => ⟨hk.1.1, ⟨hk.2, hk.1.2⟩⟩)⟩), bD BK101, bD BK102, bD BK110, sD HB⟩)
  refine Kd.R_lit_step k47 _ 47 ?hg (N := 49) ?hd (xs := ([(⟨wrap64 (Int.tmod a1_0 4), 1 + (((Int.tdiv a1_0 4) % 256) % 14), wrap64 (a1_1)⟩ : S47)] : List (S47))) (inner := [.int .i64 (wrap64 (Int.tmod a1_0 4)), .int .i64 (1 + (((Int.tdiv a1_0 4) % 256) % 14)), .int .i64 (wrap64 (a1_1))]) (ok := fun _ => True) (okp := fun _ => True) ?hr ?hp (fun _ hk => hk) trivial (Below.refl _ _) (Nat.le_refl _) (by simp) ?_; (case hd => rfl); (case hg => rfl); (case hr => first | (go_simp; done) | (go_simp; rfl)); (case hp => exact (Reps.c3 (show Kd.M k47 _ _ _ (⟨wrap64 (Int.tmod a1_0 4), 1 + (((Int.tdiv a1_0 4) % 256) % 14), wrap64 (a1_1)⟩ : S47) [.int .i64 (wrap64 (Int.tmod a1_0 4)), .int .i64 (1 + (((Int.tdiv a1_0 4) % 256) % 14)), .int .i64 (wrap64 (a1_1))] from (k47_mkM _ _ _ (⟨wrap64 (Int.tmod a1_0 4), 1 + (((Int.tdiv a1_0 4) % 256) % 14), wrap64 (a1_1)⟩ : S47) )) (Reps.none _ _)))
  intro v118 w36 ho37 hb hg_ hnew_
  clear hg_ hnew_
  (first | rw [← Ny117.out] at ho37 | (simp only [Int.reduceToNat] at ho37; rw [← Ny117.out] at ho37))
  have HO119 := aM (Kd.R_lower (Kd.R_newB (Kd.R_new' ho37 (Kd.R_lt (rD HO109))) (g := gb110) (o := .cells #[.int .i64 (wrap64 (Int.tmod a1_0 4)), .int .i64 (1 + (((Int.tdiv a1_0 4) % 256) % 14)), .int .i64 (wrap64 (a1_1))] 47 (0, 0)) (bD BK110)) (below_size (sD HB))); replace HO106 := rB HO106 hb; replace HO109 := aM (Kd.R_elder' (rD HO109) (Kd.R_base ho37) hb); replace BK101 := bB BK101 hb; replace BK102 := bB BK102 hb; replace BK110 := bB BK110 hb; replace HB := sB HB hb; clear hb ho37
  refine hK.out _ _ ⟨cE BK110 0, cE BK110 1, cE BK110 2⟩ (fun hHeld => ?_)
  clear hK K
  refine nX (some 49) ?_
  refine one_ (i := 0) (N := some 45) #[true, true, false, true, true, false, false] rfl rfl (by kernel_rfl) (by decide) (fun K hK => ?_)
  refine Kd.R_lit_step k47 _ 47 ?hg (N := 45) ?hd (xs := ([] : List (S47))) (inner := []) (ok := fun _ => True) (okp := fun _ => True) ?hr ?hp (fun _ hk => hk) trivial (Below.refl _ _) (Nat.le_refl _) (by simp) ?_; (case hd => rfl); (case hg => rfl); (case hr => first | (go_simp; done) | (go_simp; rfl)); (case hp => exact (Reps.none _ _))
  intro v112 w38 ho39 hb hg_ hnew_
  clear hg_ hnew_
  (first | rw [← Ny111.out] at ho39 | (simp only [Int.reduceToNat] at ho39; rw [← Ny111.out] at ho39))
  have HO113 := aM (Kd.R_lower (Kd.R_newB (Kd.R_new' (Kd.R_new' ho39 (Kd.R_lt (rD HO109))) (Kd.R_lt (rD HO119))) (g := gb110) (o := .cells #[.int .i64 (wrap64 (Int.tmod a1_0 4)), .int .i64 (1 + (((Int.tdiv a1_0 4) % 256) % 14)), .int .i64 (wrap64 (a1_1))] 47 (0, 0)) (bD BK110)) (below_size (sD HB))); replace HO106 := rB HO106 hb; replace HO109 := aM (Kd.R_elder' (rD HO109) (Kd.R_base ho39) hb); replace HO119 := aM (Kd.R_elder' (rD HO119) (Kd.R_base ho39) hb); replace BK101 := bB BK101 hb; replace BK102 := bB BK102 hb; replace BK110 := bB BK110 hb; replace HB := sB HB hb; clear hb ho39
  refine hK.out _ _ ⟨cE BK110 0, cE BK110 1, cE BK110 2⟩ (fun hHeld => ?_)
  clear hK K
  refine nX (some 45) ?_
  refine one_ (i := 2) (N := some 47) #[true, true, true, true, true, false, false] rfl rfl (by kernel_rfl) (by decide) (fun K hK => ?_)
  refine Kd.R_append_rows_step k47 (w0 := w) w.heap.size (by rfl) (.tmp 45) (.tmp 46) 50 47 (.agg #[(.int .i64 0), (.int .i64 0), (.int .i64 0)]) 24 rfl Try.underlying50 info47 rfl (by decide) (by omega) v112 y111 t107 _ _ _ (fun k_ => some k_ ≠ (.slice Ao33 t107.length co33 : Value).ownBlock ∧ some k_ ≠ (v118 : Value).ownBlock ∧ k_ ≠ gb110) (fun _ => False) rfl rfl ?aO ?aR (fun _ _ h => h) (fun _ h => h.elim) ?aF ?aB ?aS ?aL ?_
  (case aR => repeat (first | exact (Kd.R_reads' HO109.out).2.2 | (with_reducible refine Kd.C_alloc ?_ _) | (with_reducible refine Kd.C_drewN ?_ _) | (with_reducible refine Kd.C_drew ?_)))
  (case aB => exact (sD HB))
  (case aF => exact (fun k_ hk => ⟨Kd.fresh' (Kd.R_lt (rD HO109)) k_ hk, Kd.fresh' (Kd.R_lt (rD HO119)) k_ hk, Kd.freshB (g := gb110) (o := .cells #[.int .i64 (wrap64 (Int.tmod a1_0 4)), .int .i64 (1 + (((Int.tdiv a1_0 4) % 256) % 14)), .int .i64 (wrap64 (a1_1))] 47 (0, 0)) (bD BK110) k_ hk⟩))
  (case aO => exact (rD ⟨Kd.R_mono HO113.out (fun _ hk => ⟨hk.1.1.2, ⟨hk.1.2, hk.2⟩⟩)⟩))
  (case aS => exact (below_size (sD HB)))
  (case aL => have := LMc8.out; omega)
  intro v115 w40 ho hb hg hat
  rw [← Ny114.out] at ho
  have HO116 := aM (ho); replace BK101 := aM (blk_grown (g := gb101) (o := .cells #[.slice A0_0 l0_0.length c0_0, .slice A0_1 l0_1.length c0_1, .int .u16 a0_2] 45 (0, 0)) (bD BK101) hg (Kd.R_ne HO113.out BK101.out (by decide))); replace BK102 := aM (blk_grown (g := gb102) (o := .cells #[.int .u8 a1_0, .int .u8 a1_1] 80 (0, 0)) (bD BK102) hg (Kd.R_ne HO113.out BK102.out (by decide))); replace HO106 := aM (Kd.R_over' (rD HO106) (Kd.R_typed (rD HO113)) (by decide) hg); replace HO109 := aM (Kd.R_after (ok := (fun k_ => some k_ ≠ (v118 : Value).ownBlock ∧ k_ ≠ gb110)) (rD ⟨Kd.R_mono HO109.out (fun _ hk => ⟨⟨hk.1.2, hk.1.1⟩, hk.2⟩)⟩) hg hat); replace BK110 := aM (blk_grown (g := gb110) (o := .cells #[.int .i64 (wrap64 (Int.tmod a1_0 4)), .int .i64 (1 + (((Int.tdiv a1_0 4) % 256) % 14)), .int .i64 (wrap64 (a1_1))] 47 (0, 0)) (bD BK110) hg (Kd.R_away HO113.out (fun _ hk => hk.2)))
  replace HO119 := aM (Kd.R_after (ok := (fun k_ => some k_ ≠ (.slice Ao33 t107.length co33 : Value).ownBlock ∧ k_ ≠ gb110)) (rD ⟨Kd.R_mono HO119.out (fun _ hk => ⟨⟨hk.1.1.2, hk.1.2⟩, hk.2⟩)⟩) hg hat); replace HB := aM (hb); clear HO113 ho hb hg hat
  refine hK.out _ _ ⟨cE BK110 0, cE BK110 1, cE BK110 2⟩ (fun hHeld => ?_)
  clear hK K
  refine nX (some 47) ?_
  exact nP (hCont (v112, v115, v118) _ ⟨hHeld, rD HO106, (rD ⟨Kd.R_mono HO109.out (fun _ hk => ⟨hk.2, ⟨hk.1.1, hk.1.2⟩⟩)⟩), rD HO116, (rD ⟨Kd.R_mono HO119.out (fun _ hk => ⟨hk.1.1, ⟨hk.2, hk.1.2⟩⟩)⟩), bD BK101, bD BK102, bD BK110, sD HB⟩)
 rintro ⟨v112, v115, v118⟩ w41 ⟨hS_, h0_, h1_, h2_, h3_, h4_, h5_, h6_, h7_⟩
 (try dsimp only at h0_ h1_ h2_ h3_ h4_ h5_ h6_ h7_)
 have HO116 := aM h2_; have HO119 := aM h3_; replace HO106 := aM h0_; replace HO109 := aM h1_; replace BK101 := aM h4_; replace BK102 := aM h5_; replace BK110 := aM h6_; replace HB := aM h7_; clear h0_ h1_ h2_ h3_ h4_ h5_ h6_ h7_
 (try dsimp only at hS_); have hHeld := hS_; clear hS_
 obtain ⟨Ao43, co43, eo43⟩ := Kd.R_slice HO119.out
 (first | subst eo43 | (injection eo43 with f1_ f2_ f3_; have f4_ := f1_.symm; have f5_ := f3_.symm; clear f1_ f2_ f3_; subst f4_; subst f5_))
 refine nQ ?_
 refine one_ (i := 5) (N := some 50) #[true, true, true, true, true, true, false] rfl rfl (by kernel_rfl) (by decide) (fun K hK => ?_)
 refine Kd.R_append_rows_step k47 (w0 := w) w.heap.size (by rfl) (.tmp 47) (.tmp 49) 50 47 (.agg #[(.int .i64 0), (.int .i64 0), (.int .i64 0)]) 24 rfl Try.underlying50 info47 rfl (by decide) (by omega) v115 y114 y117 _ _ _ (fun k_ => some k_ ≠ (.slice Ao33 t107.length co33 : Value).ownBlock ∧ some k_ ≠ (.slice Ao43 y117.length co43 : Value).ownBlock ∧ k_ ≠ gb110) (fun _ => False) rfl rfl ?aO ?aR (fun _ _ h => h) (fun _ h => h.elim) ?aF ?aB ?aS ?aL ?_
 (case aR => repeat (first | exact (Kd.R_reads' HO119.out).2.2 | (with_reducible refine Kd.C_alloc ?_ _) | (with_reducible refine Kd.C_drewN ?_ _) | (with_reducible refine Kd.C_drew ?_)))
 (case aB => exact (sD HB))
 (case aF => exact (fun k_ hk => ⟨Kd.fresh' (Kd.R_lt (rD HO109)) k_ hk, Kd.fresh' (Kd.R_lt (rD HO119)) k_ hk, Kd.freshB (g := gb110) (o := .cells #[.int .i64 (wrap64 (Int.tmod a1_0 4)), .int .i64 (1 + (((Int.tdiv a1_0 4) % 256) % 14)), .int .i64 (wrap64 (a1_1))] 47 (0, 0)) (bD BK110) k_ hk⟩))
 (case aO => exact (rD HO116))
 (case aS => exact (below_size (sD HB)))
 (case aL => have := LMc9.out; omega)
 intro v121 w42 ho hb hg hat
 rw [← Ny120.out] at ho
 have HO122 := aM (ho); replace BK101 := aM (blk_grown (g := gb101) (o := .cells #[.slice A0_0 l0_0.length c0_0, .slice A0_1 l0_1.length c0_1, .int .u16 a0_2] 45 (0, 0)) (bD BK101) hg (Kd.R_ne HO116.out BK101.out (by decide))); replace BK102 := aM (blk_grown (g := gb102) (o := .cells #[.int .u8 a1_0, .int .u8 a1_1] 80 (0, 0)) (bD BK102) hg (Kd.R_ne HO116.out BK102.out (by decide))); replace HO106 := aM (Kd.R_over' (rD HO106) (Kd.R_typed (rD HO116)) (by decide) hg); replace HO109 := aM (Kd.R_after (ok := (fun k_ => some k_ ≠ (.slice Ao43 y117.length co43 : Value).ownBlock ∧ k_ ≠ gb110)) (rD ⟨Kd.R_mono HO109.out (fun _ hk => ⟨⟨hk.2.1, hk.2.2⟩, hk.1⟩)⟩) hg hat)
 replace BK110 := aM (blk_grown (g := gb110) (o := .cells #[.int .i64 (wrap64 (Int.tmod a1_0 4)), .int .i64 (1 + (((Int.tdiv a1_0 4) % 256) % 14)), .int .i64 (wrap64 (a1_1))] 47 (0, 0)) (bD BK110) hg (Kd.R_away HO116.out (fun _ hk => hk.2.2))); replace HO119 := aM (Kd.R_after (ok := (fun k_ => some k_ ≠ (.slice Ao33 t107.length co33 : Value).ownBlock ∧ k_ ≠ gb110)) (rD ⟨Kd.R_mono HO119.out (fun _ hk => ⟨⟨hk.1, hk.2.2⟩, hk.2.1⟩)⟩) hg hat); replace HB := aM (hb); clear HO116 ho hb hg hat
 refine hK.out _ _ ⟨cE BK110 0, cE BK110 1, cE BK110 2⟩ (fun hHeld => ?_)
 clear hK K
 refine nX (some 50) ?_
 refine pure_ (i := 6) (N := some 12) (v := ?_) (a' := ?_) #[true, true, true, true, true, true, true] rfl rfl (by kernel_rfl) (fun _ _ _ h => h) (Or.inl ⟨by rfl, ?_⟩) ?_ ?_
 rotate_left
 ·intro w'
  go_simp
  with_reducible rfl
 rotate_left
 ·simp only [Act.put, List.setIfInBounds_toArray, List.set_cons_zero, List.set_cons_succ, i64_w, i32_w]
  rfl
 refine done_ (by kernel_rfl) ?_
 obtain ⟨Ao44, co44, eo44⟩ := Kd.R_slice HO106.out
 subst eo44
 obtain ⟨Ao45, co45, eo45⟩ := Kd.R_slice HO122.out
 subst eo45
 try go_wp2
 replace HO106 := aM (Kd.R_drew HO106.out); replace HO109 := aM (Kd.R_drew HO109.out); replace HO119 := aM (Kd.R_drew HO119.out); replace HO122 := aM (Kd.R_drew HO122.out); replace BK101 := aM (blk_drew BK101.out); replace BK102 := aM (blk_drew BK102.out); replace BK110 := aM (blk_drew BK110.out); replace HB := aM (below_drew1 HB.out)
 refine start_ (n := 19) (S := fun w' => w'.cell? ⟨gb110, 0, none⟩ = some (.int .i64 (wrap64 (Int.tmod a1_0 4))) ∧ w'.cell? ⟨gb110, 1, none⟩ = some (.int .i64 (1 + (((Int.tdiv a1_0 4) % 256) % 14))) ∧ w'.cell? ⟨gb110, 2, none⟩ = some (.int .i64 (wrap64 (a1_1)))) (ds := []) #[false, false, false, false, false, false, false, false, false, false, false, false, false, false, false, false, false, false, false] (by kernel_rfl) rfl rfl ⟨cE BK110 0, cE BK110 1, cE BK110 2⟩ (fun hHeld => ?_); refine with_tabW parolelaw42_PriceBondsA.tab8 parolelaw42_PriceBondsA.bits8 (fun HT_ HW_ => ?_)
 generalize w42.drew = w46 at HO106 HO109 HO119 HO122 BK101 BK102 BK110 HB hHeld ⊢
 refine pX (i := 0) (N := some 54) rfl rfl HT_ ?_
 refine pX (i := 1) (N := some 55) rfl rfl HT_ ?_
 refine pX (i := 2) (N := some 56) rfl rfl HT_ ?_
 refine pX (i := 3) (N := some 57) rfl rfl HT_ ?_
 refine pX (i := 5) (N := some 59) rfl rfl HT_ ?_
 refine pX (i := 6) (N := some 60) rfl rfl HT_ ?_
 refine pX (i := 7) (N := some 61) rfl rfl HT_ ?_
 refine pX (i := 8) (N := some 62) rfl rfl HT_ ?_
 refine pX (i := 10) (N := some 64) rfl rfl HT_ ?_
 refine tX (i := 11) (N := some 65) rfl rfl HT_ HW_ hHeld (Or.inl ⟨by rfl, by rintro w' ⟨s0, s1, s2⟩; go_simp; with_reducible rfl⟩) ?_
 refine join_ (σ := Nat × Nat × Nat) 3 #[true, true, true, true, true, true, true, true, true, true, true, true, true, true, true, true, false, false, false] (fun s_ => [(58, .agg #[.int .i64 t123, .int .i64 t124, .int .i64 t125]), (63, .agg #[.int .i64 t126, .int .i64 t127, .int .i64 t128]), (66, .agg #[.int .i64 t129, .int .i64 t130, .int .i64 t131]), (14, .pointer (some ⟨s_.1, 0, none⟩)), (15, .pointer (some ⟨s_.2.1, 0, none⟩)), (16, .pointer (some ⟨s_.2.2, 0, none⟩))]) (fun s_ w' => (w'.cell? ⟨gb110, 0, none⟩ = some (.int .i64 (wrap64 (Int.tmod a1_0 4))) ∧ w'.cell? ⟨gb110, 1, none⟩ = some (.int .i64 (1 + (((Int.tdiv a1_0 4) % 256) % 14))) ∧ w'.cell? ⟨gb110, 2, none⟩ = some (.int .i64 (wrap64 (a1_1)))) ∧ (Kd.R k71 71 w' w.heap.size (fun _ => True) (.slice Ao44 t104.length co44) t104) ∧ (Kd.R k47 47 w' w.heap.size (fun k_ => some k_ ≠ (.slice Ao43 y117.length co43 : Value).ownBlock ∧ some k_ ≠ (.slice Ao45 y120.length co45 : Value).ownBlock ∧ k_ ≠ gb110) (.slice Ao33 t107.length co33) t107) ∧ (Kd.R k47 47 w' w.heap.size (fun k_ => some k_ ≠ (.slice Ao33 t107.length co33 : Value).ownBlock ∧ some k_ ≠ (.slice Ao45 y120.length co45 : Value).ownBlock ∧ k_ ≠ gb110) (.slice Ao43 y117.length co43) y117) ∧ (Kd.R k47 47 w' w.heap.size (fun k_ => some k_ ≠ (.slice Ao33 t107.length co33 : Value).ownBlock ∧ some k_ ≠ (.slice Ao43 y117.length co43 : Value).ownBlock ∧ k_ ≠ gb110) (.slice Ao45 y120.length co45) y120) ∧ (w'.heap[gb101]? = some (.cells #[.slice A0_0 l0_0.length c0_0, .slice A0_1 l0_1.length c0_1, .int .u16 a0_2] 45 (0, 0))) ∧ (w'.heap[gb102]? = some (.cells #[.int .u8 a1_0, .int .u8 a1_1] 80 (0, 0))) ∧ (w'.heap[gb110]? = some (.cells #[.int .i64 (wrap64 (Int.tmod a1_0 4)), .int .i64 (1 + (((Int.tdiv a1_0 4) % 256) % 14)), .int .i64 (wrap64 (a1_1))] 47 (0, 0))) ∧ (w'.heap[s_.1]? = some (.cells #[.int .i64 0, .int .i64 0, .int .i64 0] 38 (0, 0))) ∧ (w'.heap[s_.2.1]? = some (.cells #[.int .i64 0, .int .i64 0, .int .i64 0] 38 (0, 0))) ∧ (w'.heap[s_.2.2]? = some (.cells #[.int .i64 0, .int .i64 0, .int .i64 0] 38 (0, 0))) ∧ (w.heap.size ≤ s_.1) ∧ (w.heap.size ≤ s_.1) ∧ (gb101 ≠ s_.1) ∧ (gb102 ≠ s_.1) ∧ (gb110 ≠ s_.1) ∧ (s_.1 ≠ s_.2.1) ∧ (s_.1 ≠ s_.2.2) ∧ (w.heap.size ≤ s_.2.1) ∧ (w.heap.size ≤ s_.2.1) ∧ (gb101 ≠ s_.2.1) ∧ (gb102 ≠ s_.2.1) ∧ (gb110 ≠ s_.2.1) ∧ (s_.2.1 ≠ s_.2.2) ∧ (w.heap.size ≤ s_.2.2) ∧ (w.heap.size ≤ s_.2.2) ∧ (gb101 ≠ s_.2.2) ∧ (gb102 ≠ s_.2.2) ∧ (gb110 ≠ s_.2.2) ∧ (Below w.heap.size w w')) ?_ ?_
 rotate_left
 ·intro hJ4_9_12_13_14_15
  refine join_ (σ := Nat × Nat) 4 #[true, true, true, true, true, true, true, true, true, true, true, true, true, true, true, false, false, false, false] (fun s_ => [(58, .agg #[.int .i64 t123, .int .i64 t124, .int .i64 t125]), (63, .agg #[.int .i64 t126, .int .i64 t127, .int .i64 t128]), (66, .agg #[.int .i64 t129, .int .i64 t130, .int .i64 t131]), (14, .pointer (some ⟨s_.1, 0, none⟩)), (15, .pointer (some ⟨s_.2, 0, none⟩))]) (fun s_ w' => (w'.cell? ⟨gb110, 0, none⟩ = some (.int .i64 (wrap64 (Int.tmod a1_0 4))) ∧ w'.cell? ⟨gb110, 1, none⟩ = some (.int .i64 (1 + (((Int.tdiv a1_0 4) % 256) % 14))) ∧ w'.cell? ⟨gb110, 2, none⟩ = some (.int .i64 (wrap64 (a1_1)))) ∧ (Kd.R k71 71 w' w.heap.size (fun _ => True) (.slice Ao44 t104.length co44) t104) ∧ (Kd.R k47 47 w' w.heap.size (fun k_ => some k_ ≠ (.slice Ao43 y117.length co43 : Value).ownBlock ∧ some k_ ≠ (.slice Ao45 y120.length co45 : Value).ownBlock ∧ k_ ≠ gb110) (.slice Ao33 t107.length co33) t107) ∧ (Kd.R k47 47 w' w.heap.size (fun k_ => some k_ ≠ (.slice Ao33 t107.length co33 : Value).ownBlock ∧ some k_ ≠ (.slice Ao45 y120.length co45 : Value).ownBlock ∧ k_ ≠ gb110) (.slice Ao43 y117.length co43) y117) ∧ (Kd.R k47 47 w' w.heap.size (fun k_ => some k_ ≠ (.slice Ao33 t107.length co33 : Value).ownBlock ∧ some k_ ≠ (.slice Ao43 y117.length co43 : Value).ownBlock ∧ k_ ≠ gb110) (.slice Ao45 y120.length co45) y120) ∧ (w'.heap[gb101]? = some (.cells #[.slice A0_0 l0_0.length c0_0, .slice A0_1 l0_1.length c0_1, .int .u16 a0_2] 45 (0, 0))) ∧ (w'.heap[gb102]? = some (.cells #[.int .u8 a1_0, .int .u8 a1_1] 80 (0, 0))) ∧ (w'.heap[gb110]? = some (.cells #[.int .i64 (wrap64 (Int.tmod a1_0 4)), .int .i64 (1 + (((Int.tdiv a1_0 4) % 256) % 14)), .int .i64 (wrap64 (a1_1))] 47 (0, 0))) ∧ (w'.heap[s_.1]? = some (.cells #[.int .i64 0, .int .i64 0, .int .i64 0] 38 (0, 0))) ∧ (w'.heap[s_.2]? = some (.cells #[.int .i64 0, .int .i64 0, .int .i64 0] 38 (0, 0))) ∧ (w.heap.size ≤ s_.1) ∧ (w.heap.size ≤ s_.1) ∧ (gb101 ≠ s_.1) ∧ (gb102 ≠ s_.1) ∧ (gb110 ≠ s_.1) ∧ (s_.1 ≠ s_.2) ∧ (w.heap.size ≤ s_.2) ∧ (w.heap.size ≤ s_.2) ∧ (gb101 ≠ s_.2) ∧ (gb102 ≠ s_.2) ∧ (gb110 ≠ s_.2) ∧ (Below w.heap.size w w')) ?_ ?_
  rotate_left
  ·intro hJ4_9_12_13_14
   refine join_ (σ := Nat × Nat) 4 #[true, true, true, true, true, true, true, true, true, true, true, true, true, true, false, true, false, false, false] (fun s_ => [(58, .agg #[.int .i64 t123, .int .i64 t124, .int .i64 t125]), (63, .agg #[.int .i64 t126, .int .i64 t127, .int .i64 t128]), (66, .agg #[.int .i64 t129, .int .i64 t130, .int .i64 t131]), (14, .pointer (some ⟨s_.1, 0, none⟩)), (16, .pointer (some ⟨s_.2, 0, none⟩))]) (fun s_ w' => (w'.cell? ⟨gb110, 0, none⟩ = some (.int .i64 (wrap64 (Int.tmod a1_0 4))) ∧ w'.cell? ⟨gb110, 1, none⟩ = some (.int .i64 (1 + (((Int.tdiv a1_0 4) % 256) % 14))) ∧ w'.cell? ⟨gb110, 2, none⟩ = some (.int .i64 (wrap64 (a1_1)))) ∧ (Kd.R k71 71 w' w.heap.size (fun _ => True) (.slice Ao44 t104.length co44) t104) ∧ (Kd.R k47 47 w' w.heap.size (fun k_ => some k_ ≠ (.slice Ao43 y117.length co43 : Value).ownBlock ∧ some k_ ≠ (.slice Ao45 y120.length co45 : Value).ownBlock ∧ k_ ≠ gb110) (.slice Ao33 t107.length co33) t107) ∧ (Kd.R k47 47 w' w.heap.size (fun k_ => some k_ ≠ (.slice Ao33 t107.length co33 : Value).ownBlock ∧ some k_ ≠ (.slice Ao45 y120.length co45 : Value).ownBlock ∧ k_ ≠ gb110) (.slice Ao43 y117.length co43) y117) ∧ (Kd.R k47 47 w' w.heap.size (fun k_ => some k_ ≠ (.slice Ao33 t107.length co33 : Value).ownBlock ∧ some k_ ≠ (.slice Ao43 y117.length co43 : Value).ownBlock ∧ k_ ≠ gb110) (.slice Ao45 y120.length co45) y120) ∧ (w'.heap[gb101]? = some (.cells #[.slice A0_0 l0_0.length c0_0, .slice A0_1 l0_1.length c0_1, .int .u16 a0_2] 45 (0, 0))) ∧ (w'.heap[gb102]? = some (.cells #[.int .u8 a1_0, .int .u8 a1_1] 80 (0, 0))) ∧ (w'.heap[gb110]? = some (.cells #[.int .i64 (wrap64 (Int.tmod a1_0 4)), .int .i64 (1 + (((Int.tdiv a1_0 4) % 256) % 14)), .int .i64 (wrap64 (a1_1))] 47 (0, 0))) ∧ (w'.heap[s_.1]? = some (.cells #[.int .i64 0, .int .i64 0, .int .i64 0] 38 (0, 0))) ∧ (w'.heap[s_.2]? = some (.cells #[.int .i64 0, .int .i64 0, .int .i64 0] 38 (0, 0))) ∧ (w.heap.size ≤ s_.1) ∧ (w.heap.size ≤ s_.1) ∧ (gb101 ≠ s_.1) ∧ (gb102 ≠ s_.1) ∧ (gb110 ≠ s_.1) ∧ (s_.1 ≠ s_.2) ∧ (w.heap.size ≤ s_.2) ∧ (w.heap.size ≤ s_.2) ∧ (gb101 ≠ s_.2) ∧ (gb102 ≠ s_.2) ∧ (gb110 ≠ s_.2) ∧ (Below w.heap.size w w')) ?_ ?_
   rotate_left
   ·intro hJ4_9_12_13_15
    refine join_ (σ := Nat × Nat) 4 #[true, true, true, true, true, true, true, true, true, true, true, true, true, false, true, true, false, false, false] (fun s_ => [(58, .agg #[.int .i64 t123, .int .i64 t124, .int .i64 t125]), (63, .agg #[.int .i64 t126, .int .i64 t127, .int .i64 t128]), (66, .agg #[.int .i64 t129, .int .i64 t130, .int .i64 t131]), (15, .pointer (some ⟨s_.1, 0, none⟩)), (16, .pointer (some ⟨s_.2, 0, none⟩))]) (fun s_ w' => (w'.cell? ⟨gb110, 0, none⟩ = some (.int .i64 (wrap64 (Int.tmod a1_0 4))) ∧ w'.cell? ⟨gb110, 1, none⟩ = some (.int .i64 (1 + (((Int.tdiv a1_0 4) % 256) % 14))) ∧ w'.cell? ⟨gb110, 2, none⟩ = some (.int .i64 (wrap64 (a1_1)))) ∧ (Kd.R k71 71 w' w.heap.size (fun _ => True) (.slice Ao44 t104.length co44) t104) ∧ (Kd.R k47 47 w' w.heap.size (fun k_ => some k_ ≠ (.slice Ao43 y117.length co43 : Value).ownBlock ∧ some k_ ≠ (.slice Ao45 y120.length co45 : Value).ownBlock ∧ k_ ≠ gb110) (.slice Ao33 t107.length co33) t107) ∧ (Kd.R k47 47 w' w.heap.size (fun k_ => some k_ ≠ (.slice Ao33 t107.length co33 : Value).ownBlock ∧ some k_ ≠ (.slice Ao45 y120.length co45 : Value).ownBlock ∧ k_ ≠ gb110) (.slice Ao43 y117.length co43) y117) ∧ (Kd.R k47 47 w' w.heap.size (fun k_ => some k_ ≠ (.slice Ao33 t107.length co33 : Value).ownBlock ∧ some k_ ≠ (.slice Ao43 y117.length co43 : Value).ownBlock ∧ k_ ≠ gb110) (.slice Ao45 y120.length co45) y120) ∧ (w'.heap[gb101]? = some (.cells #[.slice A0_0 l0_0.length c0_0, .slice A0_1 l0_1.length c0_1, .int .u16 a0_2] 45 (0, 0))) ∧ (w'.heap[gb102]? = some (.cells #[.int .u8 a1_0, .int .u8 a1_1] 80 (0, 0))) ∧ (w'.heap[gb110]? = some (.cells #[.int .i64 (wrap64 (Int.tmod a1_0 4)), .int .i64 (1 + (((Int.tdiv a1_0 4) % 256) % 14)), .int .i64 (wrap64 (a1_1))] 47 (0, 0))) ∧ (w'.heap[s_.1]? = some (.cells #[.int .i64 0, .int .i64 0, .int .i64 0] 38 (0, 0))) ∧ (w'.heap[s_.2]? = some (.cells #[.int .i64 0, .int .i64 0, .int .i64 0] 38 (0, 0))) ∧ (w.heap.size ≤ s_.1) ∧ (w.heap.size ≤ s_.1) ∧ (gb101 ≠ s_.1) ∧ (gb102 ≠ s_.1) ∧ (gb110 ≠ s_.1) ∧ (s_.1 ≠ s_.2) ∧ (w.heap.size ≤ s_.2) ∧ (w.heap.size ≤ s_.2) ∧ (gb101 ≠ s_.2) ∧ (gb102 ≠ s_.2) ∧ (gb110 ≠ s_.2) ∧ (Below w.heap.size w w')) ?_ ?_
    rotate_left
    ·intro hJ4_9_12_14_15
     refine join_ (σ := Nat × Nat × Nat) 4 #[true, true, true, true, true, true, true, true, true, true, true, true, false, true, true, true, false, false, false] (fun s_ => [(58, .agg #[.int .i64 t123, .int .i64 t124, .int .i64 t125]), (63, .agg #[.int .i64 t126, .int .i64 t127, .int .i64 t128]), (14, .pointer (some ⟨s_.1, 0, none⟩)), (15, .pointer (some ⟨s_.2.1, 0, none⟩)), (16, .pointer (some ⟨s_.2.2, 0, none⟩))]) (fun s_ w' => (w'.cell? ⟨gb110, 0, none⟩ = some (.int .i64 (wrap64 (Int.tmod a1_0 4))) ∧ w'.cell? ⟨gb110, 1, none⟩ = some (.int .i64 (1 + (((Int.tdiv a1_0 4) % 256) % 14))) ∧ w'.cell? ⟨gb110, 2, none⟩ = some (.int .i64 (wrap64 (a1_1)))) ∧ (Kd.R k71 71 w' w.heap.size (fun _ => True) (.slice Ao44 t104.length co44) t104) ∧ (Kd.R k47 47 w' w.heap.size (fun k_ => some k_ ≠ (.slice Ao43 y117.length co43 : Value).ownBlock ∧ some k_ ≠ (.slice Ao45 y120.length co45 : Value).ownBlock ∧ k_ ≠ gb110) (.slice Ao33 t107.length co33) t107) ∧ (Kd.R k47 47 w' w.heap.size (fun k_ => some k_ ≠ (.slice Ao33 t107.length co33 : Value).ownBlock ∧ some k_ ≠ (.slice Ao45 y120.length co45 : Value).ownBlock ∧ k_ ≠ gb110) (.slice Ao43 y117.length co43) y117) ∧ (Kd.R k47 47 w' w.heap.size (fun k_ => some k_ ≠ (.slice Ao33 t107.length co33 : Value).ownBlock ∧ some k_ ≠ (.slice Ao43 y117.length co43 : Value).ownBlock ∧ k_ ≠ gb110) (.slice Ao45 y120.length co45) y120) ∧ (w'.heap[gb101]? = some (.cells #[.slice A0_0 l0_0.length c0_0, .slice A0_1 l0_1.length c0_1, .int .u16 a0_2] 45 (0, 0))) ∧ (w'.heap[gb102]? = some (.cells #[.int .u8 a1_0, .int .u8 a1_1] 80 (0, 0))) ∧ (w'.heap[gb110]? = some (.cells #[.int .i64 (wrap64 (Int.tmod a1_0 4)), .int .i64 (1 + (((Int.tdiv a1_0 4) % 256) % 14)), .int .i64 (wrap64 (a1_1))] 47 (0, 0))) ∧ (w'.heap[s_.1]? = some (.cells #[.int .i64 0, .int .i64 0, .int .i64 0] 38 (0, 0))) ∧ (w'.heap[s_.2.1]? = some (.cells #[.int .i64 0, .int .i64 0, .int .i64 0] 38 (0, 0))) ∧ (w'.heap[s_.2.2]? = some (.cells #[.int .i64 0, .int .i64 0, .int .i64 0] 38 (0, 0))) ∧ (w.heap.size ≤ s_.1) ∧ (w.heap.size ≤ s_.1) ∧ (gb101 ≠ s_.1) ∧ (gb102 ≠ s_.1) ∧ (gb110 ≠ s_.1) ∧ (s_.1 ≠ s_.2.1) ∧ (s_.1 ≠ s_.2.2) ∧ (w.heap.size ≤ s_.2.1) ∧ (w.heap.size ≤ s_.2.1) ∧ (gb101 ≠ s_.2.1) ∧ (gb102 ≠ s_.2.1) ∧ (gb110 ≠ s_.2.1) ∧ (s_.2.1 ≠ s_.2.2) ∧ (w.heap.size ≤ s_.2.2) ∧ (w.heap.size ≤ s_.2.2) ∧ (gb101 ≠ s_.2.2) ∧ (gb102 ≠ s_.2.2) ∧ (gb110 ≠ s_.2.2) ∧ (Below w.heap.size w w')) ?_ ?_
     rotate_left
     ·intro hJ4_9_13_14_15
      refine join_ (σ := Nat) 5 #[true, true, true, true, true, true, true, true, true, true, true, true, true, true, false, false, false, false, false] (fun s_ => [(58, .agg #[.int .i64 t123, .int .i64 t124, .int .i64 t125]), (63, .agg #[.int .i64 t126, .int .i64 t127, .int .i64 t128]), (66, .agg #[.int .i64 t129, .int .i64 t130, .int .i64 t131]), (14, .pointer (some ⟨s_, 0, none⟩))]) (fun s_ w' => (w'.cell? ⟨gb110, 0, none⟩ = some (.int .i64 (wrap64 (Int.tmod a1_0 4))) ∧ w'.cell? ⟨gb110, 1, none⟩ = some (.int .i64 (1 + (((Int.tdiv a1_0 4) % 256) % 14))) ∧ w'.cell? ⟨gb110, 2, none⟩ = some (.int .i64 (wrap64 (a1_1)))) ∧ (Kd.R k71 71 w' w.heap.size (fun _ => True) (.slice Ao44 t104.length co44) t104) ∧ (Kd.R k47 47 w' w.heap.size (fun k_ => some k_ ≠ (.slice Ao43 y117.length co43 : Value).ownBlock ∧ some k_ ≠ (.slice Ao45 y120.length co45 : Value).ownBlock ∧ k_ ≠ gb110) (.slice Ao33 t107.length co33) t107) ∧ (Kd.R k47 47 w' w.heap.size (fun k_ => some k_ ≠ (.slice Ao33 t107.length co33 : Value).ownBlock ∧ some k_ ≠ (.slice Ao45 y120.length co45 : Value).ownBlock ∧ k_ ≠ gb110) (.slice Ao43 y117.length co43) y117) ∧ (Kd.R k47 47 w' w.heap.size (fun k_ => some k_ ≠ (.slice Ao33 t107.length co33 : Value).ownBlock ∧ some k_ ≠ (.slice Ao43 y117.length co43 : Value).ownBlock ∧ k_ ≠ gb110) (.slice Ao45 y120.length co45) y120) ∧ (w'.heap[gb101]? = some (.cells #[.slice A0_0 l0_0.length c0_0, .slice A0_1 l0_1.length c0_1, .int .u16 a0_2] 45 (0, 0))) ∧ (w'.heap[gb102]? = some (.cells #[.int .u8 a1_0, .int .u8 a1_1] 80 (0, 0))) ∧ (w'.heap[gb110]? = some (.cells #[.int .i64 (wrap64 (Int.tmod a1_0 4)), .int .i64 (1 + (((Int.tdiv a1_0 4) % 256) % 14)), .int .i64 (wrap64 (a1_1))] 47 (0, 0))) ∧ (w'.heap[s_]? = some (.cells #[.int .i64 0, .int .i64 0, .int .i64 0] 38 (0, 0))) ∧ (w.heap.size ≤ s_) ∧ (w.heap.size ≤ s_) ∧ (gb101 ≠ s_) ∧ (gb102 ≠ s_) ∧ (gb110 ≠ s_) ∧ (Below w.heap.size w w')) ?_ ?_
      rotate_left
      ·intro hJ4_9_12_13
       refine join_ (σ := Nat) 5 #[true, true, true, true, true, true, true, true, true, true, true, true, true, false, true, false, false, false, false] (fun s_ => [(58, .agg #[.int .i64 t123, .int .i64 t124, .int .i64 t125]), (63, .agg #[.int .i64 t126, .int .i64 t127, .int .i64 t128]), (66, .agg #[.int .i64 t129, .int .i64 t130, .int .i64 t131]), (15, .pointer (some ⟨s_, 0, none⟩))]) (fun s_ w' => (w'.cell? ⟨gb110, 0, none⟩ = some (.int .i64 (wrap64 (Int.tmod a1_0 4))) ∧ w'.cell? ⟨gb110, 1, none⟩ = some (.int .i64 (1 + (((Int.tdiv a1_0 4) % 256) % 14))) ∧ w'.cell? ⟨gb110, 2, none⟩ = some (.int .i64 (wrap64 (a1_1)))) ∧ (Kd.R k71 71 w' w.heap.size (fun _ => True) (.slice Ao44 t104.length co44) t104) ∧ (Kd.R k47 47 w' w.heap.size (fun k_ => some k_ ≠ (.slice Ao43 y117.length co43 : Value).ownBlock ∧ some k_ ≠ (.slice Ao45 y120.length co45 : Value).ownBlock ∧ k_ ≠ gb110) (.slice Ao33 t107.length co33) t107) ∧ (Kd.R k47 47 w' w.heap.size (fun k_ => some k_ ≠ (.slice Ao33 t107.length co33 : Value).ownBlock ∧ some k_ ≠ (.slice Ao45 y120.length co45 : Value).ownBlock ∧ k_ ≠ gb110) (.slice Ao43 y117.length co43) y117) ∧ (Kd.R k47 47 w' w.heap.size (fun k_ => some k_ ≠ (.slice Ao33 t107.length co33 : Value).ownBlock ∧ some k_ ≠ (.slice Ao43 y117.length co43 : Value).ownBlock ∧ k_ ≠ gb110) (.slice Ao45 y120.length co45) y120) ∧ (w'.heap[gb101]? = some (.cells #[.slice A0_0 l0_0.length c0_0, .slice A0_1 l0_1.length c0_1, .int .u16 a0_2] 45 (0, 0))) ∧ (w'.heap[gb102]? = some (.cells #[.int .u8 a1_0, .int .u8 a1_1] 80 (0, 0))) ∧ (w'.heap[gb110]? = some (.cells #[.int .i64 (wrap64 (Int.tmod a1_0 4)), .int .i64 (1 + (((Int.tdiv a1_0 4) % 256) % 14)), .int .i64 (wrap64 (a1_1))] 47 (0, 0))) ∧ (w'.heap[s_]? = some (.cells #[.int .i64 0, .int .i64 0, .int .i64 0] 38 (0, 0))) ∧ (w.heap.size ≤ s_) ∧ (w.heap.size ≤ s_) ∧ (gb101 ≠ s_) ∧ (gb102 ≠ s_) ∧ (gb110 ≠ s_) ∧ (Below w.heap.size w w')) ?_ ?_
       rotate_left
       ·intro hJ4_9_12_14
        refine join_ (σ := Nat) 5 #[true, true, true, true, true, true, true, true, true, true, true, true, true, false, false, true, false, false, false] (fun s_ => [(58, .agg #[.int .i64 t123, .int .i64 t124, .int .i64 t125]), (63, .agg #[.int .i64 t126, .int .i64 t127, .int .i64 t128]), (66, .agg #[.int .i64 t129, .int .i64 t130, .int .i64 t131]), (16, .pointer (some ⟨s_, 0, none⟩))]) (fun s_ w' => (w'.cell? ⟨gb110, 0, none⟩ = some (.int .i64 (wrap64 (Int.tmod a1_0 4))) ∧ w'.cell? ⟨gb110, 1, none⟩ = some (.int .i64 (1 + (((Int.tdiv a1_0 4) % 256) % 14))) ∧ w'.cell? ⟨gb110, 2, none⟩ = some (.int .i64 (wrap64 (a1_1)))) ∧ (Kd.R k71 71 w' w.heap.size (fun _ => True) (.slice Ao44 t104.length co44) t104) ∧ (Kd.R k47 47 w' w.heap.size (fun k_ => some k_ ≠ (.slice Ao43 y117.length co43 : Value).ownBlock ∧ some k_ ≠ (.slice Ao45 y120.length co45 : Value).ownBlock ∧ k_ ≠ gb110) (.slice Ao33 t107.length co33) t107) ∧ (Kd.R k47 47 w' w.heap.size (fun k_ => some k_ ≠ (.slice Ao33 t107.length co33 : Value).ownBlock ∧ some k_ ≠ (.slice Ao45 y120.length co45 : Value).ownBlock ∧ k_ ≠ gb110) (.slice Ao43 y117.length co43) y117) ∧ (Kd.R k47 47 w' w.heap.size (fun k_ => some k_ ≠ (.slice Ao33 t107.length co33 : Value).ownBlock ∧ some k_ ≠ (.slice Ao43 y117.length co43 : Value).ownBlock ∧ k_ ≠ gb110) (.slice Ao45 y120.length co45) y120) ∧ (w'.heap[gb101]? = some (.cells #[.slice A0_0 l0_0.length c0_0, .slice A0_1 l0_1.length c0_1, .int .u16 a0_2] 45 (0, 0))) ∧ (w'.heap[gb102]? = some (.cells #[.int .u8 a1_0, .int .u8 a1_1] 80 (0, 0))) ∧ (w'.heap[gb110]? = some (.cells #[.int .i64 (wrap64 (Int.tmod a1_0 4)), .int .i64 (1 + (((Int.tdiv a1_0 4) % 256) % 14)), .int .i64 (wrap64 (a1_1))] 47 (0, 0))) ∧ (w'.heap[s_]? = some (.cells #[.int .i64 0, .int .i64 0, .int .i64 0] 38 (0, 0))) ∧ (w.heap.size ≤ s_) ∧ (w.heap.size ≤ s_) ∧ (gb101 ≠ s_) ∧ (gb102 ≠ s_) ∧ (gb110 ≠ s_) ∧ (Below w.heap.size w w')) ?_ ?_
        rotate_left
        ·intro hJ4_9_12_15
         refine join_ (σ := Nat × Nat) 5 #[true, true, true, true, true, true, true, true, true, true, true, true, false, true, true, false, false, false, false] (fun s_ => [(58, .agg #[.int .i64 t123, .int .i64 t124, .int .i64 t125]), (63, .agg #[.int .i64 t126, .int .i64 t127, .int .i64 t128]), (14, .pointer (some ⟨s_.1, 0, none⟩)), (15, .pointer (some ⟨s_.2, 0, none⟩))]) (fun s_ w' => (w'.cell? ⟨gb110, 0, none⟩ = some (.int .i64 (wrap64 (Int.tmod a1_0 4))) ∧ w'.cell? ⟨gb110, 1, none⟩ = some (.int .i64 (1 + (((Int.tdiv a1_0 4) % 256) % 14))) ∧ w'.cell? ⟨gb110, 2, none⟩ = some (.int .i64 (wrap64 (a1_1)))) ∧ (Kd.R k71 71 w' w.heap.size (fun _ => True) (.slice Ao44 t104.length co44) t104) ∧ (Kd.R k47 47 w' w.heap.size (fun k_ => some k_ ≠ (.slice Ao43 y117.length co43 : Value).ownBlock ∧ some k_ ≠ (.slice Ao45 y120.length co45 : Value).ownBlock ∧ k_ ≠ gb110) (.slice Ao33 t107.length co33) t107) ∧ (Kd.R k47 47 w' w.heap.size (fun k_ => some k_ ≠ (.slice Ao33 t107.length co33 : Value).ownBlock ∧ some k_ ≠ (.slice Ao45 y120.length co45 : Value).ownBlock ∧ k_ ≠ gb110) (.slice Ao43 y117.length co43) y117) ∧ (Kd.R k47 47 w' w.heap.size (fun k_ => some k_ ≠ (.slice Ao33 t107.length co33 : Value).ownBlock ∧ some k_ ≠ (.slice Ao43 y117.length co43 : Value).ownBlock ∧ k_ ≠ gb110) (.slice Ao45 y120.length co45) y120) ∧ (w'.heap[gb101]? = some (.cells #[.slice A0_0 l0_0.length c0_0, .slice A0_1 l0_1.length c0_1, .int .u16 a0_2] 45 (0, 0))) ∧ (w'.heap[gb102]? = some (.cells #[.int .u8 a1_0, .int .u8 a1_1] 80 (0, 0))) ∧ (w'.heap[gb110]? = some (.cells #[.int .i64 (wrap64 (Int.tmod a1_0 4)), .int .i64 (1 + (((Int.tdiv a1_0 4) % 256) % 14)), .int .i64 (wrap64 (a1_1))] 47 (0, 0))) ∧ (w'.heap[s_.1]? = some (.cells #[.int .i64 0, .int .i64 0, .int .i64 0] 38 (0, 0))) ∧ (w'.heap[s_.2]? = some (.cells #[.int .i64 0, .int .i64 0, .int .i64 0] 38 (0, 0))) ∧ (w.heap.size ≤ s_.1) ∧ (w.heap.size ≤ s_.1) ∧ (gb101 ≠ s_.1) ∧ (gb102 ≠ s_.1) ∧ (gb110 ≠ s_.1) ∧ (s_.1 ≠ s_.2) ∧ (w.heap.size ≤ s_.2) ∧ (w.heap.size ≤ s_.2) ∧ (gb101 ≠ s_.2) ∧ (gb102 ≠ s_.2) ∧ (gb110 ≠ s_.2) ∧ (Below w.heap.size w w')) ?_ ?_
         rotate_left
         ·intro hJ4_9_13_14
          refine join_ (σ := Nat × Nat) 5 #[true, true, true, true, true, true, true, true, true, true, true, true, false, true, false, true, false, false, false] (fun s_ => [(58, .agg #[.int .i64 t123, .int .i64 t124, .int .i64 t125]), (63, .agg #[.int .i64 t126, .int .i64 t127, .int .i64 t128]), (14, .pointer (some ⟨s_.1, 0, none⟩)), (16, .pointer (some ⟨s_.2, 0, none⟩))]) (fun s_ w' => (w'.cell? ⟨gb110, 0, none⟩ = some (.int .i64 (wrap64 (Int.tmod a1_0 4))) ∧ w'.cell? ⟨gb110, 1, none⟩ = some (.int .i64 (1 + (((Int.tdiv a1_0 4) % 256) % 14))) ∧ w'.cell? ⟨gb110, 2, none⟩ = some (.int .i64 (wrap64 (a1_1)))) ∧ (Kd.R k71 71 w' w.heap.size (fun _ => True) (.slice Ao44 t104.length co44) t104) ∧ (Kd.R k47 47 w' w.heap.size (fun k_ => some k_ ≠ (.slice Ao43 y117.length co43 : Value).ownBlock ∧ some k_ ≠ (.slice Ao45 y120.length co45 : Value).ownBlock ∧ k_ ≠ gb110) (.slice Ao33 t107.length co33) t107) ∧ (Kd.R k47 47 w' w.heap.size (fun k_ => some k_ ≠ (.slice Ao33 t107.length co33 : Value).ownBlock ∧ some k_ ≠ (.slice Ao45 y120.length co45 : Value).ownBlock ∧ k_ ≠ gb110) (.slice Ao43 y117.length co43) y117) ∧ (Kd.R k47 47 w' w.heap.size (fun k_ => some k_ ≠ (.slice Ao33 t107.length co33 : Value).ownBlock ∧ some k_ ≠ (.slice Ao43 y117.length co43 : Value).ownBlock ∧ k_ ≠ gb110) (.slice Ao45 y120.length co45) y120) ∧ (w'.heap[gb101]? = some (.cells #[.slice A0_0 l0_0.length c0_0, .slice A0_1 l0_1.length c0_1, .int .u16 a0_2] 45 (0, 0))) ∧ (w'.heap[gb102]? = some (.cells #[.int .u8 a1_0, .int .u8 a1_1] 80 (0, 0))) ∧ (w'.heap[gb110]? = some (.cells #[.int .i64 (wrap64 (Int.tmod a1_0 4)), .int .i64 (1 + (((Int.tdiv a1_0 4) % 256) % 14)), .int .i64 (wrap64 (a1_1))] 47 (0, 0))) ∧ (w'.heap[s_.1]? = some (.cells #[.int .i64 0, .int .i64 0, .int .i64 0] 38 (0, 0))) ∧ (w'.heap[s_.2]? = some (.cells #[.int .i64 0, .int .i64 0, .int .i64 0] 38 (0, 0))) ∧ (w.heap.size ≤ s_.1) ∧ (w.heap.size ≤ s_.1) ∧ (gb101 ≠ s_.1) ∧ (gb102 ≠ s_.1) ∧ (gb110 ≠ s_.1) ∧ (s_.1 ≠ s_.2) ∧ (w.heap.size ≤ s_.2) ∧ (w.heap.size ≤ s_.2) ∧ (gb101 ≠ s_.2) ∧ (gb102 ≠ s_.2) ∧ (gb110 ≠ s_.2) ∧ (Below w.heap.size w w')) ?_ ?_
          rotate_left
          ·intro hJ4_9_13_15
           refine join_ (σ := Nat × Nat) 5 #[true, true, true, true, true, true, true, true, true, true, true, true, false, false, true, true, false, false, false] (fun s_ => [(58, .agg #[.int .i64 t123, .int .i64 t124, .int .i64 t125]), (63, .agg #[.int .i64 t126, .int .i64 t127, .int .i64 t128]), (15, .pointer (some ⟨s_.1, 0, none⟩)), (16, .pointer (some ⟨s_.2, 0, none⟩))]) (fun s_ w' => (w'.cell? ⟨gb110, 0, none⟩ = some (.int .i64 (wrap64 (Int.tmod a1_0 4))) ∧ w'.cell? ⟨gb110, 1, none⟩ = some (.int .i64 (1 + (((Int.tdiv a1_0 4) % 256) % 14))) ∧ w'.cell? ⟨gb110, 2, none⟩ = some (.int .i64 (wrap64 (a1_1)))) ∧ (Kd.R k71 71 w' w.heap.size (fun _ => True) (.slice Ao44 t104.length co44) t104) ∧ (Kd.R k47 47 w' w.heap.size (fun k_ => some k_ ≠ (.slice Ao43 y117.length co43 : Value).ownBlock ∧ some k_ ≠ (.slice Ao45 y120.length co45 : Value).ownBlock ∧ k_ ≠ gb110) (.slice Ao33 t107.length co33) t107) ∧ (Kd.R k47 47 w' w.heap.size (fun k_ => some k_ ≠ (.slice Ao33 t107.length co33 : Value).ownBlock ∧ some k_ ≠ (.slice Ao45 y120.length co45 : Value).ownBlock ∧ k_ ≠ gb110) (.slice Ao43 y117.length co43) y117) ∧ (Kd.R k47 47 w' w.heap.size (fun k_ => some k_ ≠ (.slice Ao33 t107.length co33 : Value).ownBlock ∧ some k_ ≠ (.slice Ao43 y117.length co43 : Value).ownBlock ∧ k_ ≠ gb110) (.slice Ao45 y120.length co45) y120) ∧ (w'.heap[gb101]? = some (.cells #[.slice A0_0 l0_0.length c0_0, .slice A0_1 l0_1.length c0_1, .int .u16 a0_2] 45 (0, 0))) ∧ (w'.heap[gb102]? = some (.cells #[.int .u8 a1_0, .int .u8 a1_1] 80 (0, 0))) ∧ (w'.heap[gb110]? = some (.cells #[.int .i64 (wrap64 (Int.tmod a1_0 4)), .int .i64 (1 + (((Int.tdiv a1_0 4) % 256) % 14)), .int .i64 (wrap64 (a1_1))] 47 (0, 0))) ∧ (w'.heap[s_.1]? = some (.cells #[.int .i64 0, .int .i64 0, .int .i64 0] 38 (0, 0))) ∧ (w'.heap[s_.2]? = some (.cells #[.int .i64 0, .int .i64 0, .int .i64 0] 38 (0, 0))) ∧ (w.heap.size ≤ s_.1) ∧ (w.heap.size ≤ s_.1) ∧ (gb101 ≠ s_.1) ∧ (gb102 ≠ s_.1) ∧ (gb110 ≠ s_.1) ∧ (s_.1 ≠ s_.2) ∧ (w.heap.size ≤ s_.2) ∧ (w.heap.size ≤ s_.2) ∧ (gb101 ≠ s_.2) ∧ (gb102 ≠ s_.2) ∧ (gb110 ≠ s_.2) ∧ (Below w.heap.size w w')) ?_ ?_
           rotate_left
           ·intro hJ4_9_14_15
            refine join_ (σ := Nat × Nat × Nat) 5 #[true, true, true, true, true, true, true, true, true, false, true, true, false, true, true, true, false, false, false] (fun s_ => [(58, .agg #[.int .i64 t123, .int .i64 t124, .int .i64 t125]), (14, .pointer (some ⟨s_.1, 0, none⟩)), (15, .pointer (some ⟨s_.2.1, 0, none⟩)), (16, .pointer (some ⟨s_.2.2, 0, none⟩))]) (fun s_ w' => (w'.cell? ⟨gb110, 0, none⟩ = some (.int .i64 (wrap64 (Int.tmod a1_0 4))) ∧ w'.cell? ⟨gb110, 1, none⟩ = some (.int .i64 (1 + (((Int.tdiv a1_0 4) % 256) % 14))) ∧ w'.cell? ⟨gb110, 2, none⟩ = some (.int .i64 (wrap64 (a1_1)))) ∧ (Kd.R k71 71 w' w.heap.size (fun _ => True) (.slice Ao44 t104.length co44) t104) ∧ (Kd.R k47 47 w' w.heap.size (fun k_ => some k_ ≠ (.slice Ao43 y117.length co43 : Value).ownBlock ∧ some k_ ≠ (.slice Ao45 y120.length co45 : Value).ownBlock ∧ k_ ≠ gb110) (.slice Ao33 t107.length co33) t107) ∧ (Kd.R k47 47 w' w.heap.size (fun k_ => some k_ ≠ (.slice Ao33 t107.length co33 : Value).ownBlock ∧ some k_ ≠ (.slice Ao45 y120.length co45 : Value).ownBlock ∧ k_ ≠ gb110) (.slice Ao43 y117.length co43) y117) ∧ (Kd.R k47 47 w' w.heap.size (fun k_ => some k_ ≠ (.slice Ao33 t107.length co33 : Value).ownBlock ∧ some k_ ≠ (.slice Ao43 y117.length co43 : Value).ownBlock ∧ k_ ≠ gb110) (.slice Ao45 y120.length co45) y120) ∧ (w'.heap[gb101]? = some (.cells #[.slice A0_0 l0_0.length c0_0, .slice A0_1 l0_1.length c0_1, .int .u16 a0_2] 45 (0, 0))) ∧ (w'.heap[gb102]? = some (.cells #[.int .u8 a1_0, .int .u8 a1_1] 80 (0, 0))) ∧ (w'.heap[gb110]? = some (.cells #[.int .i64 (wrap64 (Int.tmod a1_0 4)), .int .i64 (1 + (((Int.tdiv a1_0 4) % 256) % 14)), .int .i64 (wrap64 (a1_1))] 47 (0, 0))) ∧ (w'.heap[s_.1]? = some (.cells #[.int .i64 0, .int .i64 0, .int .i64 0] 38 (0, 0))) ∧ (w'.heap[s_.2.1]? = some (.cells #[.int .i64 0, .int .i64 0, .int .i64 0] 38 (0, 0))) ∧ (w'.heap[s_.2.2]? = some (.cells #[.int .i64 0, .int .i64 0, .int .i64 0] 38 (0, 0))) ∧ (w.heap.size ≤ s_.1) ∧ (w.heap.size ≤ s_.1) ∧ (gb101 ≠ s_.1) ∧ (gb102 ≠ s_.1) ∧ (gb110 ≠ s_.1) ∧ (s_.1 ≠ s_.2.1) ∧ (s_.1 ≠ s_.2.2) ∧ (w.heap.size ≤ s_.2.1) ∧ (w.heap.size ≤ s_.2.1) ∧ (gb101 ≠ s_.2.1) ∧ (gb102 ≠ s_.2.1) ∧ (gb110 ≠ s_.2.1) ∧ (s_.2.1 ≠ s_.2.2) ∧ (w.heap.size ≤ s_.2.2) ∧ (w.heap.size ≤ s_.2.2) ∧ (gb101 ≠ s_.2.2) ∧ (gb102 ≠ s_.2.2) ∧ (gb110 ≠ s_.2.2) ∧ (Below w.heap.size w w')) ?_ ?_
            rotate_left
            ·intro hJ4_13_14_15
             refine join_ (σ := Unit) 6 #[true, true, true, true, true, true, true, true, true, true, true, true, true, false, false, false, false, false, false] (fun s_ => [(58, .agg #[.int .i64 t123, .int .i64 t124, .int .i64 t125]), (63, .agg #[.int .i64 t126, .int .i64 t127, .int .i64 t128]), (66, .agg #[.int .i64 t129, .int .i64 t130, .int .i64 t131])]) (fun s_ w' => (w'.cell? ⟨gb110, 0, none⟩ = some (.int .i64 (wrap64 (Int.tmod a1_0 4))) ∧ w'.cell? ⟨gb110, 1, none⟩ = some (.int .i64 (1 + (((Int.tdiv a1_0 4) % 256) % 14))) ∧ w'.cell? ⟨gb110, 2, none⟩ = some (.int .i64 (wrap64 (a1_1)))) ∧ (Kd.R k71 71 w' w.heap.size (fun _ => True) (.slice Ao44 t104.length co44) t104) ∧ (Kd.R k47 47 w' w.heap.size (fun k_ => some k_ ≠ (.slice Ao43 y117.length co43 : Value).ownBlock ∧ some k_ ≠ (.slice Ao45 y120.length co45 : Value).ownBlock ∧ k_ ≠ gb110) (.slice Ao33 t107.length co33) t107) ∧ (Kd.R k47 47 w' w.heap.size (fun k_ => some k_ ≠ (.slice Ao33 t107.length co33 : Value).ownBlock ∧ some k_ ≠ (.slice Ao45 y120.length co45 : Value).ownBlock ∧ k_ ≠ gb110) (.slice Ao43 y117.length co43) y117) ∧ (Kd.R k47 47 w' w.heap.size (fun k_ => some k_ ≠ (.slice Ao33 t107.length co33 : Value).ownBlock ∧ some k_ ≠ (.slice Ao43 y117.length co43 : Value).ownBlock ∧ k_ ≠ gb110) (.slice Ao45 y120.length co45) y120) ∧ (w'.heap[gb101]? = some (.cells #[.slice A0_0 l0_0.length c0_0, .slice A0_1 l0_1.length c0_1, .int .u16 a0_2] 45 (0, 0))) ∧ (w'.heap[gb102]? = some (.cells #[.int .u8 a1_0, .int .u8 a1_1] 80 (0, 0))) ∧ (w'.heap[gb110]? = some (.cells #[.int .i64 (wrap64 (Int.tmod a1_0 4)), .int .i64 (1 + (((Int.tdiv a1_0 4) % 256) % 14)), .int .i64 (wrap64 (a1_1))] 47 (0, 0))) ∧ (Below w.heap.size w w')) ?_ ?_
             rotate_left
             ·intro hJ4_9_12
              refine join_ (σ := Nat) 6 #[true, true, true, true, true, true, true, true, true, true, true, true, false, true, false, false, false, false, false] (fun s_ => [(58, .agg #[.int .i64 t123, .int .i64 t124, .int .i64 t125]), (63, .agg #[.int .i64 t126, .int .i64 t127, .int .i64 t128]), (14, .pointer (some ⟨s_, 0, none⟩))]) (fun s_ w' => (w'.cell? ⟨gb110, 0, none⟩ = some (.int .i64 (wrap64 (Int.tmod a1_0 4))) ∧ w'.cell? ⟨gb110, 1, none⟩ = some (.int .i64 (1 + (((Int.tdiv a1_0 4) % 256) % 14))) ∧ w'.cell? ⟨gb110, 2, none⟩ = some (.int .i64 (wrap64 (a1_1)))) ∧ (Kd.R k71 71 w' w.heap.size (fun _ => True) (.slice Ao44 t104.length co44) t104) ∧ (Kd.R k47 47 w' w.heap.size (fun k_ => some k_ ≠ (.slice Ao43 y117.length co43 : Value).ownBlock ∧ some k_ ≠ (.slice Ao45 y120.length co45 : Value).ownBlock ∧ k_ ≠ gb110) (.slice Ao33 t107.length co33) t107) ∧ (Kd.R k47 47 w' w.heap.size (fun k_ => some k_ ≠ (.slice Ao33 t107.length co33 : Value).ownBlock ∧ some k_ ≠ (.slice Ao45 y120.length co45 : Value).ownBlock ∧ k_ ≠ gb110) (.slice Ao43 y117.length co43) y117) ∧ (Kd.R k47 47 w' w.heap.size (fun k_ => some k_ ≠ (.slice Ao33 t107.length co33 : Value).ownBlock ∧ some k_ ≠ (.slice Ao43 y117.length co43 : Value).ownBlock ∧ k_ ≠ gb110) (.slice Ao45 y120.length co45) y120) ∧ (w'.heap[gb101]? = some (.cells #[.slice A0_0 l0_0.length c0_0, .slice A0_1 l0_1.length c0_1, .int .u16 a0_2] 45 (0, 0))) ∧ (w'.heap[gb102]? = some (.cells #[.int .u8 a1_0, .int .u8 a1_1] 80 (0, 0))) ∧ (w'.heap[gb110]? = some (.cells #[.int .i64 (wrap64 (Int.tmod a1_0 4)), .int .i64 (1 + (((Int.tdiv a1_0 4) % 256) % 14)), .int .i64 (wrap64 (a1_1))] 47 (0, 0))) ∧ (w'.heap[s_]? = some (.cells #[.int .i64 0, .int .i64 0, .int .i64 0] 38 (0, 0))) ∧ (w.heap.size ≤ s_) ∧ (w.heap.size ≤ s_) ∧ (gb101 ≠ s_) ∧ (gb102 ≠ s_) ∧ (gb110 ≠ s_) ∧ (Below w.heap.size w w')) ?_ ?_
              rotate_left
              ·intro hJ4_9_13
               refine join_ (σ := Nat) 6 #[true, true, true, true, true, true, true, true, true, true, true, true, false, false, true, false, false, false, false] (fun s_ => [(58, .agg #[.int .i64 t123, .int .i64 t124, .int .i64 t125]), (63, .agg #[.int .i64 t126, .int .i64 t127, .int .i64 t128]), (15, .pointer (some ⟨s_, 0, none⟩))]) (fun s_ w' => (w'.cell? ⟨gb110, 0, none⟩ = some (.int .i64 (wrap64 (Int.tmod a1_0 4))) ∧ w'.cell? ⟨gb110, 1, none⟩ = some (.int .i64 (1 + (((Int.tdiv a1_0 4) % 256) % 14))) ∧ w'.cell? ⟨gb110, 2, none⟩ = some (.int .i64 (wrap64 (a1_1)))) ∧ (Kd.R k71 71 w' w.heap.size (fun _ => True) (.slice Ao44 t104.length co44) t104) ∧ (Kd.R k47 47 w' w.heap.size (fun k_ => some k_ ≠ (.slice Ao43 y117.length co43 : Value).ownBlock ∧ some k_ ≠ (.slice Ao45 y120.length co45 : Value).ownBlock ∧ k_ ≠ gb110) (.slice Ao33 t107.length co33) t107) ∧ (Kd.R k47 47 w' w.heap.size (fun k_ => some k_ ≠ (.slice Ao33 t107.length co33 : Value).ownBlock ∧ some k_ ≠ (.slice Ao45 y120.length co45 : Value).ownBlock ∧ k_ ≠ gb110) (.slice Ao43 y117.length co43) y117) ∧ (Kd.R k47 47 w' w.heap.size (fun k_ => some k_ ≠ (.slice Ao33 t107.length co33 : Value).ownBlock ∧ some k_ ≠ (.slice Ao43 y117.length co43 : Value).ownBlock ∧ k_ ≠ gb110) (.slice Ao45 y120.length co45) y120) ∧ (w'.heap[gb101]? = some (.cells #[.slice A0_0 l0_0.length c0_0, .slice A0_1 l0_1.length c0_1, .int .u16 a0_2] 45 (0, 0))) ∧ (w'.heap[gb102]? = some (.cells #[.int .u8 a1_0, .int .u8 a1_1] 80 (0, 0))) ∧ (w'.heap[gb110]? = some (.cells #[.int .i64 (wrap64 (Int.tmod a1_0 4)), .int .i64 (1 + (((Int.tdiv a1_0 4) % 256) % 14)), .int .i64 (wrap64 (a1_1))] 47 (0, 0))) ∧ (w'.heap[s_]? = some (.cells #[.int .i64 0, .int .i64 0, .int .i64 0] 38 (0, 0))) ∧ (w.heap.size ≤ s_) ∧ (w.heap.size ≤ s_) ∧ (gb101 ≠ s_) ∧ (gb102 ≠ s_) ∧ (gb110 ≠ s_) ∧ (Below w.heap.size w w')) ?_ ?_
               rotate_left
               ·intro hJ4_9_14
                refine join_ (σ := Nat) 6 #[true, true, true, true, true, true, true, true, true, true, true, true, false, false, false, true, false, false, false] (fun s_ => [(58, .agg #[.int .i64 t123, .int .i64 t124, .int .i64 t125]), (63, .agg #[.int .i64 t126, .int .i64 t127, .int .i64 t128]), (16, .pointer (some ⟨s_, 0, none⟩))]) (fun s_ w' => (w'.cell? ⟨gb110, 0, none⟩ = some (.int .i64 (wrap64 (Int.tmod a1_0 4))) ∧ w'.cell? ⟨gb110, 1, none⟩ = some (.int .i64 (1 + (((Int.tdiv a1_0 4) % 256) % 14))) ∧ w'.cell? ⟨gb110, 2, none⟩ = some (.int .i64 (wrap64 (a1_1)))) ∧ (Kd.R k71 71 w' w.heap.size (fun _ => True) (.slice Ao44 t104.length co44) t104) ∧ (Kd.R k47 47 w' w.heap.size (fun k_ => some k_ ≠ (.slice Ao43 y117.length co43 : Value).ownBlock ∧ some k_ ≠ (.slice Ao45 y120.length co45 : Value).ownBlock ∧ k_ ≠ gb110) (.slice Ao33 t107.length co33) t107) ∧ (Kd.R k47 47 w' w.heap.size (fun k_ => some k_ ≠ (.slice Ao33 t107.length co33 : Value).ownBlock ∧ some k_ ≠ (.slice Ao45 y120.length co45 : Value).ownBlock ∧ k_ ≠ gb110) (.slice Ao43 y117.length co43) y117) ∧ (Kd.R k47 47 w' w.heap.size (fun k_ => some k_ ≠ (.slice Ao33 t107.length co33 : Value).ownBlock ∧ some k_ ≠ (.slice Ao43 y117.length co43 : Value).ownBlock ∧ k_ ≠ gb110) (.slice Ao45 y120.length co45) y120) ∧ (w'.heap[gb101]? = some (.cells #[.slice A0_0 l0_0.length c0_0, .slice A0_1 l0_1.length c0_1, .int .u16 a0_2] 45 (0, 0))) ∧ (w'.heap[gb102]? = some (.cells #[.int .u8 a1_0, .int .u8 a1_1] 80 (0, 0))) ∧ (w'.heap[gb110]? = some (.cells #[.int .i64 (wrap64 (Int.tmod a1_0 4)), .int .i64 (1 + (((Int.tdiv a1_0 4) % 256) % 14)), .int .i64 (wrap64 (a1_1))] 47 (0, 0))) ∧ (w'.heap[s_]? = some (.cells #[.int .i64 0, .int .i64 0, .int .i64 0] 38 (0, 0))) ∧ (w.heap.size ≤ s_) ∧ (w.heap.size ≤ s_) ∧ (gb101 ≠ s_) ∧ (gb102 ≠ s_) ∧ (gb110 ≠ s_) ∧ (Below w.heap.size w w')) ?_ ?_
                rotate_left
                ·intro hJ4_9_15
                 refine join_ (σ := Nat × Nat) 6 #[true, true, true, true, true, true, true, true, true, false, true, true, false, true, true, false, false, false, false] (fun s_ => [(58, .agg #[.int .i64 t123, .int .i64 t124, .int .i64 t125]), (14, .pointer (some ⟨s_.1, 0, none⟩)), (15, .pointer (some ⟨s_.2, 0, none⟩))]) (fun s_ w' => (w'.cell? ⟨gb110, 0, none⟩ = some (.int .i64 (wrap64 (Int.tmod a1_0 4))) ∧ w'.cell? ⟨gb110, 1, none⟩ = some (.int .i64 (1 + (((Int.tdiv a1_0 4) % 256) % 14))) ∧ w'.cell? ⟨gb110, 2, none⟩ = some (.int .i64 (wrap64 (a1_1)))) ∧ (Kd.R k71 71 w' w.heap.size (fun _ => True) (.slice Ao44 t104.length co44) t104) ∧ (Kd.R k47 47 w' w.heap.size (fun k_ => some k_ ≠ (.slice Ao43 y117.length co43 : Value).ownBlock ∧ some k_ ≠ (.slice Ao45 y120.length co45 : Value).ownBlock ∧ k_ ≠ gb110) (.slice Ao33 t107.length co33) t107) ∧ (Kd.R k47 47 w' w.heap.size (fun k_ => some k_ ≠ (.slice Ao33 t107.length co33 : Value).ownBlock ∧ some k_ ≠ (.slice Ao45 y120.length co45 : Value).ownBlock ∧ k_ ≠ gb110) (.slice Ao43 y117.length co43) y117) ∧ (Kd.R k47 47 w' w.heap.size (fun k_ => some k_ ≠ (.slice Ao33 t107.length co33 : Value).ownBlock ∧ some k_ ≠ (.slice Ao43 y117.length co43 : Value).ownBlock ∧ k_ ≠ gb110) (.slice Ao45 y120.length co45) y120) ∧ (w'.heap[gb101]? = some (.cells #[.slice A0_0 l0_0.length c0_0, .slice A0_1 l0_1.length c0_1, .int .u16 a0_2] 45 (0, 0))) ∧ (w'.heap[gb102]? = some (.cells #[.int .u8 a1_0, .int .u8 a1_1] 80 (0, 0))) ∧ (w'.heap[gb110]? = some (.cells #[.int .i64 (wrap64 (Int.tmod a1_0 4)), .int .i64 (1 + (((Int.tdiv a1_0 4) % 256) % 14)), .int .i64 (wrap64 (a1_1))] 47 (0, 0))) ∧ (w'.heap[s_.1]? = some (.cells #[.int .i64 0, .int .i64 0, .int .i64 0] 38 (0, 0))) ∧ (w'.heap[s_.2]? = some (.cells #[.int .i64 0, .int .i64 0, .int .i64 0] 38 (0, 0))) ∧ (w.heap.size ≤ s_.1) ∧ (w.heap.size ≤ s_.1) ∧ (gb101 ≠ s_.1) ∧ (gb102 ≠ s_.1) ∧ (gb110 ≠ s_.1) ∧ (s_.1 ≠ s_.2) ∧ (w.heap.size ≤ s_.2) ∧ (w.heap.size ≤ s_.2) ∧ (gb101 ≠ s_.2) ∧ (gb102 ≠ s_.2) ∧ (gb110 ≠ s_.2) ∧ (Below w.heap.size w w')) ?_ ?_
                 rotate_left
                 ·intro hJ4_13_14
                  refine join_ (σ := Nat × Nat) 6 #[true, true, true, true, true, true, true, true, true, false, true, true, false, true, false, true, false, false, false] (fun s_ => [(58, .agg #[.int .i64 t123, .int .i64 t124, .int .i64 t125]), (14, .pointer (some ⟨s_.1, 0, none⟩)), (16, .pointer (some ⟨s_.2, 0, none⟩))]) (fun s_ w' => (w'.cell? ⟨gb110, 0, none⟩ = some (.int .i64 (wrap64 (Int.tmod a1_0 4))) ∧ w'.cell? ⟨gb110, 1, none⟩ = some (.int .i64 (1 + (((Int.tdiv a1_0 4) % 256) % 14))) ∧ w'.cell? ⟨gb110, 2, none⟩ = some (.int .i64 (wrap64 (a1_1)))) ∧ (Kd.R k71 71 w' w.heap.size (fun _ => True) (.slice Ao44 t104.length co44) t104) ∧ (Kd.R k47 47 w' w.heap.size (fun k_ => some k_ ≠ (.slice Ao43 y117.length co43 : Value).ownBlock ∧ some k_ ≠ (.slice Ao45 y120.length co45 : Value).ownBlock ∧ k_ ≠ gb110) (.slice Ao33 t107.length co33) t107) ∧ (Kd.R k47 47 w' w.heap.size (fun k_ => some k_ ≠ (.slice Ao33 t107.length co33 : Value).ownBlock ∧ some k_ ≠ (.slice Ao45 y120.length co45 : Value).ownBlock ∧ k_ ≠ gb110) (.slice Ao43 y117.length co43) y117) ∧ (Kd.R k47 47 w' w.heap.size (fun k_ => some k_ ≠ (.slice Ao33 t107.length co33 : Value).ownBlock ∧ some k_ ≠ (.slice Ao43 y117.length co43 : Value).ownBlock ∧ k_ ≠ gb110) (.slice Ao45 y120.length co45) y120) ∧ (w'.heap[gb101]? = some (.cells #[.slice A0_0 l0_0.length c0_0, .slice A0_1 l0_1.length c0_1, .int .u16 a0_2] 45 (0, 0))) ∧ (w'.heap[gb102]? = some (.cells #[.int .u8 a1_0, .int .u8 a1_1] 80 (0, 0))) ∧ (w'.heap[gb110]? = some (.cells #[.int .i64 (wrap64 (Int.tmod a1_0 4)), .int .i64 (1 + (((Int.tdiv a1_0 4) % 256) % 14)), .int .i64 (wrap64 (a1_1))] 47 (0, 0))) ∧ (w'.heap[s_.1]? = some (.cells #[.int .i64 0, .int .i64 0, .int .i64 0] 38 (0, 0))) ∧ (w'.heap[s_.2]? = some (.cells #[.int .i64 0, .int .i64 0, .int .i64 0] 38 (0, 0))) ∧ (w.heap.size ≤ s_.1) ∧ (w.heap.size ≤ s_.1) ∧ (gb101 ≠ s_.1) ∧ (gb102 ≠ s_.1) ∧ (gb110 ≠ s_.1) ∧ (s_.1 ≠ s_.2) ∧ (w.heap.size ≤ s_.2) ∧ (w.heap.size ≤ s_.2) ∧ (gb101 ≠ s_.2) ∧ (gb102 ≠ s_.2) ∧ (gb110 ≠ s_.2) ∧ (Below w.heap.size w w')) ?_ ?_
                  rotate_left
                  ·intro hJ4_13_15
                   refine join_ (σ := Nat × Nat) 6 #[true, true, true, true, true, true, true, true, true, false, true, true, false, false, true, true, false, false, false] (fun s_ => [(58, .agg #[.int .i64 t123, .int .i64 t124, .int .i64 t125]), (15, .pointer (some ⟨s_.1, 0, none⟩)), (16, .pointer (some ⟨s_.2, 0, none⟩))]) (fun s_ w' => (w'.cell? ⟨gb110, 0, none⟩ = some (.int .i64 (wrap64 (Int.tmod a1_0 4))) ∧ w'.cell? ⟨gb110, 1, none⟩ = some (.int .i64 (1 + (((Int.tdiv a1_0 4) % 256) % 14))) ∧ w'.cell? ⟨gb110, 2, none⟩ = some (.int .i64 (wrap64 (a1_1)))) ∧ (Kd.R k71 71 w' w.heap.size (fun _ => True) (.slice Ao44 t104.length co44) t104) ∧ (Kd.R k47 47 w' w.heap.size (fun k_ => some k_ ≠ (.slice Ao43 y117.length co43 : Value).ownBlock ∧ some k_ ≠ (.slice Ao45 y120.length co45 : Value).ownBlock ∧ k_ ≠ gb110) (.slice Ao33 t107.length co33) t107) ∧ (Kd.R k47 47 w' w.heap.size (fun k_ => some k_ ≠ (.slice Ao33 t107.length co33 : Value).ownBlock ∧ some k_ ≠ (.slice Ao45 y120.length co45 : Value).ownBlock ∧ k_ ≠ gb110) (.slice Ao43 y117.length co43) y117) ∧ (Kd.R k47 47 w' w.heap.size (fun k_ => some k_ ≠ (.slice Ao33 t107.length co33 : Value).ownBlock ∧ some k_ ≠ (.slice Ao43 y117.length co43 : Value).ownBlock ∧ k_ ≠ gb110) (.slice Ao45 y120.length co45) y120) ∧ (w'.heap[gb101]? = some (.cells #[.slice A0_0 l0_0.length c0_0, .slice A0_1 l0_1.length c0_1, .int .u16 a0_2] 45 (0, 0))) ∧ (w'.heap[gb102]? = some (.cells #[.int .u8 a1_0, .int .u8 a1_1] 80 (0, 0))) ∧ (w'.heap[gb110]? = some (.cells #[.int .i64 (wrap64 (Int.tmod a1_0 4)), .int .i64 (1 + (((Int.tdiv a1_0 4) % 256) % 14)), .int .i64 (wrap64 (a1_1))] 47 (0, 0))) ∧ (w'.heap[s_.1]? = some (.cells #[.int .i64 0, .int .i64 0, .int .i64 0] 38 (0, 0))) ∧ (w'.heap[s_.2]? = some (.cells #[.int .i64 0, .int .i64 0, .int .i64 0] 38 (0, 0))) ∧ (w.heap.size ≤ s_.1) ∧ (w.heap.size ≤ s_.1) ∧ (gb101 ≠ s_.1) ∧ (gb102 ≠ s_.1) ∧ (gb110 ≠ s_.1) ∧ (s_.1 ≠ s_.2) ∧ (w.heap.size ≤ s_.2) ∧ (w.heap.size ≤ s_.2) ∧ (gb101 ≠ s_.2) ∧ (gb102 ≠ s_.2) ∧ (gb110 ≠ s_.2) ∧ (Below w.heap.size w w')) ?_ ?_
                   rotate_left
                   ·intro hJ4_14_15
                    refine join_ (σ := Nat × Nat × Nat) 6 #[true, true, true, true, false, true, true, true, true, false, true, true, false, true, true, true, false, false, false] (fun s_ => [(14, .pointer (some ⟨s_.1, 0, none⟩)), (15, .pointer (some ⟨s_.2.1, 0, none⟩)), (16, .pointer (some ⟨s_.2.2, 0, none⟩))]) (fun s_ w' => (w'.cell? ⟨gb110, 0, none⟩ = some (.int .i64 (wrap64 (Int.tmod a1_0 4))) ∧ w'.cell? ⟨gb110, 1, none⟩ = some (.int .i64 (1 + (((Int.tdiv a1_0 4) % 256) % 14))) ∧ w'.cell? ⟨gb110, 2, none⟩ = some (.int .i64 (wrap64 (a1_1)))) ∧ (Kd.R k71 71 w' w.heap.size (fun _ => True) (.slice Ao44 t104.length co44) t104) ∧ (Kd.R k47 47 w' w.heap.size (fun k_ => some k_ ≠ (.slice Ao43 y117.length co43 : Value).ownBlock ∧ some k_ ≠ (.slice Ao45 y120.length co45 : Value).ownBlock ∧ k_ ≠ gb110) (.slice Ao33 t107.length co33) t107) ∧ (Kd.R k47 47 w' w.heap.size (fun k_ => some k_ ≠ (.slice Ao33 t107.length co33 : Value).ownBlock ∧ some k_ ≠ (.slice Ao45 y120.length co45 : Value).ownBlock ∧ k_ ≠ gb110) (.slice Ao43 y117.length co43) y117) ∧ (Kd.R k47 47 w' w.heap.size (fun k_ => some k_ ≠ (.slice Ao33 t107.length co33 : Value).ownBlock ∧ some k_ ≠ (.slice Ao43 y117.length co43 : Value).ownBlock ∧ k_ ≠ gb110) (.slice Ao45 y120.length co45) y120) ∧ (w'.heap[gb101]? = some (.cells #[.slice A0_0 l0_0.length c0_0, .slice A0_1 l0_1.length c0_1, .int .u16 a0_2] 45 (0, 0))) ∧ (w'.heap[gb102]? = some (.cells #[.int .u8 a1_0, .int .u8 a1_1] 80 (0, 0))) ∧ (w'.heap[gb110]? = some (.cells #[.int .i64 (wrap64 (Int.tmod a1_0 4)), .int .i64 (1 + (((Int.tdiv a1_0 4) % 256) % 14)), .int .i64 (wrap64 (a1_1))] 47 (0, 0))) ∧ (w'.heap[s_.1]? = some (.cells #[.int .i64 0, .int .i64 0, .int .i64 0] 38 (0, 0))) ∧ (w'.heap[s_.2.1]? = some (.cells #[.int .i64 0, .int .i64 0, .int .i64 0] 38 (0, 0))) ∧ (w'.heap[s_.2.2]? = some (.cells #[.int .i64 0, .int .i64 0, .int .i64 0] 38 (0, 0))) ∧ (w.heap.size ≤ s_.1) ∧ (w.heap.size ≤ s_.1) ∧ (gb101 ≠ s_.1) ∧ (gb102 ≠ s_.1) ∧ (gb110 ≠ s_.1) ∧ (s_.1 ≠ s_.2.1) ∧ (s_.1 ≠ s_.2.2) ∧ (w.heap.size ≤ s_.2.1) ∧ (w.heap.size ≤ s_.2.1) ∧ (gb101 ≠ s_.2.1) ∧ (gb102 ≠ s_.2.1) ∧ (gb110 ≠ s_.2.1) ∧ (s_.2.1 ≠ s_.2.2) ∧ (w.heap.size ≤ s_.2.2) ∧ (w.heap.size ≤ s_.2.2) ∧ (gb101 ≠ s_.2.2) ∧ (gb102 ≠ s_.2.2) ∧ (gb110 ≠ s_.2.2) ∧ (Below w.heap.size w w')) ?_ ?_
                    rotate_left
                    ·intro hJ13_14_15
                     refine join_ (σ := Unit) 7 #[true, true, true, true, true, true, true, true, true, true, true, true, false, false, false, false, false, false, false] (fun s_ => [(58, .agg #[.int .i64 t123, .int .i64 t124, .int .i64 t125]), (63, .agg #[.int .i64 t126, .int .i64 t127, .int .i64 t128])]) (fun s_ w' => (w'.cell? ⟨gb110, 0, none⟩ = some (.int .i64 (wrap64 (Int.tmod a1_0 4))) ∧ w'.cell? ⟨gb110, 1, none⟩ = some (.int .i64 (1 + (((Int.tdiv a1_0 4) % 256) % 14))) ∧ w'.cell? ⟨gb110, 2, none⟩ = some (.int .i64 (wrap64 (a1_1)))) ∧ (Kd.R k71 71 w' w.heap.size (fun _ => True) (.slice Ao44 t104.length co44) t104) ∧ (Kd.R k47 47 w' w.heap.size (fun k_ => some k_ ≠ (.slice Ao43 y117.length co43 : Value).ownBlock ∧ some k_ ≠ (.slice Ao45 y120.length co45 : Value).ownBlock ∧ k_ ≠ gb110) (.slice Ao33 t107.length co33) t107) ∧ (Kd.R k47 47 w' w.heap.size (fun k_ => some k_ ≠ (.slice Ao33 t107.length co33 : Value).ownBlock ∧ some k_ ≠ (.slice Ao45 y120.length co45 : Value).ownBlock ∧ k_ ≠ gb110) (.slice Ao43 y117.length co43) y117) ∧ (Kd.R k47 47 w' w.heap.size (fun k_ => some k_ ≠ (.slice Ao33 t107.length co33 : Value).ownBlock ∧ some k_ ≠ (.slice Ao43 y117.length co43 : Value).ownBlock ∧ k_ ≠ gb110) (.slice Ao45 y120.length co45) y120) ∧ (w'.heap[gb101]? = some (.cells #[.slice A0_0 l0_0.length c0_0, .slice A0_1 l0_1.length c0_1, .int .u16 a0_2] 45 (0, 0))) ∧ (w'.heap[gb102]? = some (.cells #[.int .u8 a1_0, .int .u8 a1_1] 80 (0, 0))) ∧ (w'.heap[gb110]? = some (.cells #[.int .i64 (wrap64 (Int.tmod a1_0 4)), .int .i64 (1 + (((Int.tdiv a1_0 4) % 256) % 14)), .int .i64 (wrap64 (a1_1))] 47 (0, 0))) ∧ (Below w.heap.size w w')) ?_ ?_
                     rotate_left
                     ·intro hJ4_9
                      refine join_ (σ := Nat) 7 #[true, true, true, true, true, true, true, true, true, false, true, true, false, true, false, false, false, false, false] (fun s_ => [(58, .agg #[.int .i64 t123, .int .i64 t124, .int .i64 t125]), (14, .pointer (some ⟨s_, 0, none⟩))]) (fun s_ w' => (w'.cell? ⟨gb110, 0, none⟩ = some (.int .i64 (wrap64 (Int.tmod a1_0 4))) ∧ w'.cell? ⟨gb110, 1, none⟩ = some (.int .i64 (1 + (((Int.tdiv a1_0 4) % 256) % 14))) ∧ w'.cell? ⟨gb110, 2, none⟩ = some (.int .i64 (wrap64 (a1_1)))) ∧ (Kd.R k71 71 w' w.heap.size (fun _ => True) (.slice Ao44 t104.length co44) t104) ∧ (Kd.R k47 47 w' w.heap.size (fun k_ => some k_ ≠ (.slice Ao43 y117.length co43 : Value).ownBlock ∧ some k_ ≠ (.slice Ao45 y120.length co45 : Value).ownBlock ∧ k_ ≠ gb110) (.slice Ao33 t107.length co33) t107) ∧ (Kd.R k47 47 w' w.heap.size (fun k_ => some k_ ≠ (.slice Ao33 t107.length co33 : Value).ownBlock ∧ some k_ ≠ (.slice Ao45 y120.length co45 : Value).ownBlock ∧ k_ ≠ gb110) (.slice Ao43 y117.length co43) y117) ∧ (Kd.R k47 47 w' w.heap.size (fun k_ => some k_ ≠ (.slice Ao33 t107.length co33 : Value).ownBlock ∧ some k_ ≠ (.slice Ao43 y117.length co43 : Value).ownBlock ∧ k_ ≠ gb110) (.slice Ao45 y120.length co45) y120) ∧ (w'.heap[gb101]? = some (.cells #[.slice A0_0 l0_0.length c0_0, .slice A0_1 l0_1.length c0_1, .int .u16 a0_2] 45 (0, 0))) ∧ (w'.heap[gb102]? = some (.cells #[.int .u8 a1_0, .int .u8 a1_1] 80 (0, 0))) ∧ (w'.heap[gb110]? = some (.cells #[.int .i64 (wrap64 (Int.tmod a1_0 4)), .int .i64 (1 + (((Int.tdiv a1_0 4) % 256) % 14)), .int .i64 (wrap64 (a1_1))] 47 (0, 0))) ∧ (w'.heap[s_]? = some (.cells #[.int .i64 0, .int .i64 0, .int .i64 0] 38 (0, 0))) ∧ (w.heap.size ≤ s_) ∧ (w.heap.size ≤ s_) ∧ (gb101 ≠ s_) ∧ (gb102 ≠ s_) ∧ (gb110 ≠ s_) ∧ (Below w.heap.size w w')) ?_ ?_
                      rotate_left
                      ·intro hJ4_13
                       refine join_ (σ := Nat) 7 #[true, true, true, true, true, true, true, true, true, false, true, true, false, false, true, false, false, false, false] (fun s_ => [(58, .agg #[.int .i64 t123, .int .i64 t124, .int .i64 t125]), (15, .pointer (some ⟨s_, 0, none⟩))]) (fun s_ w' => (w'.cell? ⟨gb110, 0, none⟩ = some (.int .i64 (wrap64 (Int.tmod a1_0 4))) ∧ w'.cell? ⟨gb110, 1, none⟩ = some (.int .i64 (1 + (((Int.tdiv a1_0 4) % 256) % 14))) ∧ w'.cell? ⟨gb110, 2, none⟩ = some (.int .i64 (wrap64 (a1_1)))) ∧ (Kd.R k71 71 w' w.heap.size (fun _ => True) (.slice Ao44 t104.length co44) t104) ∧ (Kd.R k47 47 w' w.heap.size (fun k_ => some k_ ≠ (.slice Ao43 y117.length co43 : Value).ownBlock ∧ some k_ ≠ (.slice Ao45 y120.length co45 : Value).ownBlock ∧ k_ ≠ gb110) (.slice Ao33 t107.length co33) t107) ∧ (Kd.R k47 47 w' w.heap.size (fun k_ => some k_ ≠ (.slice Ao33 t107.length co33 : Value).ownBlock ∧ some k_ ≠ (.slice Ao45 y120.length co45 : Value).ownBlock ∧ k_ ≠ gb110) (.slice Ao43 y117.length co43) y117) ∧ (Kd.R k47 47 w' w.heap.size (fun k_ => some k_ ≠ (.slice Ao33 t107.length co33 : Value).ownBlock ∧ some k_ ≠ (.slice Ao43 y117.length co43 : Value).ownBlock ∧ k_ ≠ gb110) (.slice Ao45 y120.length co45) y120) ∧ (w'.heap[gb101]? = some (.cells #[.slice A0_0 l0_0.length c0_0, .slice A0_1 l0_1.length c0_1, .int .u16 a0_2] 45 (0, 0))) ∧ (w'.heap[gb102]? = some (.cells #[.int .u8 a1_0, .int .u8 a1_1] 80 (0, 0))) ∧ (w'.heap[gb110]? = some (.cells #[.int .i64 (wrap64 (Int.tmod a1_0 4)), .int .i64 (1 + (((Int.tdiv a1_0 4) % 256) % 14)), .int .i64 (wrap64 (a1_1))] 47 (0, 0))) ∧ (w'.heap[s_]? = some (.cells #[.int .i64 0, .int .i64 0, .int .i64 0] 38 (0, 0))) ∧ (w.heap.size ≤ s_) ∧ (w.heap.size ≤ s_) ∧ (gb101 ≠ s_) ∧ (gb102 ≠ s_) ∧ (gb110 ≠ s_) ∧ (Below w.heap.size w w')) ?_ ?_
                       rotate_left
                       ·intro hJ4_14
                        refine join_ (σ := Nat) 7 #[true, true, true, true, true, true, true, true, true, false, true, true, false, false, false, true, false, false, false] (fun s_ => [(58, .agg #[.int .i64 t123, .int .i64 t124, .int .i64 t125]), (16, .pointer (some ⟨s_, 0, none⟩))]) (fun s_ w' => (w'.cell? ⟨gb110, 0, none⟩ = some (.int .i64 (wrap64 (Int.tmod a1_0 4))) ∧ w'.cell? ⟨gb110, 1, none⟩ = some (.int .i64 (1 + (((Int.tdiv a1_0 4) % 256) % 14))) ∧ w'.cell? ⟨gb110, 2, none⟩ = some (.int .i64 (wrap64 (a1_1)))) ∧ (Kd.R k71 71 w' w.heap.size (fun _ => True) (.slice Ao44 t104.length co44) t104) ∧ (Kd.R k47 47 w' w.heap.size (fun k_ => some k_ ≠ (.slice Ao43 y117.length co43 : Value).ownBlock ∧ some k_ ≠ (.slice Ao45 y120.length co45 : Value).ownBlock ∧ k_ ≠ gb110) (.slice Ao33 t107.length co33) t107) ∧ (Kd.R k47 47 w' w.heap.size (fun k_ => some k_ ≠ (.slice Ao33 t107.length co33 : Value).ownBlock ∧ some k_ ≠ (.slice Ao45 y120.length co45 : Value).ownBlock ∧ k_ ≠ gb110) (.slice Ao43 y117.length co43) y117) ∧ (Kd.R k47 47 w' w.heap.size (fun k_ => some k_ ≠ (.slice Ao33 t107.length co33 : Value).ownBlock ∧ some k_ ≠ (.slice Ao43 y117.length co43 : Value).ownBlock ∧ k_ ≠ gb110) (.slice Ao45 y120.length co45) y120) ∧ (w'.heap[gb101]? = some (.cells #[.slice A0_0 l0_0.length c0_0, .slice A0_1 l0_1.length c0_1, .int .u16 a0_2] 45 (0, 0))) ∧ (w'.heap[gb102]? = some (.cells #[.int .u8 a1_0, .int .u8 a1_1] 80 (0, 0))) ∧ (w'.heap[gb110]? = some (.cells #[.int .i64 (wrap64 (Int.tmod a1_0 4)), .int .i64 (1 + (((Int.tdiv a1_0 4) % 256) % 14)), .int .i64 (wrap64 (a1_1))] 47 (0, 0))) ∧ (w'.heap[s_]? = some (.cells #[.int .i64 0, .int .i64 0, .int .i64 0] 38 (0, 0))) ∧ (w.heap.size ≤ s_) ∧ (w.heap.size ≤ s_) ∧ (gb101 ≠ s_) ∧ (gb102 ≠ s_) ∧ (gb110 ≠ s_) ∧ (Below w.heap.size w w')) ?_ ?_
                        rotate_left
                        ·intro hJ4_15
                         refine join_ (σ := Nat × Nat) 7 #[true, true, true, true, false, true, true, true, true, false, true, true, false, true, true, false, false, false, false] (fun s_ => [(14, .pointer (some ⟨s_.1, 0, none⟩)), (15, .pointer (some ⟨s_.2, 0, none⟩))]) (fun s_ w' => (w'.cell? ⟨gb110, 0, none⟩ = some (.int .i64 (wrap64 (Int.tmod a1_0 4))) ∧ w'.cell? ⟨gb110, 1, none⟩ = some (.int .i64 (1 + (((Int.tdiv a1_0 4) % 256) % 14))) ∧ w'.cell? ⟨gb110, 2, none⟩ = some (.int .i64 (wrap64 (a1_1)))) ∧ (Kd.R k71 71 w' w.heap.size (fun _ => True) (.slice Ao44 t104.length co44) t104) ∧ (Kd.R k47 47 w' w.heap.size (fun k_ => some k_ ≠ (.slice Ao43 y117.length co43 : Value).ownBlock ∧ some k_ ≠ (.slice Ao45 y120.length co45 : Value).ownBlock ∧ k_ ≠ gb110) (.slice Ao33 t107.length co33) t107) ∧ (Kd.R k47 47 w' w.heap.size (fun k_ => some k_ ≠ (.slice Ao33 t107.length co33 : Value).ownBlock ∧ some k_ ≠ (.slice Ao45 y120.length co45 : Value).ownBlock ∧ k_ ≠ gb110) (.slice Ao43 y117.length co43) y117) ∧ (Kd.R k47 47 w' w.heap.size (fun k_ => some k_ ≠ (.slice Ao33 t107.length co33 : Value).ownBlock ∧ some k_ ≠ (.slice Ao43 y117.length co43 : Value).ownBlock ∧ k_ ≠ gb110) (.slice Ao45 y120.length co45) y120) ∧ (w'.heap[gb101]? = some (.cells #[.slice A0_0 l0_0.length c0_0, .slice A0_1 l0_1.length c0_1, .int .u16 a0_2] 45 (0, 0))) ∧ (w'.heap[gb102]? = some (.cells #[.int .u8 a1_0, .int .u8 a1_1] 80 (0, 0))) ∧ (w'.heap[gb110]? = some (.cells #[.int .i64 (wrap64 (Int.tmod a1_0 4)), .int .i64 (1 + (((Int.tdiv a1_0 4) % 256) % 14)), .int .i64 (wrap64 (a1_1))] 47 (0, 0))) ∧ (w'.heap[s_.1]? = some (.cells #[.int .i64 0, .int .i64 0, .int .i64 0] 38 (0, 0))) ∧ (w'.heap[s_.2]? = some (.cells #[.int .i64 0, .int .i64 0, .int .i64 0] 38 (0, 0))) ∧ (w.heap.size ≤ s_.1) ∧ (w.heap.size ≤ s_.1) ∧ (gb101 ≠ s_.1) ∧ (gb102 ≠ s_.1) ∧ (gb110 ≠ s_.1) ∧ (s_.1 ≠ s_.2) ∧ (w.heap.size ≤ s_.2) ∧ (w.heap.size ≤ s_.2) ∧ (gb101 ≠ s_.2) ∧ (gb102 ≠ s_.2) ∧ (gb110 ≠ s_.2) ∧ (Below w.heap.size w w')) ?_ ?_
                         rotate_left
                         ·intro hJ13_14
                          refine join_ (σ := Nat × Nat) 7 #[true, true, true, true, false, true, true, true, true, false, true, true, false, true, false, true, false, false, false] (fun s_ => [(14, .pointer (some ⟨s_.1, 0, none⟩)), (16, .pointer (some ⟨s_.2, 0, none⟩))]) (fun s_ w' => (w'.cell? ⟨gb110, 0, none⟩ = some (.int .i64 (wrap64 (Int.tmod a1_0 4))) ∧ w'.cell? ⟨gb110, 1, none⟩ = some (.int .i64 (1 + (((Int.tdiv a1_0 4) % 256) % 14))) ∧ w'.cell? ⟨gb110, 2, none⟩ = some (.int .i64 (wrap64 (a1_1)))) ∧ (Kd.R k71 71 w' w.heap.size (fun _ => True) (.slice Ao44 t104.length co44) t104) ∧ (Kd.R k47 47 w' w.heap.size (fun k_ => some k_ ≠ (.slice Ao43 y117.length co43 : Value).ownBlock ∧ some k_ ≠ (.slice Ao45 y120.length co45 : Value).ownBlock ∧ k_ ≠ gb110) (.slice Ao33 t107.length co33) t107) ∧ (Kd.R k47 47 w' w.heap.size (fun k_ => some k_ ≠ (.slice Ao33 t107.length co33 : Value).ownBlock ∧ some k_ ≠ (.slice Ao45 y120.length co45 : Value).ownBlock ∧ k_ ≠ gb110) (.slice Ao43 y117.length co43) y117) ∧ (Kd.R k47 47 w' w.heap.size (fun k_ => some k_ ≠ (.slice Ao33 t107.length co33 : Value).ownBlock ∧ some k_ ≠ (.slice Ao43 y117.length co43 : Value).ownBlock ∧ k_ ≠ gb110) (.slice Ao45 y120.length co45) y120) ∧ (w'.heap[gb101]? = some (.cells #[.slice A0_0 l0_0.length c0_0, .slice A0_1 l0_1.length c0_1, .int .u16 a0_2] 45 (0, 0))) ∧ (w'.heap[gb102]? = some (.cells #[.int .u8 a1_0, .int .u8 a1_1] 80 (0, 0))) ∧ (w'.heap[gb110]? = some (.cells #[.int .i64 (wrap64 (Int.tmod a1_0 4)), .int .i64 (1 + (((Int.tdiv a1_0 4) % 256) % 14)), .int .i64 (wrap64 (a1_1))] 47 (0, 0))) ∧ (w'.heap[s_.1]? = some (.cells #[.int .i64 0, .int .i64 0, .int .i64 0] 38 (0, 0))) ∧ (w'.heap[s_.2]? = some (.cells #[.int .i64 0, .int .i64 0, .int .i64 0] 38 (0, 0))) ∧ (w.heap.size ≤ s_.1) ∧ (w.heap.size ≤ s_.1) ∧ (gb101 ≠ s_.1) ∧ (gb102 ≠ s_.1) ∧ (gb110 ≠ s_.1) ∧ (s_.1 ≠ s_.2) ∧ (w.heap.size ≤ s_.2) ∧ (w.heap.size ≤ s_.2) ∧ (gb101 ≠ s_.2) ∧ (gb102 ≠ s_.2) ∧ (gb110 ≠ s_.2) ∧ (Below w.heap.size w w')) ?_ ?_
                          rotate_left
                          ·intro hJ13_15
                           refine join_ (σ := Nat × Nat) 7 #[true, true, true, true, false, true, true, true, true, false, true, true, false, false, true, true, false, false, false] (fun s_ => [(15, .pointer (some ⟨s_.1, 0, none⟩)), (16, .pointer (some ⟨s_.2, 0, none⟩))]) (fun s_ w' => (w'.cell? ⟨gb110, 0, none⟩ = some (.int .i64 (wrap64 (Int.tmod a1_0 4))) ∧ w'.cell? ⟨gb110, 1, none⟩ = some (.int .i64 (1 + (((Int.tdiv a1_0 4) % 256) % 14))) ∧ w'.cell? ⟨gb110, 2, none⟩ = some (.int .i64 (wrap64 (a1_1)))) ∧ (Kd.R k71 71 w' w.heap.size (fun _ => True) (.slice Ao44 t104.length co44) t104) ∧ (Kd.R k47 47 w' w.heap.size (fun k_ => some k_ ≠ (.slice Ao43 y117.length co43 : Value).ownBlock ∧ some k_ ≠ (.slice Ao45 y120.length co45 : Value).ownBlock ∧ k_ ≠ gb110) (.slice Ao33 t107.length co33) t107) ∧ (Kd.R k47 47 w' w.heap.size (fun k_ => some k_ ≠ (.slice Ao33 t107.length co33 : Value).ownBlock ∧ some k_ ≠ (.slice Ao45 y120.length co45 : Value).ownBlock ∧ k_ ≠ gb110) (.slice Ao43 y117.length co43) y117) ∧ (Kd.R k47 47 w' w.heap.size (fun k_ => some k_ ≠ (.slice Ao33 t107.length co33 : Value).ownBlock ∧ some k_ ≠ (.slice Ao43 y117.length co43 : Value).ownBlock ∧ k_ ≠ gb110) (.slice Ao45 y120.length co45) y120) ∧ (w'.heap[gb101]? = some (.cells #[.slice A0_0 l0_0.length c0_0, .slice A0_1 l0_1.length c0_1, .int .u16 a0_2] 45 (0, 0))) ∧ (w'.heap[gb102]? = some (.cells #[.int .u8 a1_0, .int .u8 a1_1] 80 (0, 0))) ∧ (w'.heap[gb110]? = some (.cells #[.int .i64 (wrap64 (Int.tmod a1_0 4)), .int .i64 (1 + (((Int.tdiv a1_0 4) % 256) % 14)), .int .i64 (wrap64 (a1_1))] 47 (0, 0))) ∧ (w'.heap[s_.1]? = some (.cells #[.int .i64 0, .int .i64 0, .int .i64 0] 38 (0, 0))) ∧ (w'.heap[s_.2]? = some (.cells #[.int .i64 0, .int .i64 0, .int .i64 0] 38 (0, 0))) ∧ (w.heap.size ≤ s_.1) ∧ (w.heap.size ≤ s_.1) ∧ (gb101 ≠ s_.1) ∧ (gb102 ≠ s_.1) ∧ (gb110 ≠ s_.1) ∧ (s_.1 ≠ s_.2) ∧ (w.heap.size ≤ s_.2) ∧ (w.heap.size ≤ s_.2) ∧ (gb101 ≠ s_.2) ∧ (gb102 ≠ s_.2) ∧ (gb110 ≠ s_.2) ∧ (Below w.heap.size w w')) ?_ ?_
                           rotate_left
                           ·intro hJ14_15
                            refine join_ (σ := Unit) 8 #[true, true, true, true, true, true, true, true, true, false, true, true, false, false, false, false, false, false, false] (fun s_ => [(58, .agg #[.int .i64 t123, .int .i64 t124, .int .i64 t125])]) (fun s_ w' => (w'.cell? ⟨gb110, 0, none⟩ = some (.int .i64 (wrap64 (Int.tmod a1_0 4))) ∧ w'.cell? ⟨gb110, 1, none⟩ = some (.int .i64 (1 + (((Int.tdiv a1_0 4) % 256) % 14))) ∧ w'.cell? ⟨gb110, 2, none⟩ = some (.int .i64 (wrap64 (a1_1)))) ∧ (Kd.R k71 71 w' w.heap.size (fun _ => True) (.slice Ao44 t104.length co44) t104) ∧ (Kd.R k47 47 w' w.heap.size (fun k_ => some k_ ≠ (.slice Ao43 y117.length co43 : Value).ownBlock ∧ some k_ ≠ (.slice Ao45 y120.length co45 : Value).ownBlock ∧ k_ ≠ gb110) (.slice Ao33 t107.length co33) t107) ∧ (Kd.R k47 47 w' w.heap.size (fun k_ => some k_ ≠ (.slice Ao33 t107.length co33 : Value).ownBlock ∧ some k_ ≠ (.slice Ao45 y120.length co45 : Value).ownBlock ∧ k_ ≠ gb110) (.slice Ao43 y117.length co43) y117) ∧ (Kd.R k47 47 w' w.heap.size (fun k_ => some k_ ≠ (.slice Ao33 t107.length co33 : Value).ownBlock ∧ some k_ ≠ (.slice Ao43 y117.length co43 : Value).ownBlock ∧ k_ ≠ gb110) (.slice Ao45 y120.length co45) y120) ∧ (w'.heap[gb101]? = some (.cells #[.slice A0_0 l0_0.length c0_0, .slice A0_1 l0_1.length c0_1, .int .u16 a0_2] 45 (0, 0))) ∧ (w'.heap[gb102]? = some (.cells #[.int .u8 a1_0, .int .u8 a1_1] 80 (0, 0))) ∧ (w'.heap[gb110]? = some (.cells #[.int .i64 (wrap64 (Int.tmod a1_0 4)), .int .i64 (1 + (((Int.tdiv a1_0 4) % 256) % 14)), .int .i64 (wrap64 (a1_1))] 47 (0, 0))) ∧ (Below w.heap.size w w')) ?_ ?_
                            rotate_left
                            ·intro hJ4
                             refine join_ (σ := Nat) 8 #[true, true, true, true, false, true, true, true, true, false, true, true, false, true, false, false, false, false, false] (fun s_ => [(14, .pointer (some ⟨s_, 0, none⟩))]) (fun s_ w' => (w'.cell? ⟨gb110, 0, none⟩ = some (.int .i64 (wrap64 (Int.tmod a1_0 4))) ∧ w'.cell? ⟨gb110, 1, none⟩ = some (.int .i64 (1 + (((Int.tdiv a1_0 4) % 256) % 14))) ∧ w'.cell? ⟨gb110, 2, none⟩ = some (.int .i64 (wrap64 (a1_1)))) ∧ (Kd.R k71 71 w' w.heap.size (fun _ => True) (.slice Ao44 t104.length co44) t104) ∧ (Kd.R k47 47 w' w.heap.size (fun k_ => some k_ ≠ (.slice Ao43 y117.length co43 : Value).ownBlock ∧ some k_ ≠ (.slice Ao45 y120.length co45 : Value).ownBlock ∧ k_ ≠ gb110) (.slice Ao33 t107.length co33) t107) ∧ (Kd.R k47 47 w' w.heap.size (fun k_ => some k_ ≠ (.slice Ao33 t107.length co33 : Value).ownBlock ∧ some k_ ≠ (.slice Ao45 y120.length co45 : Value).ownBlock ∧ k_ ≠ gb110) (.slice Ao43 y117.length co43) y117) ∧ (Kd.R k47 47 w' w.heap.size (fun k_ => some k_ ≠ (.slice Ao33 t107.length co33 : Value).ownBlock ∧ some k_ ≠ (.slice Ao43 y117.length co43 : Value).ownBlock ∧ k_ ≠ gb110) (.slice Ao45 y120.length co45) y120) ∧ (w'.heap[gb101]? = some (.cells #[.slice A0_0 l0_0.length c0_0, .slice A0_1 l0_1.length c0_1, .int .u16 a0_2] 45 (0, 0))) ∧ (w'.heap[gb102]? = some (.cells #[.int .u8 a1_0, .int .u8 a1_1] 80 (0, 0))) ∧ (w'.heap[gb110]? = some (.cells #[.int .i64 (wrap64 (Int.tmod a1_0 4)), .int .i64 (1 + (((Int.tdiv a1_0 4) % 256) % 14)), .int .i64 (wrap64 (a1_1))] 47 (0, 0))) ∧ (w'.heap[s_]? = some (.cells #[.int .i64 0, .int .i64 0, .int .i64 0] 38 (0, 0))) ∧ (w.heap.size ≤ s_) ∧ (w.heap.size ≤ s_) ∧ (gb101 ≠ s_) ∧ (gb102 ≠ s_) ∧ (gb110 ≠ s_) ∧ (Below w.heap.size w w')) ?_ ?_
                             rotate_left
                             ·intro hJ13
                              refine join_ (σ := Nat) 8 #[true, true, true, true, false, true, true, true, true, false, true, true, false, false, true, false, false, false, false] (fun s_ => [(15, .pointer (some ⟨s_, 0, none⟩))]) (fun s_ w' => (w'.cell? ⟨gb110, 0, none⟩ = some (.int .i64 (wrap64 (Int.tmod a1_0 4))) ∧ w'.cell? ⟨gb110, 1, none⟩ = some (.int .i64 (1 + (((Int.tdiv a1_0 4) % 256) % 14))) ∧ w'.cell? ⟨gb110, 2, none⟩ = some (.int .i64 (wrap64 (a1_1)))) ∧ (Kd.R k71 71 w' w.heap.size (fun _ => True) (.slice Ao44 t104.length co44) t104) ∧ (Kd.R k47 47 w' w.heap.size (fun k_ => some k_ ≠ (.slice Ao43 y117.length co43 : Value).ownBlock ∧ some k_ ≠ (.slice Ao45 y120.length co45 : Value).ownBlock ∧ k_ ≠ gb110) (.slice Ao33 t107.length co33) t107) ∧ (Kd.R k47 47 w' w.heap.size (fun k_ => some k_ ≠ (.slice Ao33 t107.length co33 : Value).ownBlock ∧ some k_ ≠ (.slice Ao45 y120.length co45 : Value).ownBlock ∧ k_ ≠ gb110) (.slice Ao43 y117.length co43) y117) ∧ (Kd.R k47 47 w' w.heap.size (fun k_ => some k_ ≠ (.slice Ao33 t107.length co33 : Value).ownBlock ∧ some k_ ≠ (.slice Ao43 y117.length co43 : Value).ownBlock ∧ k_ ≠ gb110) (.slice Ao45 y120.length co45) y120) ∧ (w'.heap[gb101]? = some (.cells #[.slice A0_0 l0_0.length c0_0, .slice A0_1 l0_1.length c0_1, .int .u16 a0_2] 45 (0, 0))) ∧ (w'.heap[gb102]? = some (.cells #[.int .u8 a1_0, .int .u8 a1_1] 80 (0, 0))) ∧ (w'.heap[gb110]? = some (.cells #[.int .i64 (wrap64 (Int.tmod a1_0 4)), .int .i64 (1 + (((Int.tdiv a1_0 4) % 256) % 14)), .int .i64 (wrap64 (a1_1))] 47 (0, 0))) ∧ (w'.heap[s_]? = some (.cells #[.int .i64 0, .int .i64 0, .int .i64 0] 38 (0, 0))) ∧ (w.heap.size ≤ s_) ∧ (w.heap.size ≤ s_) ∧ (gb101 ≠ s_) ∧ (gb102 ≠ s_) ∧ (gb110 ≠ s_) ∧ (Below w.heap.size w w')) ?_ ?_
                              rotate_left
                              ·intro hJ14
                               refine join_ (σ := Nat) 8 #[true, true, true, true, false, true, true, true, true, false, true, true, false, false, false, true, false, false, false] (fun s_ => [(16, .pointer (some ⟨s_, 0, none⟩))]) (fun s_ w' => (w'.cell? ⟨gb110, 0, none⟩ = some (.int .i64 (wrap64 (Int.tmod a1_0 4))) ∧ w'.cell? ⟨gb110, 1, none⟩ = some (.int .i64 (1 + (((Int.tdiv a1_0 4) % 256) % 14))) ∧ w'.cell? ⟨gb110, 2, none⟩ = some (.int .i64 (wrap64 (a1_1)))) ∧ (Kd.R k71 71 w' w.heap.size (fun _ => True) (.slice Ao44 t104.length co44) t104) ∧ (Kd.R k47 47 w' w.heap.size (fun k_ => some k_ ≠ (.slice Ao43 y117.length co43 : Value).ownBlock ∧ some k_ ≠ (.slice Ao45 y120.length co45 : Value).ownBlock ∧ k_ ≠ gb110) (.slice Ao33 t107.length co33) t107) ∧ (Kd.R k47 47 w' w.heap.size (fun k_ => some k_ ≠ (.slice Ao33 t107.length co33 : Value).ownBlock ∧ some k_ ≠ (.slice Ao45 y120.length co45 : Value).ownBlock ∧ k_ ≠ gb110) (.slice Ao43 y117.length co43) y117) ∧ (Kd.R k47 47 w' w.heap.size (fun k_ => some k_ ≠ (.slice Ao33 t107.length co33 : Value).ownBlock ∧ some k_ ≠ (.slice Ao43 y117.length co43 : Value).ownBlock ∧ k_ ≠ gb110) (.slice Ao45 y120.length co45) y120) ∧ (w'.heap[gb101]? = some (.cells #[.slice A0_0 l0_0.length c0_0, .slice A0_1 l0_1.length c0_1, .int .u16 a0_2] 45 (0, 0))) ∧ (w'.heap[gb102]? = some (.cells #[.int .u8 a1_0, .int .u8 a1_1] 80 (0, 0))) ∧ (w'.heap[gb110]? = some (.cells #[.int .i64 (wrap64 (Int.tmod a1_0 4)), .int .i64 (1 + (((Int.tdiv a1_0 4) % 256) % 14)), .int .i64 (wrap64 (a1_1))] 47 (0, 0))) ∧ (w'.heap[s_]? = some (.cells #[.int .i64 0, .int .i64 0, .int .i64 0] 38 (0, 0))) ∧ (w.heap.size ≤ s_) ∧ (w.heap.size ≤ s_) ∧ (gb101 ≠ s_) ∧ (gb102 ≠ s_) ∧ (gb110 ≠ s_) ∧ (Below w.heap.size w w')) ?_ ?_
                               rotate_left
                               ·intro hJ15
                                refine four_ (i := 4) (j := 13) (k := 14) (m := 15) (Ni := some 58) (Nj := some 14) (Nk := some 15) (Nm := some 16) #[true, true, true, true, true, true, true, true, true, false, true, true, false, false, false, false, false, false, false] #[true, true, true, true, false, true, true, true, true, false, true, true, false, true, false, false, false, false, false] #[true, true, true, true, false, true, true, true, true, false, true, true, false, false, true, false, false, false, false] #[true, true, true, true, false, true, true, true, true, false, true, true, false, false, false, true, false, false, false] rfl rfl rfl rfl rfl rfl rfl rfl (four_of HT_.out (by kernel_rfl)) (by decide) (by decide) (by decide) (by decide) (fun K hK => ?_) (fun K hK => ?_) (fun K hK => ?_) (fun K hK => ?_)
                                ·refine gS Try.func33 #[.slice Ao44 t104.length co44, .slice Ao33 t107.length co33, .int .i64 (wrap64 (Int.tmod a2 8)), .int .i64 (wrap64 (a0_2))] ?_
                                 with_reducible refine (parolelaw42_bond.calls k _ _ t104 _ _ t107 (wrap64 (Int.tmod a2 8)) (wrap64 (a0_2)) t123 t124 t125 _ ?side1 ?side2 ?side3 ?side4 A10.out).mono ?_
                                 (case side1 => exact rC HO106)
                                 (case side2 => exact rN HO106)
                                 (case side3 => exact rC HO109)
                                 (case side4 => exact rN HO109)
                                 rintro e w47 ⟨rfl, hb⟩
                                 refine ⟨_, rfl, ?_⟩
                                 replace HO106 := rB HO106 hb; replace HO109 := rB HO109 hb; replace HO119 := rB HO119 hb; replace HO122 := rB HO122 hb; replace BK101 := bB BK101 hb; replace BK102 := bB BK102 hb; replace BK110 := bB BK110 hb; replace HB := sB HB hb; (try clear hb); (try clear hb2); (try clear hk); (try clear hi)
                                 refine hK.out _ _ ⟨cE BK110 0, cE BK110 1, cE BK110 2⟩ (fun hHeld => ?_)
                                 clear hK K
                                 refine nX (some 58) ?_
                                 exact nV (hJ4 () _ ⟨hHeld, rD HO106, (rD ⟨Kd.R_mono HO109.out (fun _ hk => ⟨hk.1.1, ⟨hk.2, hk.1.2⟩⟩)⟩), (rD ⟨Kd.R_mono HO119.out (fun _ hk => ⟨hk.1.1, ⟨hk.2, hk.1.2⟩⟩)⟩), rD HO122, bD BK101, bD BK102, bD BK110, sD HB⟩)
                                ·refine bS (N := 14) (cs := #[.int .i64 0, .int .i64 0, .int .i64 0]) (t := 38) ?_
                                 intro gb132 hg w47 hbox hb
                                 have BK132 := aM (hbox); have GW132 := gE hg HB; have GE132 := gE hg HB; have NB101_132 := nL hg BK101; have NB102_132 := nL hg BK102; have NB110_132 := nL hg BK110; replace HO106 := rB HO106 hb; replace HO109 := rB HO109 hb; replace HO119 := rB HO119 hb; replace HO122 := rB HO122 hb; replace BK101 := bB BK101 hb; replace BK102 := bB BK102 hb; replace BK110 := bB BK110 hb; replace HB := sB HB hb; clear hb hbox hg
                                 refine hK.out _ _ ⟨cE BK110 0, cE BK110 1, cE BK110 2⟩ (fun hHeld => ?_)
                                 clear hK K
                                 refine nX (some 14) ?_
                                 exact nV (hJ13 (gb132) _ ⟨hHeld, rD HO106, (rD ⟨Kd.R_mono HO109.out (fun _ hk => ⟨hk.1.1, ⟨hk.2, hk.1.2⟩⟩)⟩), (rD ⟨Kd.R_mono HO119.out (fun _ hk => ⟨hk.1.1, ⟨hk.2, hk.1.2⟩⟩)⟩), rD HO122, bD BK101, bD BK102, bD BK110, bD BK132, GW132.out, GE132.out, NB101_132.out, NB102_132.out, NB110_132.out, sD HB⟩)
                                ·refine bS (N := 15) (cs := #[.int .i64 0, .int .i64 0, .int .i64 0]) (t := 38) ?_
                                 intro gb133 hg w47 hbox hb
                                 have BK133 := aM (hbox); have GW133 := gE hg HB; have GE133 := gE hg HB; have NB101_133 := nL hg BK101; have NB102_133 := nL hg BK102; have NB110_133 := nL hg BK110; replace HO106 := rB HO106 hb; replace HO109 := rB HO109 hb; replace HO119 := rB HO119 hb; replace HO122 := rB HO122 hb; replace BK101 := bB BK101 hb; replace BK102 := bB BK102 hb; replace BK110 := bB BK110 hb; replace HB := sB HB hb; clear hb hbox hg
                                 refine hK.out _ _ ⟨cE BK110 0, cE BK110 1, cE BK110 2⟩ (fun hHeld => ?_)
                                 clear hK K
                                 refine nX (some 15) ?_
                                 exact nV (hJ14 (gb133) _ ⟨hHeld, rD HO106, (rD ⟨Kd.R_mono HO109.out (fun _ hk => ⟨hk.1.1, ⟨hk.2, hk.1.2⟩⟩)⟩), (rD ⟨Kd.R_mono HO119.out (fun _ hk => ⟨hk.1.1, ⟨hk.2, hk.1.2⟩⟩)⟩), rD HO122, bD BK101, bD BK102, bD BK110, bD BK133, GW133.out, GE133.out, NB101_133.out, NB102_133.out, NB110_133.out, sD HB⟩)
                                refine bS (N := 16) (cs := #[.int .i64 0, .int .i64 0, .int .i64 0]) (t := 38) ?_
                                intro gb134 hg w47 hbox hb
                                have BK134 := aM (hbox); have GW134 := gE hg HB; have GE134 := gE hg HB; have NB101_134 := nL hg BK101; have NB102_134 := nL hg BK102; have NB110_134 := nL hg BK110; replace HO106 := rB HO106 hb; replace HO109 := rB HO109 hb; replace HO119 := rB HO119 hb; replace HO122 := rB HO122 hb; replace BK101 := bB BK101 hb; replace BK102 := bB BK102 hb; replace BK110 := bB BK110 hb; replace HB := sB HB hb; clear hb hbox hg
                                refine hK.out _ _ ⟨cE BK110 0, cE BK110 1, cE BK110 2⟩ (fun hHeld => ?_)
                                clear hK K
                                refine nX (some 16) ?_
                                exact nV (hJ15 (gb134) _ ⟨hHeld, rD HO106, (rD ⟨Kd.R_mono HO109.out (fun _ hk => ⟨hk.1.1, ⟨hk.2, hk.1.2⟩⟩)⟩), (rD ⟨Kd.R_mono HO119.out (fun _ hk => ⟨hk.1.1, ⟨hk.2, hk.1.2⟩⟩)⟩), rD HO122, bD BK101, bD BK102, bD BK110, bD BK134, GW134.out, GE134.out, NB101_134.out, NB102_134.out, NB110_134.out, sD HB⟩)
                               rintro gb134 w48 ⟨hS_, h0_, h1_, h2_, h3_, h4_, h5_, h6_, h7_, h8_, h9_, h10_, h12_, h14_, h16_⟩
                               (try dsimp only at h0_ h1_ h2_ h3_ h4_ h5_ h6_ h7_ h8_ h9_ h10_ h12_ h14_ h16_)
                               have BK134 := aM h7_; have GW134 := aM h8_; have GE134 := aM h9_; have NB101_134 := aM h10_; have NB102_134 := aM h12_; have NB110_134 := aM h14_; replace HO106 := aM h0_; replace HO109 := aM h1_; replace HO119 := aM h2_; replace HO122 := aM h3_; replace BK101 := aM h4_; replace BK102 := aM h5_; replace BK110 := aM h6_; replace HB := aM h16_; clear h0_ h1_ h2_ h3_ h4_ h5_ h6_ h7_ h8_ h9_ h10_ h12_ h14_ h16_
                               (try dsimp only at hS_); have hHeld := hS_; clear hS_
                               refine nQ ?_
                               refine three3 (i := 4) (j := 13) (k := 14) (Ni := some 58) (Nj := some 14) (Nk := some 15) HT_ rfl rfl rfl rfl rfl rfl (fun K hK => ?_) (fun K hK => ?_) (fun K hK => ?_)
                               ·refine gS Try.func33 #[.slice Ao44 t104.length co44, .slice Ao33 t107.length co33, .int .i64 (wrap64 (Int.tmod a2 8)), .int .i64 (wrap64 (a0_2))] ?_
                                with_reducible refine (parolelaw42_bond.calls k _ _ t104 _ _ t107 (wrap64 (Int.tmod a2 8)) (wrap64 (a0_2)) t123 t124 t125 _ ?side1 ?side2 ?side3 ?side4 A10.out).mono ?_
                                (case side1 => exact rC HO106)
                                (case side2 => exact rN HO106)
                                (case side3 => exact rC HO109)
                                (case side4 => exact rN HO109)
                                rintro e w49 ⟨rfl, hb⟩
                                refine ⟨_, rfl, ?_⟩
                                replace HO106 := rB HO106 hb; replace HO109 := rB HO109 hb; replace HO119 := rB HO119 hb; replace HO122 := rB HO122 hb; replace BK101 := bB BK101 hb; replace BK102 := bB BK102 hb; replace BK110 := bB BK110 hb; replace BK134 := bB BK134 hb; replace HB := sB HB hb; (try clear hb); (try clear hb2); (try clear hk); (try clear hi)
                                refine hK.out _ _ ⟨cE BK110 0, cE BK110 1, cE BK110 2⟩ (fun hHeld => ?_)
                                clear hK K
                                refine nX (some 58) ?_
                                exact nV (hJ4_15 (gb134) _ ⟨hHeld, rD HO106, rD HO109, rD HO119, rD HO122, bD BK101, bD BK102, bD BK110, bD BK134, GW134.out, GE134.out, NB101_134.out, NB102_134.out, NB110_134.out, sD HB⟩)
                               ·refine bS (N := 14) (cs := #[.int .i64 0, .int .i64 0, .int .i64 0]) (t := 38) ?_
                                intro gb132 hg w49 hbox hb
                                have BK132 := aM (hbox); have GW132 := gE hg HB; have GE132 := gE hg HB; have NB101_132 := nL hg BK101; have NB102_132 := nL hg BK102; have NB110_132 := nL hg BK110; have NB132_134 := nG hg BK134; replace HO106 := rB HO106 hb; replace HO109 := rB HO109 hb; replace HO119 := rB HO119 hb; replace HO122 := rB HO122 hb; replace BK101 := bB BK101 hb; replace BK102 := bB BK102 hb; replace BK110 := bB BK110 hb; replace BK134 := bB BK134 hb; replace HB := sB HB hb; clear hb hbox hg
                                refine hK.out _ _ ⟨cE BK110 0, cE BK110 1, cE BK110 2⟩ (fun hHeld => ?_)
                                clear hK K
                                refine nX (some 14) ?_
                                exact nV (hJ13_15 (gb132, gb134) _ ⟨hHeld, rD HO106, rD HO109, rD HO119, rD HO122, bD BK101, bD BK102, bD BK110, bD BK132, bD BK134, GW132.out, GE132.out, NB101_132.out, NB102_132.out, NB110_132.out, NB132_134.out, GW134.out, GE134.out, NB101_134.out, NB102_134.out, NB110_134.out, sD HB⟩)
                               refine bS (N := 15) (cs := #[.int .i64 0, .int .i64 0, .int .i64 0]) (t := 38) ?_
                               intro gb133 hg w49 hbox hb
                               have BK133 := aM (hbox); have GW133 := gE hg HB; have GE133 := gE hg HB; have NB101_133 := nL hg BK101; have NB102_133 := nL hg BK102; have NB110_133 := nL hg BK110; have NB133_134 := nG hg BK134; replace HO106 := rB HO106 hb; replace HO109 := rB HO109 hb; replace HO119 := rB HO119 hb; replace HO122 := rB HO122 hb; replace BK101 := bB BK101 hb; replace BK102 := bB BK102 hb; replace BK110 := bB BK110 hb; replace BK134 := bB BK134 hb; replace HB := sB HB hb; clear hb hbox hg
                               refine hK.out _ _ ⟨cE BK110 0, cE BK110 1, cE BK110 2⟩ (fun hHeld => ?_)
                               clear hK K
                               refine nX (some 15) ?_
                               exact nV (hJ14_15 (gb133, gb134) _ ⟨hHeld, rD HO106, rD HO109, rD HO119, rD HO122, bD BK101, bD BK102, bD BK110, bD BK133, bD BK134, GW133.out, GE133.out, NB101_133.out, NB102_133.out, NB110_133.out, NB133_134.out, GW134.out, GE134.out, NB101_134.out, NB102_134.out, NB110_134.out, sD HB⟩)
                              rintro gb133 w48 ⟨hS_, h0_, h1_, h2_, h3_, h4_, h5_, h6_, h7_, h8_, h9_, h10_, h12_, h14_, h16_⟩
                              (try dsimp only at h0_ h1_ h2_ h3_ h4_ h5_ h6_ h7_ h8_ h9_ h10_ h12_ h14_ h16_)
                              have BK133 := aM h7_; have GW133 := aM h8_; have GE133 := aM h9_; have NB101_133 := aM h10_; have NB102_133 := aM h12_; have NB110_133 := aM h14_; replace HO106 := aM h0_; replace HO109 := aM h1_; replace HO119 := aM h2_; replace HO122 := aM h3_; replace BK101 := aM h4_; replace BK102 := aM h5_; replace BK110 := aM h6_; replace HB := aM h16_; clear h0_ h1_ h2_ h3_ h4_ h5_ h6_ h7_ h8_ h9_ h10_ h12_ h14_ h16_
                              (try dsimp only at hS_); have hHeld := hS_; clear hS_
                              refine nQ ?_
                              refine three3 (i := 4) (j := 13) (k := 15) (Ni := some 58) (Nj := some 14) (Nk := some 16) HT_ rfl rfl rfl rfl rfl rfl (fun K hK => ?_) (fun K hK => ?_) (fun K hK => ?_)
                              ·refine gS Try.func33 #[.slice Ao44 t104.length co44, .slice Ao33 t107.length co33, .int .i64 (wrap64 (Int.tmod a2 8)), .int .i64 (wrap64 (a0_2))] ?_
                               with_reducible refine (parolelaw42_bond.calls k _ _ t104 _ _ t107 (wrap64 (Int.tmod a2 8)) (wrap64 (a0_2)) t123 t124 t125 _ ?side1 ?side2 ?side3 ?side4 A10.out).mono ?_
                               (case side1 => exact rC HO106)
                               (case side2 => exact rN HO106)
                               (case side3 => exact rC HO109)
                               (case side4 => exact rN HO109)
                               rintro e w49 ⟨rfl, hb⟩
                               refine ⟨_, rfl, ?_⟩
                               replace HO106 := rB HO106 hb; replace HO109 := rB HO109 hb; replace HO119 := rB HO119 hb; replace HO122 := rB HO122 hb; replace BK101 := bB BK101 hb; replace BK102 := bB BK102 hb; replace BK110 := bB BK110 hb; replace BK133 := bB BK133 hb; replace HB := sB HB hb; (try clear hb); (try clear hb2); (try clear hk); (try clear hi)
                               refine hK.out _ _ ⟨cE BK110 0, cE BK110 1, cE BK110 2⟩ (fun hHeld => ?_)
                               clear hK K
                               refine nX (some 58) ?_
                               exact nV (hJ4_14 (gb133) _ ⟨hHeld, rD HO106, rD HO109, rD HO119, rD HO122, bD BK101, bD BK102, bD BK110, bD BK133, GW133.out, GE133.out, NB101_133.out, NB102_133.out, NB110_133.out, sD HB⟩)
                              ·refine bS (N := 14) (cs := #[.int .i64 0, .int .i64 0, .int .i64 0]) (t := 38) ?_
                               intro gb132 hg w49 hbox hb
                               have BK132 := aM (hbox); have GW132 := gE hg HB; have GE132 := gE hg HB; have NB101_132 := nL hg BK101; have NB102_132 := nL hg BK102; have NB110_132 := nL hg BK110; have NB132_133 := nG hg BK133; replace HO106 := rB HO106 hb; replace HO109 := rB HO109 hb; replace HO119 := rB HO119 hb; replace HO122 := rB HO122 hb; replace BK101 := bB BK101 hb; replace BK102 := bB BK102 hb; replace BK110 := bB BK110 hb; replace BK133 := bB BK133 hb; replace HB := sB HB hb; clear hb hbox hg
                               refine hK.out _ _ ⟨cE BK110 0, cE BK110 1, cE BK110 2⟩ (fun hHeld => ?_)
                               clear hK K
                               refine nX (some 14) ?_
                               exact nV (hJ13_14 (gb132, gb133) _ ⟨hHeld, rD HO106, rD HO109, rD HO119, rD HO122, bD BK101, bD BK102, bD BK110, bD BK132, bD BK133, GW132.out, GE132.out, NB101_132.out, NB102_132.out, NB110_132.out, NB132_133.out, GW133.out, GE133.out, NB101_133.out, NB102_133.out, NB110_133.out, sD HB⟩)
                              refine bS (N := 16) (cs := #[.int .i64 0, .int .i64 0, .int .i64 0]) (t := 38) ?_
                              intro gb134 hg w49 hbox hb
                              have BK134 := aM (hbox); have GW134 := gE hg HB; have GE134 := gE hg HB; have NB101_134 := nL hg BK101; have NB102_134 := nL hg BK102; have NB110_134 := nL hg BK110; have NB133_134 := nL hg BK133; replace HO106 := rB HO106 hb; replace HO109 := rB HO109 hb; replace HO119 := rB HO119 hb; replace HO122 := rB HO122 hb; replace BK101 := bB BK101 hb; replace BK102 := bB BK102 hb; replace BK110 := bB BK110 hb; replace BK133 := bB BK133 hb; replace HB := sB HB hb; clear hb hbox hg
                              refine hK.out _ _ ⟨cE BK110 0, cE BK110 1, cE BK110 2⟩ (fun hHeld => ?_)
                              clear hK K
                              refine nX (some 16) ?_
                              exact nV (hJ14_15 (gb133, gb134) _ ⟨hHeld, rD HO106, rD HO109, rD HO119, rD HO122, bD BK101, bD BK102, bD BK110, bD BK133, bD BK134, GW133.out, GE133.out, NB101_133.out, NB102_133.out, NB110_133.out, NB133_134.out, GW134.out, GE134.out, NB101_134.out, NB102_134.out, NB110_134.out, sD HB⟩)
                             rintro gb132 w48 ⟨hS_, h0_, h1_, h2_, h3_, h4_, h5_, h6_, h7_, h8_, h9_, h10_, h12_, h14_, h16_⟩
                             (try dsimp only at h0_ h1_ h2_ h3_ h4_ h5_ h6_ h7_ h8_ h9_ h10_ h12_ h14_ h16_)
                             have BK132 := aM h7_; have GW132 := aM h8_; have GE132 := aM h9_; have NB101_132 := aM h10_; have NB102_132 := aM h12_; have NB110_132 := aM h14_; replace HO106 := aM h0_; replace HO109 := aM h1_; replace HO119 := aM h2_; replace HO122 := aM h3_; replace BK101 := aM h4_; replace BK102 := aM h5_; replace BK110 := aM h6_; replace HB := aM h16_; clear h0_ h1_ h2_ h3_ h4_ h5_ h6_ h7_ h8_ h9_ h10_ h12_ h14_ h16_
                             (try dsimp only at hS_); have hHeld := hS_; clear hS_
                             refine nQ ?_
                             refine three3 (i := 4) (j := 14) (k := 15) (Ni := some 58) (Nj := some 15) (Nk := some 16) HT_ rfl rfl rfl rfl rfl rfl (fun K hK => ?_) (fun K hK => ?_) (fun K hK => ?_)
                             ·refine gS Try.func33 #[.slice Ao44 t104.length co44, .slice Ao33 t107.length co33, .int .i64 (wrap64 (Int.tmod a2 8)), .int .i64 (wrap64 (a0_2))] ?_
                              with_reducible refine (parolelaw42_bond.calls k _ _ t104 _ _ t107 (wrap64 (Int.tmod a2 8)) (wrap64 (a0_2)) t123 t124 t125 _ ?side1 ?side2 ?side3 ?side4 A10.out).mono ?_
                              (case side1 => exact rC HO106)
                              (case side2 => exact rN HO106)
                              (case side3 => exact rC HO109)
                              (case side4 => exact rN HO109)
                              rintro e w49 ⟨rfl, hb⟩
                              refine ⟨_, rfl, ?_⟩
                              replace HO106 := rB HO106 hb; replace HO109 := rB HO109 hb; replace HO119 := rB HO119 hb; replace HO122 := rB HO122 hb; replace BK101 := bB BK101 hb; replace BK102 := bB BK102 hb; replace BK110 := bB BK110 hb; replace BK132 := bB BK132 hb; replace HB := sB HB hb; (try clear hb); (try clear hb2); (try clear hk); (try clear hi)
                              refine hK.out _ _ ⟨cE BK110 0, cE BK110 1, cE BK110 2⟩ (fun hHeld => ?_)
                              clear hK K
                              refine nX (some 58) ?_
                              exact nV (hJ4_13 (gb132) _ ⟨hHeld, rD HO106, rD HO109, rD HO119, rD HO122, bD BK101, bD BK102, bD BK110, bD BK132, GW132.out, GE132.out, NB101_132.out, NB102_132.out, NB110_132.out, sD HB⟩)
                             ·refine bS (N := 15) (cs := #[.int .i64 0, .int .i64 0, .int .i64 0]) (t := 38) ?_
                              intro gb133 hg w49 hbox hb
                              have BK133 := aM (hbox); have GW133 := gE hg HB; have GE133 := gE hg HB; have NB101_133 := nL hg BK101; have NB102_133 := nL hg BK102; have NB110_133 := nL hg BK110; have NB132_133 := nL hg BK132; replace HO106 := rB HO106 hb; replace HO109 := rB HO109 hb; replace HO119 := rB HO119 hb; replace HO122 := rB HO122 hb; replace BK101 := bB BK101 hb; replace BK102 := bB BK102 hb; replace BK110 := bB BK110 hb; replace BK132 := bB BK132 hb; replace HB := sB HB hb; clear hb hbox hg
                              refine hK.out _ _ ⟨cE BK110 0, cE BK110 1, cE BK110 2⟩ (fun hHeld => ?_)
                              clear hK K
                              refine nX (some 15) ?_
                              exact nV (hJ13_14 (gb132, gb133) _ ⟨hHeld, rD HO106, rD HO109, rD HO119, rD HO122, bD BK101, bD BK102, bD BK110, bD BK132, bD BK133, GW132.out, GE132.out, NB101_132.out, NB102_132.out, NB110_132.out, NB132_133.out, GW133.out, GE133.out, NB101_133.out, NB102_133.out, NB110_133.out, sD HB⟩)
                             refine bS (N := 16) (cs := #[.int .i64 0, .int .i64 0, .int .i64 0]) (t := 38) ?_
                             intro gb134 hg w49 hbox hb
                             have BK134 := aM (hbox); have GW134 := gE hg HB; have GE134 := gE hg HB; have NB101_134 := nL hg BK101; have NB102_134 := nL hg BK102; have NB110_134 := nL hg BK110; have NB132_134 := nL hg BK132; replace HO106 := rB HO106 hb; replace HO109 := rB HO109 hb; replace HO119 := rB HO119 hb; replace HO122 := rB HO122 hb; replace BK101 := bB BK101 hb; replace BK102 := bB BK102 hb; replace BK110 := bB BK110 hb; replace BK132 := bB BK132 hb; replace HB := sB HB hb; clear hb hbox hg
                             refine hK.out _ _ ⟨cE BK110 0, cE BK110 1, cE BK110 2⟩ (fun hHeld => ?_)
                             clear hK K
                             refine nX (some 16) ?_
                             exact nV (hJ13_15 (gb132, gb134) _ ⟨hHeld, rD HO106, rD HO109, rD HO119, rD HO122, bD BK101, bD BK102, bD BK110, bD BK132, bD BK134, GW132.out, GE132.out, NB101_132.out, NB102_132.out, NB110_132.out, NB132_134.out, GW134.out, GE134.out, NB101_134.out, NB102_134.out, NB110_134.out, sD HB⟩)
                            rintro _ w48 ⟨hS_, h0_, h1_, h2_, h3_, h4_, h5_, h6_, h7_⟩
                            (try dsimp only at h0_ h1_ h2_ h3_ h4_ h5_ h6_ h7_)
                            replace HO106 := aM h0_; replace HO109 := aM h1_; replace HO119 := aM h2_; replace HO122 := aM h3_; replace BK101 := aM h4_; replace BK102 := aM h5_; replace BK110 := aM h6_; replace HB := aM h7_; clear h0_ h1_ h2_ h3_ h4_ h5_ h6_ h7_
                            (try dsimp only at hS_); have hHeld := hS_; clear hS_
                            refine nQ ?_
                            refine four_ (i := 9) (j := 13) (k := 14) (m := 15) (Ni := some 63) (Nj := some 14) (Nk := some 15) (Nm := some 16) #[true, true, true, true, true, true, true, true, true, true, true, true, false, false, false, false, false, false, false] #[true, true, true, true, true, true, true, true, true, false, true, true, false, true, false, false, false, false, false] #[true, true, true, true, true, true, true, true, true, false, true, true, false, false, true, false, false, false, false] #[true, true, true, true, true, true, true, true, true, false, true, true, false, false, false, true, false, false, false] rfl rfl rfl rfl rfl rfl rfl rfl (four_of HT_.out (by kernel_rfl)) (by decide) (by decide) (by decide) (by decide) (fun K hK => ?_) (fun K hK => ?_) (fun K hK => ?_) (fun K hK => ?_)
                            ·refine gS Try.func33 #[.slice Ao44 t104.length co44, .slice Ao45 y120.length co45, .int .i64 (wrap64 (Int.tmod a2 8)), .int .i64 (wrap64 (a0_2))] ?_
                             with_reducible refine (parolelaw42_bond.calls k _ _ t104 _ _ y120 (wrap64 (Int.tmod a2 8)) (wrap64 (a0_2)) t126 t127 t128 _ ?side1 ?side2 ?side3 ?side4 A11.out).mono ?_
                             (case side1 => exact rC HO106)
                             (case side2 => exact rN HO106)
                             (case side3 => exact rC HO122)
                             (case side4 => exact rN HO122)
                             rintro e w49 ⟨rfl, hb⟩
                             refine ⟨_, rfl, ?_⟩
                             replace HO106 := rB HO106 hb; replace HO109 := rB HO109 hb; replace HO119 := rB HO119 hb; replace HO122 := rB HO122 hb; replace BK101 := bB BK101 hb; replace BK102 := bB BK102 hb; replace BK110 := bB BK110 hb; replace HB := sB HB hb; (try clear hb); (try clear hb2); (try clear hk); (try clear hi)
                             refine hK.out _ _ ⟨cE BK110 0, cE BK110 1, cE BK110 2⟩ (fun hHeld => ?_)
                             clear hK K
                             refine nX (some 63) ?_
                             exact nV (hJ4_9 () _ ⟨hHeld, rD HO106, rD HO109, rD HO119, rD HO122, bD BK101, bD BK102, bD BK110, sD HB⟩)
                            ·refine bS (N := 14) (cs := #[.int .i64 0, .int .i64 0, .int .i64 0]) (t := 38) ?_
                             intro gb132 hg w49 hbox hb
                             have BK132 := aM (hbox); have GW132 := gE hg HB; have GE132 := gE hg HB; have NB101_132 := nL hg BK101; have NB102_132 := nL hg BK102; have NB110_132 := nL hg BK110; replace HO106 := rB HO106 hb; replace HO109 := rB HO109 hb; replace HO119 := rB HO119 hb; replace HO122 := rB HO122 hb; replace BK101 := bB BK101 hb; replace BK102 := bB BK102 hb; replace BK110 := bB BK110 hb; replace HB := sB HB hb; clear hb hbox hg
                             refine hK.out _ _ ⟨cE BK110 0, cE BK110 1, cE BK110 2⟩ (fun hHeld => ?_)
                             clear hK K
                             refine nX (some 14) ?_
                             exact nV (hJ4_13 (gb132) _ ⟨hHeld, rD HO106, rD HO109, rD HO119, rD HO122, bD BK101, bD BK102, bD BK110, bD BK132, GW132.out, GE132.out, NB101_132.out, NB102_132.out, NB110_132.out, sD HB⟩)
                            ·refine bS (N := 15) (cs := #[.int .i64 0, .int .i64 0, .int .i64 0]) (t := 38) ?_
                             intro gb133 hg w49 hbox hb
                             have BK133 := aM (hbox); have GW133 := gE hg HB; have GE133 := gE hg HB; have NB101_133 := nL hg BK101; have NB102_133 := nL hg BK102; have NB110_133 := nL hg BK110; replace HO106 := rB HO106 hb; replace HO109 := rB HO109 hb; replace HO119 := rB HO119 hb; replace HO122 := rB HO122 hb; replace BK101 := bB BK101 hb; replace BK102 := bB BK102 hb; replace BK110 := bB BK110 hb; replace HB := sB HB hb; clear hb hbox hg
                             refine hK.out _ _ ⟨cE BK110 0, cE BK110 1, cE BK110 2⟩ (fun hHeld => ?_)
                             clear hK K
                             refine nX (some 15) ?_
                             exact nV (hJ4_14 (gb133) _ ⟨hHeld, rD HO106, rD HO109, rD HO119, rD HO122, bD BK101, bD BK102, bD BK110, bD BK133, GW133.out, GE133.out, NB101_133.out, NB102_133.out, NB110_133.out, sD HB⟩)
                            refine bS (N := 16) (cs := #[.int .i64 0, .int .i64 0, .int .i64 0]) (t := 38) ?_
                            intro gb134 hg w49 hbox hb
                            have BK134 := aM (hbox); have GW134 := gE hg HB; have GE134 := gE hg HB; have NB101_134 := nL hg BK101; have NB102_134 := nL hg BK102; have NB110_134 := nL hg BK110; replace HO106 := rB HO106 hb; replace HO109 := rB HO109 hb; replace HO119 := rB HO119 hb; replace HO122 := rB HO122 hb; replace BK101 := bB BK101 hb; replace BK102 := bB BK102 hb; replace BK110 := bB BK110 hb; replace HB := sB HB hb; clear hb hbox hg
                            refine hK.out _ _ ⟨cE BK110 0, cE BK110 1, cE BK110 2⟩ (fun hHeld => ?_)
                            clear hK K
                            refine nX (some 16) ?_
                            exact nV (hJ4_15 (gb134) _ ⟨hHeld, rD HO106, rD HO109, rD HO119, rD HO122, bD BK101, bD BK102, bD BK110, bD BK134, GW134.out, GE134.out, NB101_134.out, NB102_134.out, NB110_134.out, sD HB⟩)
                           rintro ⟨gb133, gb134⟩ w49 ⟨hS_, h0_, h1_, h2_, h3_, h4_, h5_, h6_, h7_, h8_, h9_, h10_, h11_, h13_, h15_, h18_, h19_, h20_, h21_, h23_, h25_, h27_⟩
                           (try dsimp only at h0_ h1_ h2_ h3_ h4_ h5_ h6_ h7_ h8_ h9_ h10_ h11_ h13_ h15_ h18_ h19_ h20_ h21_ h23_ h25_ h27_)
                           have BK133 := aM h7_; have BK134 := aM h8_; have GW133 := aM h9_; have GE133 := aM h10_; have NB101_133 := aM h11_; have NB102_133 := aM h13_; have NB110_133 := aM h15_; have NB133_134 := aM h18_; have GW134 := aM h19_; have GE134 := aM h20_; have NB101_134 := aM h21_; have NB102_134 := aM h23_; have NB110_134 := aM h25_
                           replace HO106 := aM h0_; replace HO109 := aM h1_; replace HO119 := aM h2_; replace HO122 := aM h3_; replace BK101 := aM h4_; replace BK102 := aM h5_; replace BK110 := aM h6_; replace HB := aM h27_; clear h0_ h1_ h2_ h3_ h4_ h5_ h6_ h7_ h8_ h9_ h10_ h11_ h13_ h15_ h18_ h19_ h20_ h21_ h23_ h25_ h27_
                           (try dsimp only at hS_); have hHeld := hS_; clear hS_
                           refine nQ ?_
                           refine two2 (i := 4) (j := 13) (Ni := some 58) (Nj := some 14) HT_ rfl rfl rfl rfl (fun K hK => ?_) (fun K hK => ?_)
                           ·refine gS Try.func33 #[.slice Ao44 t104.length co44, .slice Ao33 t107.length co33, .int .i64 (wrap64 (Int.tmod a2 8)), .int .i64 (wrap64 (a0_2))] ?_
                            with_reducible refine (parolelaw42_bond.calls k _ _ t104 _ _ t107 (wrap64 (Int.tmod a2 8)) (wrap64 (a0_2)) t123 t124 t125 _ ?side1 ?side2 ?side3 ?side4 A10.out).mono ?_
                            (case side1 => exact rC HO106)
                            (case side2 => exact rN HO106)
                            (case side3 => exact rC HO109)
                            (case side4 => exact rN HO109)
                            rintro e w50 ⟨rfl, hb⟩
                            refine ⟨_, rfl, ?_⟩
                            replace HO106 := rB HO106 hb; replace HO109 := rB HO109 hb; replace HO119 := rB HO119 hb; replace HO122 := rB HO122 hb; replace BK101 := bB BK101 hb; replace BK102 := bB BK102 hb; replace BK110 := bB BK110 hb; replace BK133 := bB BK133 hb; replace BK134 := bB BK134 hb; replace HB := sB HB hb; (try clear hb); (try clear hb2); (try clear hk); (try clear hi)
                            refine hK.out _ _ ⟨cE BK110 0, cE BK110 1, cE BK110 2⟩ (fun hHeld => ?_)
                            clear hK K
                            refine nX (some 58) ?_
                            exact nV (hJ4_14_15 (gb133, gb134) _ ⟨hHeld, rD HO106, rD HO109, rD HO119, rD HO122, bD BK101, bD BK102, bD BK110, bD BK133, bD BK134, GW133.out, GE133.out, NB101_133.out, NB102_133.out, NB110_133.out, NB133_134.out, GW134.out, GE134.out, NB101_134.out, NB102_134.out, NB110_134.out, sD HB⟩)
                           refine bS (N := 14) (cs := #[.int .i64 0, .int .i64 0, .int .i64 0]) (t := 38) ?_
                           intro gb132 hg w50 hbox hb
                           have BK132 := aM (hbox); have GW132 := gE hg HB; have GE132 := gE hg HB; have NB101_132 := nL hg BK101; have NB102_132 := nL hg BK102; have NB110_132 := nL hg BK110; have NB132_133 := nG hg BK133; have NB132_134 := nG hg BK134; replace HO106 := rB HO106 hb; replace HO109 := rB HO109 hb; replace HO119 := rB HO119 hb; replace HO122 := rB HO122 hb; replace BK101 := bB BK101 hb; replace BK102 := bB BK102 hb; replace BK110 := bB BK110 hb; replace BK133 := bB BK133 hb; replace BK134 := bB BK134 hb; replace HB := sB HB hb; clear hb hbox hg
                           refine hK.out _ _ ⟨cE BK110 0, cE BK110 1, cE BK110 2⟩ (fun hHeld => ?_)
                           clear hK K
                           refine nX (some 14) ?_
                           exact nV (hJ13_14_15 (gb132, gb133, gb134) _ ⟨hHeld, rD HO106, rD HO109, rD HO119, rD HO122, bD BK101, bD BK102, bD BK110, bD BK132, bD BK133, bD BK134, GW132.out, GE132.out, NB101_132.out, NB102_132.out, NB110_132.out, NB132_133.out, NB132_134.out, GW133.out, GE133.out, NB101_133.out, NB102_133.out, NB110_133.out, NB133_134.out, GW134.out, GE134.out, NB101_134.out, NB102_134.out, NB110_134.out, sD HB⟩)
                          rintro ⟨gb132, gb134⟩ w49 ⟨hS_, h0_, h1_, h2_, h3_, h4_, h5_, h6_, h7_, h8_, h9_, h10_, h11_, h13_, h15_, h18_, h19_, h20_, h21_, h23_, h25_, h27_⟩
                          (try dsimp only at h0_ h1_ h2_ h3_ h4_ h5_ h6_ h7_ h8_ h9_ h10_ h11_ h13_ h15_ h18_ h19_ h20_ h21_ h23_ h25_ h27_)
                          have BK132 := aM h7_; have BK134 := aM h8_; have GW132 := aM h9_; have GE132 := aM h10_; have NB101_132 := aM h11_; have NB102_132 := aM h13_; have NB110_132 := aM h15_; have NB132_134 := aM h18_; have GW134 := aM h19_; have GE134 := aM h20_; have NB101_134 := aM h21_; have NB102_134 := aM h23_; have NB110_134 := aM h25_
                          replace HO106 := aM h0_; replace HO109 := aM h1_; replace HO119 := aM h2_; replace HO122 := aM h3_; replace BK101 := aM h4_; replace BK102 := aM h5_; replace BK110 := aM h6_; replace HB := aM h27_; clear h0_ h1_ h2_ h3_ h4_ h5_ h6_ h7_ h8_ h9_ h10_ h11_ h13_ h15_ h18_ h19_ h20_ h21_ h23_ h25_ h27_
                          (try dsimp only at hS_); have hHeld := hS_; clear hS_
                          refine nQ ?_
                          refine two2 (i := 4) (j := 14) (Ni := some 58) (Nj := some 15) HT_ rfl rfl rfl rfl (fun K hK => ?_) (fun K hK => ?_)
                          ·refine gS Try.func33 #[.slice Ao44 t104.length co44, .slice Ao33 t107.length co33, .int .i64 (wrap64 (Int.tmod a2 8)), .int .i64 (wrap64 (a0_2))] ?_
                           with_reducible refine (parolelaw42_bond.calls k _ _ t104 _ _ t107 (wrap64 (Int.tmod a2 8)) (wrap64 (a0_2)) t123 t124 t125 _ ?side1 ?side2 ?side3 ?side4 A10.out).mono ?_
                           (case side1 => exact rC HO106)
                           (case side2 => exact rN HO106)
                           (case side3 => exact rC HO109)
                           (case side4 => exact rN HO109)
                           rintro e w50 ⟨rfl, hb⟩
                           refine ⟨_, rfl, ?_⟩
                           replace HO106 := rB HO106 hb; replace HO109 := rB HO109 hb; replace HO119 := rB HO119 hb; replace HO122 := rB HO122 hb; replace BK101 := bB BK101 hb; replace BK102 := bB BK102 hb; replace BK110 := bB BK110 hb; replace BK132 := bB BK132 hb; replace BK134 := bB BK134 hb; replace HB := sB HB hb; (try clear hb); (try clear hb2); (try clear hk); (try clear hi)
                           refine hK.out _ _ ⟨cE BK110 0, cE BK110 1, cE BK110 2⟩ (fun hHeld => ?_)
                           clear hK K
                           refine nX (some 58) ?_
                           exact nV (hJ4_13_15 (gb132, gb134) _ ⟨hHeld, rD HO106, rD HO109, rD HO119, rD HO122, bD BK101, bD BK102, bD BK110, bD BK132, bD BK134, GW132.out, GE132.out, NB101_132.out, NB102_132.out, NB110_132.out, NB132_134.out, GW134.out, GE134.out, NB101_134.out, NB102_134.out, NB110_134.out, sD HB⟩)
                          refine bS (N := 15) (cs := #[.int .i64 0, .int .i64 0, .int .i64 0]) (t := 38) ?_
                          intro gb133 hg w50 hbox hb
                          have BK133 := aM (hbox); have GW133 := gE hg HB; have GE133 := gE hg HB; have NB101_133 := nL hg BK101; have NB102_133 := nL hg BK102; have NB110_133 := nL hg BK110; have NB132_133 := nL hg BK132; have NB133_134 := nG hg BK134; replace HO106 := rB HO106 hb; replace HO109 := rB HO109 hb; replace HO119 := rB HO119 hb; replace HO122 := rB HO122 hb; replace BK101 := bB BK101 hb; replace BK102 := bB BK102 hb; replace BK110 := bB BK110 hb; replace BK132 := bB BK132 hb; replace BK134 := bB BK134 hb; replace HB := sB HB hb; clear hb hbox hg
                          refine hK.out _ _ ⟨cE BK110 0, cE BK110 1, cE BK110 2⟩ (fun hHeld => ?_)
                          clear hK K
                          refine nX (some 15) ?_
                          exact nV (hJ13_14_15 (gb132, gb133, gb134) _ ⟨hHeld, rD HO106, rD HO109, rD HO119, rD HO122, bD BK101, bD BK102, bD BK110, bD BK132, bD BK133, bD BK134, GW132.out, GE132.out, NB101_132.out, NB102_132.out, NB110_132.out, NB132_133.out, NB132_134.out, GW133.out, GE133.out, NB101_133.out, NB102_133.out, NB110_133.out, NB133_134.out, GW134.out, GE134.out, NB101_134.out, NB102_134.out, NB110_134.out, sD HB⟩)
                         rintro ⟨gb132, gb133⟩ w49 ⟨hS_, h0_, h1_, h2_, h3_, h4_, h5_, h6_, h7_, h8_, h9_, h10_, h11_, h13_, h15_, h18_, h19_, h20_, h21_, h23_, h25_, h27_⟩
                         (try dsimp only at h0_ h1_ h2_ h3_ h4_ h5_ h6_ h7_ h8_ h9_ h10_ h11_ h13_ h15_ h18_ h19_ h20_ h21_ h23_ h25_ h27_)
                         have BK132 := aM h7_; have BK133 := aM h8_; have GW132 := aM h9_; have GE132 := aM h10_; have NB101_132 := aM h11_; have NB102_132 := aM h13_; have NB110_132 := aM h15_; have NB132_133 := aM h18_; have GW133 := aM h19_; have GE133 := aM h20_; have NB101_133 := aM h21_; have NB102_133 := aM h23_; have NB110_133 := aM h25_
                         replace HO106 := aM h0_; replace HO109 := aM h1_; replace HO119 := aM h2_; replace HO122 := aM h3_; replace BK101 := aM h4_; replace BK102 := aM h5_; replace BK110 := aM h6_; replace HB := aM h27_; clear h0_ h1_ h2_ h3_ h4_ h5_ h6_ h7_ h8_ h9_ h10_ h11_ h13_ h15_ h18_ h19_ h20_ h21_ h23_ h25_ h27_
                         (try dsimp only at hS_); have hHeld := hS_; clear hS_
                         refine nQ ?_
                         refine two2 (i := 4) (j := 15) (Ni := some 58) (Nj := some 16) HT_ rfl rfl rfl rfl (fun K hK => ?_) (fun K hK => ?_)
                         ·refine gS Try.func33 #[.slice Ao44 t104.length co44, .slice Ao33 t107.length co33, .int .i64 (wrap64 (Int.tmod a2 8)), .int .i64 (wrap64 (a0_2))] ?_
                          with_reducible refine (parolelaw42_bond.calls k _ _ t104 _ _ t107 (wrap64 (Int.tmod a2 8)) (wrap64 (a0_2)) t123 t124 t125 _ ?side1 ?side2 ?side3 ?side4 A10.out).mono ?_
                          (case side1 => exact rC HO106)
                          (case side2 => exact rN HO106)
                          (case side3 => exact rC HO109)
                          (case side4 => exact rN HO109)
                          rintro e w50 ⟨rfl, hb⟩
                          refine ⟨_, rfl, ?_⟩
                          replace HO106 := rB HO106 hb; replace HO109 := rB HO109 hb; replace HO119 := rB HO119 hb; replace HO122 := rB HO122 hb; replace BK101 := bB BK101 hb; replace BK102 := bB BK102 hb; replace BK110 := bB BK110 hb; replace BK132 := bB BK132 hb; replace BK133 := bB BK133 hb; replace HB := sB HB hb; (try clear hb); (try clear hb2); (try clear hk); (try clear hi)
                          refine hK.out _ _ ⟨cE BK110 0, cE BK110 1, cE BK110 2⟩ (fun hHeld => ?_)
                          clear hK K
                          refine nX (some 58) ?_
                          exact nV (hJ4_13_14 (gb132, gb133) _ ⟨hHeld, rD HO106, rD HO109, rD HO119, rD HO122, bD BK101, bD BK102, bD BK110, bD BK132, bD BK133, GW132.out, GE132.out, NB101_132.out, NB102_132.out, NB110_132.out, NB132_133.out, GW133.out, GE133.out, NB101_133.out, NB102_133.out, NB110_133.out, sD HB⟩)
                         refine bS (N := 16) (cs := #[.int .i64 0, .int .i64 0, .int .i64 0]) (t := 38) ?_
                         intro gb134 hg w50 hbox hb
                         have BK134 := aM (hbox); have GW134 := gE hg HB; have GE134 := gE hg HB; have NB101_134 := nL hg BK101; have NB102_134 := nL hg BK102; have NB110_134 := nL hg BK110; have NB132_134 := nL hg BK132; have NB133_134 := nL hg BK133; replace HO106 := rB HO106 hb; replace HO109 := rB HO109 hb; replace HO119 := rB HO119 hb; replace HO122 := rB HO122 hb; replace BK101 := bB BK101 hb; replace BK102 := bB BK102 hb; replace BK110 := bB BK110 hb; replace BK132 := bB BK132 hb; replace BK133 := bB BK133 hb; replace HB := sB HB hb; clear hb hbox hg
                         refine hK.out _ _ ⟨cE BK110 0, cE BK110 1, cE BK110 2⟩ (fun hHeld => ?_)
                         clear hK K
                         refine nX (some 16) ?_
                         exact nV (hJ13_14_15 (gb132, gb133, gb134) _ ⟨hHeld, rD HO106, rD HO109, rD HO119, rD HO122, bD BK101, bD BK102, bD BK110, bD BK132, bD BK133, bD BK134, GW132.out, GE132.out, NB101_132.out, NB102_132.out, NB110_132.out, NB132_133.out, NB132_134.out, GW133.out, GE133.out, NB101_133.out, NB102_133.out, NB110_133.out, NB133_134.out, GW134.out, GE134.out, NB101_134.out, NB102_134.out, NB110_134.out, sD HB⟩)
                        rintro gb134 w49 ⟨hS_, h0_, h1_, h2_, h3_, h4_, h5_, h6_, h7_, h8_, h9_, h10_, h12_, h14_, h16_⟩
                        (try dsimp only at h0_ h1_ h2_ h3_ h4_ h5_ h6_ h7_ h8_ h9_ h10_ h12_ h14_ h16_)
                        have BK134 := aM h7_; have GW134 := aM h8_; have GE134 := aM h9_; have NB101_134 := aM h10_; have NB102_134 := aM h12_; have NB110_134 := aM h14_; replace HO106 := aM h0_; replace HO109 := aM h1_; replace HO119 := aM h2_; replace HO122 := aM h3_; replace BK101 := aM h4_; replace BK102 := aM h5_; replace BK110 := aM h6_; replace HB := aM h16_; clear h0_ h1_ h2_ h3_ h4_ h5_ h6_ h7_ h8_ h9_ h10_ h12_ h14_ h16_
                        (try dsimp only at hS_); have hHeld := hS_; clear hS_
                        refine nQ ?_
                        refine three3 (i := 9) (j := 13) (k := 14) (Ni := some 63) (Nj := some 14) (Nk := some 15) HT_ rfl rfl rfl rfl rfl rfl (fun K hK => ?_) (fun K hK => ?_) (fun K hK => ?_)
                        ·refine gS Try.func33 #[.slice Ao44 t104.length co44, .slice Ao45 y120.length co45, .int .i64 (wrap64 (Int.tmod a2 8)), .int .i64 (wrap64 (a0_2))] ?_
                         with_reducible refine (parolelaw42_bond.calls k _ _ t104 _ _ y120 (wrap64 (Int.tmod a2 8)) (wrap64 (a0_2)) t126 t127 t128 _ ?side1 ?side2 ?side3 ?side4 A11.out).mono ?_
                         (case side1 => exact rC HO106)
                         (case side2 => exact rN HO106)
                         (case side3 => exact rC HO122)
                         (case side4 => exact rN HO122)
                         rintro e w50 ⟨rfl, hb⟩
                         refine ⟨_, rfl, ?_⟩
                         replace HO106 := rB HO106 hb; replace HO109 := rB HO109 hb; replace HO119 := rB HO119 hb; replace HO122 := rB HO122 hb; replace BK101 := bB BK101 hb; replace BK102 := bB BK102 hb; replace BK110 := bB BK110 hb; replace BK134 := bB BK134 hb; replace HB := sB HB hb; (try clear hb); (try clear hb2); (try clear hk); (try clear hi)
                         refine hK.out _ _ ⟨cE BK110 0, cE BK110 1, cE BK110 2⟩ (fun hHeld => ?_)
                         clear hK K
                         refine nX (some 63) ?_
                         exact nV (hJ4_9_15 (gb134) _ ⟨hHeld, rD HO106, rD HO109, rD HO119, rD HO122, bD BK101, bD BK102, bD BK110, bD BK134, GW134.out, GE134.out, NB101_134.out, NB102_134.out, NB110_134.out, sD HB⟩)
                        ·refine bS (N := 14) (cs := #[.int .i64 0, .int .i64 0, .int .i64 0]) (t := 38) ?_
                         intro gb132 hg w50 hbox hb
                         have BK132 := aM (hbox); have GW132 := gE hg HB; have GE132 := gE hg HB; have NB101_132 := nL hg BK101; have NB102_132 := nL hg BK102; have NB110_132 := nL hg BK110; have NB132_134 := nG hg BK134; replace HO106 := rB HO106 hb; replace HO109 := rB HO109 hb; replace HO119 := rB HO119 hb; replace HO122 := rB HO122 hb; replace BK101 := bB BK101 hb; replace BK102 := bB BK102 hb; replace BK110 := bB BK110 hb; replace BK134 := bB BK134 hb; replace HB := sB HB hb; clear hb hbox hg
                         refine hK.out _ _ ⟨cE BK110 0, cE BK110 1, cE BK110 2⟩ (fun hHeld => ?_)
                         clear hK K
                         refine nX (some 14) ?_
                         exact nV (hJ4_13_15 (gb132, gb134) _ ⟨hHeld, rD HO106, rD HO109, rD HO119, rD HO122, bD BK101, bD BK102, bD BK110, bD BK132, bD BK134, GW132.out, GE132.out, NB101_132.out, NB102_132.out, NB110_132.out, NB132_134.out, GW134.out, GE134.out, NB101_134.out, NB102_134.out, NB110_134.out, sD HB⟩)
                        refine bS (N := 15) (cs := #[.int .i64 0, .int .i64 0, .int .i64 0]) (t := 38) ?_
                        intro gb133 hg w50 hbox hb
                        have BK133 := aM (hbox); have GW133 := gE hg HB; have GE133 := gE hg HB; have NB101_133 := nL hg BK101; have NB102_133 := nL hg BK102; have NB110_133 := nL hg BK110; have NB133_134 := nG hg BK134; replace HO106 := rB HO106 hb; replace HO109 := rB HO109 hb; replace HO119 := rB HO119 hb; replace HO122 := rB HO122 hb; replace BK101 := bB BK101 hb; replace BK102 := bB BK102 hb; replace BK110 := bB BK110 hb; replace BK134 := bB BK134 hb; replace HB := sB HB hb; clear hb hbox hg
                        refine hK.out _ _ ⟨cE BK110 0, cE BK110 1, cE BK110 2⟩ (fun hHeld => ?_)
                        clear hK K
                        refine nX (some 15) ?_
                        exact nV (hJ4_14_15 (gb133, gb134) _ ⟨hHeld, rD HO106, rD HO109, rD HO119, rD HO122, bD BK101, bD BK102, bD BK110, bD BK133, bD BK134, GW133.out, GE133.out, NB101_133.out, NB102_133.out, NB110_133.out, NB133_134.out, GW134.out, GE134.out, NB101_134.out, NB102_134.out, NB110_134.out, sD HB⟩)
                       rintro gb133 w49 ⟨hS_, h0_, h1_, h2_, h3_, h4_, h5_, h6_, h7_, h8_, h9_, h10_, h12_, h14_, h16_⟩
                       (try dsimp only at h0_ h1_ h2_ h3_ h4_ h5_ h6_ h7_ h8_ h9_ h10_ h12_ h14_ h16_)
                       have BK133 := aM h7_; have GW133 := aM h8_; have GE133 := aM h9_; have NB101_133 := aM h10_; have NB102_133 := aM h12_; have NB110_133 := aM h14_; replace HO106 := aM h0_; replace HO109 := aM h1_; replace HO119 := aM h2_; replace HO122 := aM h3_; replace BK101 := aM h4_; replace BK102 := aM h5_; replace BK110 := aM h6_; replace HB := aM h16_; clear h0_ h1_ h2_ h3_ h4_ h5_ h6_ h7_ h8_ h9_ h10_ h12_ h14_ h16_
                       (try dsimp only at hS_); have hHeld := hS_; clear hS_
                       refine nQ ?_
                       refine three3 (i := 9) (j := 13) (k := 15) (Ni := some 63) (Nj := some 14) (Nk := some 16) HT_ rfl rfl rfl rfl rfl rfl (fun K hK => ?_) (fun K hK => ?_) (fun K hK => ?_)
                       ·refine gS Try.func33 #[.slice Ao44 t104.length co44, .slice Ao45 y120.length co45, .int .i64 (wrap64 (Int.tmod a2 8)), .int .i64 (wrap64 (a0_2))] ?_
                        with_reducible refine (parolelaw42_bond.calls k _ _ t104 _ _ y120 (wrap64 (Int.tmod a2 8)) (wrap64 (a0_2)) t126 t127 t128 _ ?side1 ?side2 ?side3 ?side4 A11.out).mono ?_
                        (case side1 => exact rC HO106)
                        (case side2 => exact rN HO106)
                        (case side3 => exact rC HO122)
                        (case side4 => exact rN HO122)
                        rintro e w50 ⟨rfl, hb⟩
                        refine ⟨_, rfl, ?_⟩
                        replace HO106 := rB HO106 hb; replace HO109 := rB HO109 hb; replace HO119 := rB HO119 hb; replace HO122 := rB HO122 hb; replace BK101 := bB BK101 hb; replace BK102 := bB BK102 hb; replace BK110 := bB BK110 hb; replace BK133 := bB BK133 hb; replace HB := sB HB hb; (try clear hb); (try clear hb2); (try clear hk); (try clear hi)
                        refine hK.out _ _ ⟨cE BK110 0, cE BK110 1, cE BK110 2⟩ (fun hHeld => ?_)
                        clear hK K
                        refine nX (some 63) ?_
                        exact nV (hJ4_9_14 (gb133) _ ⟨hHeld, rD HO106, rD HO109, rD HO119, rD HO122, bD BK101, bD BK102, bD BK110, bD BK133, GW133.out, GE133.out, NB101_133.out, NB102_133.out, NB110_133.out, sD HB⟩)
                       ·refine bS (N := 14) (cs := #[.int .i64 0, .int .i64 0, .int .i64 0]) (t := 38) ?_
                        intro gb132 hg w50 hbox hb
                        have BK132 := aM (hbox); have GW132 := gE hg HB; have GE132 := gE hg HB; have NB101_132 := nL hg BK101; have NB102_132 := nL hg BK102; have NB110_132 := nL hg BK110; have NB132_133 := nG hg BK133; replace HO106 := rB HO106 hb; replace HO109 := rB HO109 hb; replace HO119 := rB HO119 hb; replace HO122 := rB HO122 hb; replace BK101 := bB BK101 hb; replace BK102 := bB BK102 hb; replace BK110 := bB BK110 hb; replace BK133 := bB BK133 hb; replace HB := sB HB hb; clear hb hbox hg
                        refine hK.out _ _ ⟨cE BK110 0, cE BK110 1, cE BK110 2⟩ (fun hHeld => ?_)
                        clear hK K
                        refine nX (some 14) ?_
                        exact nV (hJ4_13_14 (gb132, gb133) _ ⟨hHeld, rD HO106, rD HO109, rD HO119, rD HO122, bD BK101, bD BK102, bD BK110, bD BK132, bD BK133, GW132.out, GE132.out, NB101_132.out, NB102_132.out, NB110_132.out, NB132_133.out, GW133.out, GE133.out, NB101_133.out, NB102_133.out, NB110_133.out, sD HB⟩)
                       refine bS (N := 16) (cs := #[.int .i64 0, .int .i64 0, .int .i64 0]) (t := 38) ?_
                       intro gb134 hg w50 hbox hb
                       have BK134 := aM (hbox); have GW134 := gE hg HB; have GE134 := gE hg HB; have NB101_134 := nL hg BK101; have NB102_134 := nL hg BK102; have NB110_134 := nL hg BK110; have NB133_134 := nL hg BK133; replace HO106 := rB HO106 hb; replace HO109 := rB HO109 hb; replace HO119 := rB HO119 hb; replace HO122 := rB HO122 hb; replace BK101 := bB BK101 hb; replace BK102 := bB BK102 hb; replace BK110 := bB BK110 hb; replace BK133 := bB BK133 hb; replace HB := sB HB hb; clear hb hbox hg
                       refine hK.out _ _ ⟨cE BK110 0, cE BK110 1, cE BK110 2⟩ (fun hHeld => ?_)
                       clear hK K
                       refine nX (some 16) ?_
                       exact nV (hJ4_14_15 (gb133, gb134) _ ⟨hHeld, rD HO106, rD HO109, rD HO119, rD HO122, bD BK101, bD BK102, bD BK110, bD BK133, bD BK134, GW133.out, GE133.out, NB101_133.out, NB102_133.out, NB110_133.out, NB133_134.out, GW134.out, GE134.out, NB101_134.out, NB102_134.out, NB110_134.out, sD HB⟩)
                      rintro gb132 w49 ⟨hS_, h0_, h1_, h2_, h3_, h4_, h5_, h6_, h7_, h8_, h9_, h10_, h12_, h14_, h16_⟩
                      (try dsimp only at h0_ h1_ h2_ h3_ h4_ h5_ h6_ h7_ h8_ h9_ h10_ h12_ h14_ h16_)
                      have BK132 := aM h7_; have GW132 := aM h8_; have GE132 := aM h9_; have NB101_132 := aM h10_; have NB102_132 := aM h12_; have NB110_132 := aM h14_; replace HO106 := aM h0_; replace HO109 := aM h1_; replace HO119 := aM h2_; replace HO122 := aM h3_; replace BK101 := aM h4_; replace BK102 := aM h5_; replace BK110 := aM h6_; replace HB := aM h16_; clear h0_ h1_ h2_ h3_ h4_ h5_ h6_ h7_ h8_ h9_ h10_ h12_ h14_ h16_
                      (try dsimp only at hS_); have hHeld := hS_; clear hS_
                      refine nQ ?_
                      refine three3 (i := 9) (j := 14) (k := 15) (Ni := some 63) (Nj := some 15) (Nk := some 16) HT_ rfl rfl rfl rfl rfl rfl (fun K hK => ?_) (fun K hK => ?_) (fun K hK => ?_)
                      ·refine gS Try.func33 #[.slice Ao44 t104.length co44, .slice Ao45 y120.length co45, .int .i64 (wrap64 (Int.tmod a2 8)), .int .i64 (wrap64 (a0_2))] ?_
                       with_reducible refine (parolelaw42_bond.calls k _ _ t104 _ _ y120 (wrap64 (Int.tmod a2 8)) (wrap64 (a0_2)) t126 t127 t128 _ ?side1 ?side2 ?side3 ?side4 A11.out).mono ?_
                       (case side1 => exact rC HO106)
                       (case side2 => exact rN HO106)
                       (case side3 => exact rC HO122)
                       (case side4 => exact rN HO122)
                       rintro e w50 ⟨rfl, hb⟩
                       refine ⟨_, rfl, ?_⟩
                       replace HO106 := rB HO106 hb; replace HO109 := rB HO109 hb; replace HO119 := rB HO119 hb; replace HO122 := rB HO122 hb; replace BK101 := bB BK101 hb; replace BK102 := bB BK102 hb; replace BK110 := bB BK110 hb; replace BK132 := bB BK132 hb; replace HB := sB HB hb; (try clear hb); (try clear hb2); (try clear hk); (try clear hi)
                       refine hK.out _ _ ⟨cE BK110 0, cE BK110 1, cE BK110 2⟩ (fun hHeld => ?_)
                       clear hK K
                       refine nX (some 63) ?_
                       exact nV (hJ4_9_13 (gb132) _ ⟨hHeld, rD HO106, rD HO109, rD HO119, rD HO122, bD BK101, bD BK102, bD BK110, bD BK132, GW132.out, GE132.out, NB101_132.out, NB102_132.out, NB110_132.out, sD HB⟩)
                      ·refine bS (N := 15) (cs := #[.int .i64 0, .int .i64 0, .int .i64 0]) (t := 38) ?_
                       intro gb133 hg w50 hbox hb
                       have BK133 := aM (hbox); have GW133 := gE hg HB; have GE133 := gE hg HB; have NB101_133 := nL hg BK101; have NB102_133 := nL hg BK102; have NB110_133 := nL hg BK110; have NB132_133 := nL hg BK132; replace HO106 := rB HO106 hb; replace HO109 := rB HO109 hb; replace HO119 := rB HO119 hb; replace HO122 := rB HO122 hb; replace BK101 := bB BK101 hb; replace BK102 := bB BK102 hb; replace BK110 := bB BK110 hb; replace BK132 := bB BK132 hb; replace HB := sB HB hb; clear hb hbox hg
                       refine hK.out _ _ ⟨cE BK110 0, cE BK110 1, cE BK110 2⟩ (fun hHeld => ?_)
                       clear hK K
                       refine nX (some 15) ?_
                       exact nV (hJ4_13_14 (gb132, gb133) _ ⟨hHeld, rD HO106, rD HO109, rD HO119, rD HO122, bD BK101, bD BK102, bD BK110, bD BK132, bD BK133, GW132.out, GE132.out, NB101_132.out, NB102_132.out, NB110_132.out, NB132_133.out, GW133.out, GE133.out, NB101_133.out, NB102_133.out, NB110_133.out, sD HB⟩)
                      refine bS (N := 16) (cs := #[.int .i64 0, .int .i64 0, .int .i64 0]) (t := 38) ?_
                      intro gb134 hg w50 hbox hb
                      have BK134 := aM (hbox); have GW134 := gE hg HB; have GE134 := gE hg HB; have NB101_134 := nL hg BK101; have NB102_134 := nL hg BK102; have NB110_134 := nL hg BK110; have NB132_134 := nL hg BK132; replace HO106 := rB HO106 hb; replace HO109 := rB HO109 hb; replace HO119 := rB HO119 hb; replace HO122 := rB HO122 hb; replace BK101 := bB BK101 hb; replace BK102 := bB BK102 hb; replace BK110 := bB BK110 hb; replace BK132 := bB BK132 hb; replace HB := sB HB hb; clear hb hbox hg
                      refine hK.out _ _ ⟨cE BK110 0, cE BK110 1, cE BK110 2⟩ (fun hHeld => ?_)
                      clear hK K
                      refine nX (some 16) ?_
                      exact nV (hJ4_13_15 (gb132, gb134) _ ⟨hHeld, rD HO106, rD HO109, rD HO119, rD HO122, bD BK101, bD BK102, bD BK110, bD BK132, bD BK134, GW132.out, GE132.out, NB101_132.out, NB102_132.out, NB110_132.out, NB132_134.out, GW134.out, GE134.out, NB101_134.out, NB102_134.out, NB110_134.out, sD HB⟩)
                     rintro _ w49 ⟨hS_, h0_, h1_, h2_, h3_, h4_, h5_, h6_, h7_⟩
                     (try dsimp only at h0_ h1_ h2_ h3_ h4_ h5_ h6_ h7_)
                     replace HO106 := aM h0_; replace HO109 := aM h1_; replace HO119 := aM h2_; replace HO122 := aM h3_; replace BK101 := aM h4_; replace BK102 := aM h5_; replace BK110 := aM h6_; replace HB := aM h7_; clear h0_ h1_ h2_ h3_ h4_ h5_ h6_ h7_
                     (try dsimp only at hS_); have hHeld := hS_; clear hS_
                     refine nQ ?_
                     refine four_ (i := 12) (j := 13) (k := 14) (m := 15) (Ni := some 66) (Nj := some 14) (Nk := some 15) (Nm := some 16) #[true, true, true, true, true, true, true, true, true, true, true, true, true, false, false, false, false, false, false] #[true, true, true, true, true, true, true, true, true, true, true, true, false, true, false, false, false, false, false] #[true, true, true, true, true, true, true, true, true, true, true, true, false, false, true, false, false, false, false] #[true, true, true, true, true, true, true, true, true, true, true, true, false, false, false, true, false, false, false] rfl rfl rfl rfl rfl rfl rfl rfl (four_of HT_.out (by kernel_rfl)) (by decide) (by decide) (by decide) (by decide) (fun K hK => ?_) (fun K hK => ?_) (fun K hK => ?_) (fun K hK => ?_)
                     ·refine gS Try.func31 #[.slice Ao44 t104.length co44, .agg #[.int .i64 (wrap64 (Int.tmod a1_0 4)), .int .i64 (1 + (((Int.tdiv a1_0 4) % 256) % 14)), .int .i64 (wrap64 (a1_1))]] ?_
                      with_reducible refine (parolelaw42_premium.calls k _ _ t104 (wrap64 (Int.tmod a1_0 4)) (1 + (((Int.tdiv a1_0 4) % 256) % 14)) (wrap64 (a1_1)) t129 t130 t131 _ ?side1 ?side2 A12.out).mono ?_
                      (case side1 => exact rC HO106)
                      (case side2 => exact rN HO106)
                      rintro e w50 ⟨rfl, hb⟩
                      refine ⟨_, rfl, ?_⟩
                      replace HO106 := rB HO106 hb; replace HO109 := rB HO109 hb; replace HO119 := rB HO119 hb; replace HO122 := rB HO122 hb; replace BK101 := bB BK101 hb; replace BK102 := bB BK102 hb; replace BK110 := bB BK110 hb; replace HB := sB HB hb; (try clear hb); (try clear hb2); (try clear hk); (try clear hi)
                      refine hK.out _ _ ⟨cE BK110 0, cE BK110 1, cE BK110 2⟩ (fun hHeld => ?_)
                      clear hK K
                      refine nX (some 66) ?_
                      exact nV (hJ4_9_12 () _ ⟨hHeld, rD HO106, rD HO109, rD HO119, rD HO122, bD BK101, bD BK102, bD BK110, sD HB⟩)
                     ·refine bS (N := 14) (cs := #[.int .i64 0, .int .i64 0, .int .i64 0]) (t := 38) ?_
                      intro gb132 hg w50 hbox hb
                      have BK132 := aM (hbox); have GW132 := gE hg HB; have GE132 := gE hg HB; have NB101_132 := nL hg BK101; have NB102_132 := nL hg BK102; have NB110_132 := nL hg BK110; replace HO106 := rB HO106 hb; replace HO109 := rB HO109 hb; replace HO119 := rB HO119 hb; replace HO122 := rB HO122 hb; replace BK101 := bB BK101 hb; replace BK102 := bB BK102 hb; replace BK110 := bB BK110 hb; replace HB := sB HB hb; clear hb hbox hg
                      refine hK.out _ _ ⟨cE BK110 0, cE BK110 1, cE BK110 2⟩ (fun hHeld => ?_)
                      clear hK K
                      refine nX (some 14) ?_
                      exact nV (hJ4_9_13 (gb132) _ ⟨hHeld, rD HO106, rD HO109, rD HO119, rD HO122, bD BK101, bD BK102, bD BK110, bD BK132, GW132.out, GE132.out, NB101_132.out, NB102_132.out, NB110_132.out, sD HB⟩)
                     ·refine bS (N := 15) (cs := #[.int .i64 0, .int .i64 0, .int .i64 0]) (t := 38) ?_
                      intro gb133 hg w50 hbox hb
                      have BK133 := aM (hbox); have GW133 := gE hg HB; have GE133 := gE hg HB; have NB101_133 := nL hg BK101; have NB102_133 := nL hg BK102; have NB110_133 := nL hg BK110; replace HO106 := rB HO106 hb; replace HO109 := rB HO109 hb; replace HO119 := rB HO119 hb; replace HO122 := rB HO122 hb; replace BK101 := bB BK101 hb; replace BK102 := bB BK102 hb; replace BK110 := bB BK110 hb; replace HB := sB HB hb; clear hb hbox hg
                      refine hK.out _ _ ⟨cE BK110 0, cE BK110 1, cE BK110 2⟩ (fun hHeld => ?_)
                      clear hK K
                      refine nX (some 15) ?_
                      exact nV (hJ4_9_14 (gb133) _ ⟨hHeld, rD HO106, rD HO109, rD HO119, rD HO122, bD BK101, bD BK102, bD BK110, bD BK133, GW133.out, GE133.out, NB101_133.out, NB102_133.out, NB110_133.out, sD HB⟩)
                     refine bS (N := 16) (cs := #[.int .i64 0, .int .i64 0, .int .i64 0]) (t := 38) ?_
                     intro gb134 hg w50 hbox hb
                     have BK134 := aM (hbox); have GW134 := gE hg HB; have GE134 := gE hg HB; have NB101_134 := nL hg BK101; have NB102_134 := nL hg BK102; have NB110_134 := nL hg BK110; replace HO106 := rB HO106 hb; replace HO109 := rB HO109 hb; replace HO119 := rB HO119 hb; replace HO122 := rB HO122 hb; replace BK101 := bB BK101 hb; replace BK102 := bB BK102 hb; replace BK110 := bB BK110 hb; replace HB := sB HB hb; clear hb hbox hg
                     refine hK.out _ _ ⟨cE BK110 0, cE BK110 1, cE BK110 2⟩ (fun hHeld => ?_)
                     clear hK K
                     refine nX (some 16) ?_
                     exact nV (hJ4_9_15 (gb134) _ ⟨hHeld, rD HO106, rD HO109, rD HO119, rD HO122, bD BK101, bD BK102, bD BK110, bD BK134, GW134.out, GE134.out, NB101_134.out, NB102_134.out, NB110_134.out, sD HB⟩)
                    rintro ⟨gb132, gb133, gb134⟩ w50 ⟨hS_, h0_, h1_, h2_, h3_, h4_, h5_, h6_, h7_, h8_, h9_, h10_, h11_, h12_, h14_, h16_, h19_, h21_, h22_, h23_, h24_, h26_, h28_, h31_, h32_, h33_, h34_, h36_, h38_, h40_⟩
                    (try dsimp only at h0_ h1_ h2_ h3_ h4_ h5_ h6_ h7_ h8_ h9_ h10_ h11_ h12_ h14_ h16_ h19_ h21_ h22_ h23_ h24_ h26_ h28_ h31_ h32_ h33_ h34_ h36_ h38_ h40_)
                    have BK132 := aM h7_; have BK133 := aM h8_; have BK134 := aM h9_; have GW132 := aM h10_; have GE132 := aM h11_; have NB101_132 := aM h12_; have NB102_132 := aM h14_; have NB110_132 := aM h16_; have NB132_133 := aM h19_; have NB132_134 := aM h21_; have GW133 := aM h22_; have GE133 := aM h23_; have NB101_133 := aM h24_; have NB102_133 := aM h26_
                    have NB110_133 := aM h28_; have NB133_134 := aM h31_; have GW134 := aM h32_; have GE134 := aM h33_; have NB101_134 := aM h34_; have NB102_134 := aM h36_; have NB110_134 := aM h38_; replace HO106 := aM h0_; replace HO109 := aM h1_; replace HO119 := aM h2_; replace HO122 := aM h3_; replace BK101 := aM h4_; replace BK102 := aM h5_; replace BK110 := aM h6_
                    replace HB := aM h40_; clear h0_ h1_ h2_ h3_ h4_ h5_ h6_ h7_ h8_ h9_ h10_ h11_ h12_ h14_ h16_ h19_ h21_ h22_ h23_ h24_ h26_ h28_ h31_ h32_ h33_ h34_ h36_ h38_ h40_
                    (try dsimp only at hS_); have hHeld := hS_; clear hS_
                    refine nQ ?_
                    refine oX (i := 4) (N := some 58) rfl rfl HT_ (fun K hK => ?_)
                    refine gS Try.func33 #[.slice Ao44 t104.length co44, .slice Ao33 t107.length co33, .int .i64 (wrap64 (Int.tmod a2 8)), .int .i64 (wrap64 (a0_2))] ?_
                    with_reducible refine (parolelaw42_bond.calls k _ _ t104 _ _ t107 (wrap64 (Int.tmod a2 8)) (wrap64 (a0_2)) t123 t124 t125 _ ?side1 ?side2 ?side3 ?side4 A10.out).mono ?_
                    (case side1 => exact rC HO106)
                    (case side2 => exact rN HO106)
                    (case side3 => exact rC HO109)
                    (case side4 => exact rN HO109)
                    rintro e w51 ⟨rfl, hb⟩
                    refine ⟨_, rfl, ?_⟩
                    replace HO106 := rB HO106 hb; replace HO109 := rB HO109 hb; replace HO119 := rB HO119 hb; replace HO122 := rB HO122 hb; replace BK101 := bB BK101 hb; replace BK102 := bB BK102 hb; replace BK110 := bB BK110 hb; replace BK132 := bB BK132 hb; replace BK133 := bB BK133 hb; replace BK134 := bB BK134 hb; replace HB := sB HB hb; (try clear hb); (try clear hb2); (try clear hk); (try clear hi)
                    refine hK.out _ _ ⟨cE BK110 0, cE BK110 1, cE BK110 2⟩ (fun hHeld => ?_)
                    clear hK K
                    refine nX (some 58) ?_
                    exact nV (hJ4_13_14_15 (gb132, gb133, gb134) _ ⟨hHeld, rD HO106, rD HO109, rD HO119, rD HO122, bD BK101, bD BK102, bD BK110, bD BK132, bD BK133, bD BK134, GW132.out, GE132.out, NB101_132.out, NB102_132.out, NB110_132.out, NB132_133.out, NB132_134.out, GW133.out, GE133.out, NB101_133.out, NB102_133.out, NB110_133.out, NB133_134.out, GW134.out, GE134.out, NB101_134.out, NB102_134.out, NB110_134.out, sD HB⟩)
                   rintro ⟨gb133, gb134⟩ w50 ⟨hS_, h0_, h1_, h2_, h3_, h4_, h5_, h6_, h7_, h8_, h9_, h10_, h11_, h13_, h15_, h18_, h19_, h20_, h21_, h23_, h25_, h27_⟩
                   (try dsimp only at h0_ h1_ h2_ h3_ h4_ h5_ h6_ h7_ h8_ h9_ h10_ h11_ h13_ h15_ h18_ h19_ h20_ h21_ h23_ h25_ h27_)
                   have BK133 := aM h7_; have BK134 := aM h8_; have GW133 := aM h9_; have GE133 := aM h10_; have NB101_133 := aM h11_; have NB102_133 := aM h13_; have NB110_133 := aM h15_; have NB133_134 := aM h18_; have GW134 := aM h19_; have GE134 := aM h20_; have NB101_134 := aM h21_; have NB102_134 := aM h23_; have NB110_134 := aM h25_
                   replace HO106 := aM h0_; replace HO109 := aM h1_; replace HO119 := aM h2_; replace HO122 := aM h3_; replace BK101 := aM h4_; replace BK102 := aM h5_; replace BK110 := aM h6_; replace HB := aM h27_; clear h0_ h1_ h2_ h3_ h4_ h5_ h6_ h7_ h8_ h9_ h10_ h11_ h13_ h15_ h18_ h19_ h20_ h21_ h23_ h25_ h27_
                   (try dsimp only at hS_); have hHeld := hS_; clear hS_
                   refine nQ ?_
                   refine two2 (i := 9) (j := 13) (Ni := some 63) (Nj := some 14) HT_ rfl rfl rfl rfl (fun K hK => ?_) (fun K hK => ?_)
                   ·refine gS Try.func33 #[.slice Ao44 t104.length co44, .slice Ao45 y120.length co45, .int .i64 (wrap64 (Int.tmod a2 8)), .int .i64 (wrap64 (a0_2))] ?_
                    with_reducible refine (parolelaw42_bond.calls k _ _ t104 _ _ y120 (wrap64 (Int.tmod a2 8)) (wrap64 (a0_2)) t126 t127 t128 _ ?side1 ?side2 ?side3 ?side4 A11.out).mono ?_
                    (case side1 => exact rC HO106)
                    (case side2 => exact rN HO106)
                    (case side3 => exact rC HO122)
                    (case side4 => exact rN HO122)
                    rintro e w51 ⟨rfl, hb⟩
                    refine ⟨_, rfl, ?_⟩
                    replace HO106 := rB HO106 hb; replace HO109 := rB HO109 hb; replace HO119 := rB HO119 hb; replace HO122 := rB HO122 hb; replace BK101 := bB BK101 hb; replace BK102 := bB BK102 hb; replace BK110 := bB BK110 hb; replace BK133 := bB BK133 hb; replace BK134 := bB BK134 hb; replace HB := sB HB hb; (try clear hb); (try clear hb2); (try clear hk); (try clear hi)
                    refine hK.out _ _ ⟨cE BK110 0, cE BK110 1, cE BK110 2⟩ (fun hHeld => ?_)
                    clear hK K
                    refine nX (some 63) ?_
                    exact nV (hJ4_9_14_15 (gb133, gb134) _ ⟨hHeld, rD HO106, rD HO109, rD HO119, rD HO122, bD BK101, bD BK102, bD BK110, bD BK133, bD BK134, GW133.out, GE133.out, NB101_133.out, NB102_133.out, NB110_133.out, NB133_134.out, GW134.out, GE134.out, NB101_134.out, NB102_134.out, NB110_134.out, sD HB⟩)
                   refine bS (N := 14) (cs := #[.int .i64 0, .int .i64 0, .int .i64 0]) (t := 38) ?_
                   intro gb132 hg w51 hbox hb
                   have BK132 := aM (hbox); have GW132 := gE hg HB; have GE132 := gE hg HB; have NB101_132 := nL hg BK101; have NB102_132 := nL hg BK102; have NB110_132 := nL hg BK110; have NB132_133 := nG hg BK133; have NB132_134 := nG hg BK134; replace HO106 := rB HO106 hb; replace HO109 := rB HO109 hb; replace HO119 := rB HO119 hb; replace HO122 := rB HO122 hb; replace BK101 := bB BK101 hb; replace BK102 := bB BK102 hb; replace BK110 := bB BK110 hb; replace BK133 := bB BK133 hb; replace BK134 := bB BK134 hb; replace HB := sB HB hb; clear hb hbox hg
                   refine hK.out _ _ ⟨cE BK110 0, cE BK110 1, cE BK110 2⟩ (fun hHeld => ?_)
                   clear hK K
                   refine nX (some 14) ?_
                   exact nV (hJ4_13_14_15 (gb132, gb133, gb134) _ ⟨hHeld, rD HO106, rD HO109, rD HO119, rD HO122, bD BK101, bD BK102, bD BK110, bD BK132, bD BK133, bD BK134, GW132.out, GE132.out, NB101_132.out, NB102_132.out, NB110_132.out, NB132_133.out, NB132_134.out, GW133.out, GE133.out, NB101_133.out, NB102_133.out, NB110_133.out, NB133_134.out, GW134.out, GE134.out, NB101_134.out, NB102_134.out, NB110_134.out, sD HB⟩)
                  rintro ⟨gb132, gb134⟩ w50 ⟨hS_, h0_, h1_, h2_, h3_, h4_, h5_, h6_, h7_, h8_, h9_, h10_, h11_, h13_, h15_, h18_, h19_, h20_, h21_, h23_, h25_, h27_⟩
                  (try dsimp only at h0_ h1_ h2_ h3_ h4_ h5_ h6_ h7_ h8_ h9_ h10_ h11_ h13_ h15_ h18_ h19_ h20_ h21_ h23_ h25_ h27_)
                  have BK132 := aM h7_; have BK134 := aM h8_; have GW132 := aM h9_; have GE132 := aM h10_; have NB101_132 := aM h11_; have NB102_132 := aM h13_; have NB110_132 := aM h15_; have NB132_134 := aM h18_; have GW134 := aM h19_; have GE134 := aM h20_; have NB101_134 := aM h21_; have NB102_134 := aM h23_; have NB110_134 := aM h25_
                  replace HO106 := aM h0_; replace HO109 := aM h1_; replace HO119 := aM h2_; replace HO122 := aM h3_; replace BK101 := aM h4_; replace BK102 := aM h5_; replace BK110 := aM h6_; replace HB := aM h27_; clear h0_ h1_ h2_ h3_ h4_ h5_ h6_ h7_ h8_ h9_ h10_ h11_ h13_ h15_ h18_ h19_ h20_ h21_ h23_ h25_ h27_
                  (try dsimp only at hS_); have hHeld := hS_; clear hS_
                  refine nQ ?_
                  refine two2 (i := 9) (j := 14) (Ni := some 63) (Nj := some 15) HT_ rfl rfl rfl rfl (fun K hK => ?_) (fun K hK => ?_)
                  ·refine gS Try.func33 #[.slice Ao44 t104.length co44, .slice Ao45 y120.length co45, .int .i64 (wrap64 (Int.tmod a2 8)), .int .i64 (wrap64 (a0_2))] ?_
                   with_reducible refine (parolelaw42_bond.calls k _ _ t104 _ _ y120 (wrap64 (Int.tmod a2 8)) (wrap64 (a0_2)) t126 t127 t128 _ ?side1 ?side2 ?side3 ?side4 A11.out).mono ?_
                   (case side1 => exact rC HO106)
                   (case side2 => exact rN HO106)
                   (case side3 => exact rC HO122)
                   (case side4 => exact rN HO122)
                   rintro e w51 ⟨rfl, hb⟩
                   refine ⟨_, rfl, ?_⟩
                   replace HO106 := rB HO106 hb; replace HO109 := rB HO109 hb; replace HO119 := rB HO119 hb; replace HO122 := rB HO122 hb; replace BK101 := bB BK101 hb; replace BK102 := bB BK102 hb; replace BK110 := bB BK110 hb; replace BK132 := bB BK132 hb; replace BK134 := bB BK134 hb; replace HB := sB HB hb; (try clear hb); (try clear hb2); (try clear hk); (try clear hi)
                   refine hK.out _ _ ⟨cE BK110 0, cE BK110 1, cE BK110 2⟩ (fun hHeld => ?_)
                   clear hK K
                   refine nX (some 63) ?_
                   exact nV (hJ4_9_13_15 (gb132, gb134) _ ⟨hHeld, rD HO106, rD HO109, rD HO119, rD HO122, bD BK101, bD BK102, bD BK110, bD BK132, bD BK134, GW132.out, GE132.out, NB101_132.out, NB102_132.out, NB110_132.out, NB132_134.out, GW134.out, GE134.out, NB101_134.out, NB102_134.out, NB110_134.out, sD HB⟩)
                  refine bS (N := 15) (cs := #[.int .i64 0, .int .i64 0, .int .i64 0]) (t := 38) ?_
                  intro gb133 hg w51 hbox hb
                  have BK133 := aM (hbox); have GW133 := gE hg HB; have GE133 := gE hg HB; have NB101_133 := nL hg BK101; have NB102_133 := nL hg BK102; have NB110_133 := nL hg BK110; have NB132_133 := nL hg BK132; have NB133_134 := nG hg BK134; replace HO106 := rB HO106 hb; replace HO109 := rB HO109 hb; replace HO119 := rB HO119 hb; replace HO122 := rB HO122 hb; replace BK101 := bB BK101 hb; replace BK102 := bB BK102 hb; replace BK110 := bB BK110 hb; replace BK132 := bB BK132 hb; replace BK134 := bB BK134 hb; replace HB := sB HB hb; clear hb hbox hg
                  refine hK.out _ _ ⟨cE BK110 0, cE BK110 1, cE BK110 2⟩ (fun hHeld => ?_)
                  clear hK K
                  refine nX (some 15) ?_
                  exact nV (hJ4_13_14_15 (gb132, gb133, gb134) _ ⟨hHeld, rD HO106, rD HO109, rD HO119, rD HO122, bD BK101, bD BK102, bD BK110, bD BK132, bD BK133, bD BK134, GW132.out, GE132.out, NB101_132.out, NB102_132.out, NB110_132.out, NB132_133.out, NB132_134.out, GW133.out, GE133.out, NB101_133.out, NB102_133.out, NB110_133.out, NB133_134.out, GW134.out, GE134.out, NB101_134.out, NB102_134.out, NB110_134.out, sD HB⟩)
                 rintro ⟨gb132, gb133⟩ w50 ⟨hS_, h0_, h1_, h2_, h3_, h4_, h5_, h6_, h7_, h8_, h9_, h10_, h11_, h13_, h15_, h18_, h19_, h20_, h21_, h23_, h25_, h27_⟩
                 (try dsimp only at h0_ h1_ h2_ h3_ h4_ h5_ h6_ h7_ h8_ h9_ h10_ h11_ h13_ h15_ h18_ h19_ h20_ h21_ h23_ h25_ h27_)
                 have BK132 := aM h7_; have BK133 := aM h8_; have GW132 := aM h9_; have GE132 := aM h10_; have NB101_132 := aM h11_; have NB102_132 := aM h13_; have NB110_132 := aM h15_; have NB132_133 := aM h18_; have GW133 := aM h19_; have GE133 := aM h20_; have NB101_133 := aM h21_; have NB102_133 := aM h23_; have NB110_133 := aM h25_
                 replace HO106 := aM h0_; replace HO109 := aM h1_; replace HO119 := aM h2_; replace HO122 := aM h3_; replace BK101 := aM h4_; replace BK102 := aM h5_; replace BK110 := aM h6_; replace HB := aM h27_; clear h0_ h1_ h2_ h3_ h4_ h5_ h6_ h7_ h8_ h9_ h10_ h11_ h13_ h15_ h18_ h19_ h20_ h21_ h23_ h25_ h27_
                 (try dsimp only at hS_); have hHeld := hS_; clear hS_
                 refine nQ ?_
                 refine two2 (i := 9) (j := 15) (Ni := some 63) (Nj := some 16) HT_ rfl rfl rfl rfl (fun K hK => ?_) (fun K hK => ?_)
                 ·refine gS Try.func33 #[.slice Ao44 t104.length co44, .slice Ao45 y120.length co45, .int .i64 (wrap64 (Int.tmod a2 8)), .int .i64 (wrap64 (a0_2))] ?_
                  with_reducible refine (parolelaw42_bond.calls k _ _ t104 _ _ y120 (wrap64 (Int.tmod a2 8)) (wrap64 (a0_2)) t126 t127 t128 _ ?side1 ?side2 ?side3 ?side4 A11.out).mono ?_
                  (case side1 => exact rC HO106)
                  (case side2 => exact rN HO106)
                  (case side3 => exact rC HO122)
                  (case side4 => exact rN HO122)
                  rintro e w51 ⟨rfl, hb⟩
                  refine ⟨_, rfl, ?_⟩
                  replace HO106 := rB HO106 hb; replace HO109 := rB HO109 hb; replace HO119 := rB HO119 hb; replace HO122 := rB HO122 hb; replace BK101 := bB BK101 hb; replace BK102 := bB BK102 hb; replace BK110 := bB BK110 hb; replace BK132 := bB BK132 hb; replace BK133 := bB BK133 hb; replace HB := sB HB hb; (try clear hb); (try clear hb2); (try clear hk); (try clear hi)
                  refine hK.out _ _ ⟨cE BK110 0, cE BK110 1, cE BK110 2⟩ (fun hHeld => ?_)
                  clear hK K
                  refine nX (some 63) ?_
                  exact nV (hJ4_9_13_14 (gb132, gb133) _ ⟨hHeld, rD HO106, rD HO109, rD HO119, rD HO122, bD BK101, bD BK102, bD BK110, bD BK132, bD BK133, GW132.out, GE132.out, NB101_132.out, NB102_132.out, NB110_132.out, NB132_133.out, GW133.out, GE133.out, NB101_133.out, NB102_133.out, NB110_133.out, sD HB⟩)
                 refine bS (N := 16) (cs := #[.int .i64 0, .int .i64 0, .int .i64 0]) (t := 38) ?_
                 intro gb134 hg w51 hbox hb
                 have BK134 := aM (hbox); have GW134 := gE hg HB; have GE134 := gE hg HB; have NB101_134 := nL hg BK101; have NB102_134 := nL hg BK102; have NB110_134 := nL hg BK110; have NB132_134 := nL hg BK132; have NB133_134 := nL hg BK133; replace HO106 := rB HO106 hb; replace HO109 := rB HO109 hb; replace HO119 := rB HO119 hb; replace HO122 := rB HO122 hb; replace BK101 := bB BK101 hb; replace BK102 := bB BK102 hb; replace BK110 := bB BK110 hb; replace BK132 := bB BK132 hb; replace BK133 := bB BK133 hb; replace HB := sB HB hb; clear hb hbox hg
                 refine hK.out _ _ ⟨cE BK110 0, cE BK110 1, cE BK110 2⟩ (fun hHeld => ?_)
                 clear hK K
                 refine nX (some 16) ?_
                 exact nV (hJ4_13_14_15 (gb132, gb133, gb134) _ ⟨hHeld, rD HO106, rD HO109, rD HO119, rD HO122, bD BK101, bD BK102, bD BK110, bD BK132, bD BK133, bD BK134, GW132.out, GE132.out, NB101_132.out, NB102_132.out, NB110_132.out, NB132_133.out, NB132_134.out, GW133.out, GE133.out, NB101_133.out, NB102_133.out, NB110_133.out, NB133_134.out, GW134.out, GE134.out, NB101_134.out, NB102_134.out, NB110_134.out, sD HB⟩)
                rintro gb134 w50 ⟨hS_, h0_, h1_, h2_, h3_, h4_, h5_, h6_, h7_, h8_, h9_, h10_, h12_, h14_, h16_⟩
                (try dsimp only at h0_ h1_ h2_ h3_ h4_ h5_ h6_ h7_ h8_ h9_ h10_ h12_ h14_ h16_)
                have BK134 := aM h7_; have GW134 := aM h8_; have GE134 := aM h9_; have NB101_134 := aM h10_; have NB102_134 := aM h12_; have NB110_134 := aM h14_; replace HO106 := aM h0_; replace HO109 := aM h1_; replace HO119 := aM h2_; replace HO122 := aM h3_; replace BK101 := aM h4_; replace BK102 := aM h5_; replace BK110 := aM h6_; replace HB := aM h16_; clear h0_ h1_ h2_ h3_ h4_ h5_ h6_ h7_ h8_ h9_ h10_ h12_ h14_ h16_
                (try dsimp only at hS_); have hHeld := hS_; clear hS_
                refine nQ ?_
                refine three3 (i := 12) (j := 13) (k := 14) (Ni := some 66) (Nj := some 14) (Nk := some 15) HT_ rfl rfl rfl rfl rfl rfl (fun K hK => ?_) (fun K hK => ?_) (fun K hK => ?_)
                ·refine gS Try.func31 #[.slice Ao44 t104.length co44, .agg #[.int .i64 (wrap64 (Int.tmod a1_0 4)), .int .i64 (1 + (((Int.tdiv a1_0 4) % 256) % 14)), .int .i64 (wrap64 (a1_1))]] ?_
                 with_reducible refine (parolelaw42_premium.calls k _ _ t104 (wrap64 (Int.tmod a1_0 4)) (1 + (((Int.tdiv a1_0 4) % 256) % 14)) (wrap64 (a1_1)) t129 t130 t131 _ ?side1 ?side2 A12.out).mono ?_
                 (case side1 => exact rC HO106)
                 (case side2 => exact rN HO106)
                 rintro e w51 ⟨rfl, hb⟩
                 refine ⟨_, rfl, ?_⟩
                 replace HO106 := rB HO106 hb; replace HO109 := rB HO109 hb; replace HO119 := rB HO119 hb; replace HO122 := rB HO122 hb; replace BK101 := bB BK101 hb; replace BK102 := bB BK102 hb; replace BK110 := bB BK110 hb; replace BK134 := bB BK134 hb; replace HB := sB HB hb; (try clear hb); (try clear hb2); (try clear hk); (try clear hi)
                 refine hK.out _ _ ⟨cE BK110 0, cE BK110 1, cE BK110 2⟩ (fun hHeld => ?_)
                 clear hK K
                 refine nX (some 66) ?_
                 exact nV (hJ4_9_12_15 (gb134) _ ⟨hHeld, rD HO106, rD HO109, rD HO119, rD HO122, bD BK101, bD BK102, bD BK110, bD BK134, GW134.out, GE134.out, NB101_134.out, NB102_134.out, NB110_134.out, sD HB⟩)
                ·refine bS (N := 14) (cs := #[.int .i64 0, .int .i64 0, .int .i64 0]) (t := 38) ?_
                 intro gb132 hg w51 hbox hb
                 have BK132 := aM (hbox); have GW132 := gE hg HB; have GE132 := gE hg HB; have NB101_132 := nL hg BK101; have NB102_132 := nL hg BK102; have NB110_132 := nL hg BK110; have NB132_134 := nG hg BK134; replace HO106 := rB HO106 hb; replace HO109 := rB HO109 hb; replace HO119 := rB HO119 hb; replace HO122 := rB HO122 hb; replace BK101 := bB BK101 hb; replace BK102 := bB BK102 hb; replace BK110 := bB BK110 hb; replace BK134 := bB BK134 hb; replace HB := sB HB hb; clear hb hbox hg
                 refine hK.out _ _ ⟨cE BK110 0, cE BK110 1, cE BK110 2⟩ (fun hHeld => ?_)
                 clear hK K
                 refine nX (some 14) ?_
                 exact nV (hJ4_9_13_15 (gb132, gb134) _ ⟨hHeld, rD HO106, rD HO109, rD HO119, rD HO122, bD BK101, bD BK102, bD BK110, bD BK132, bD BK134, GW132.out, GE132.out, NB101_132.out, NB102_132.out, NB110_132.out, NB132_134.out, GW134.out, GE134.out, NB101_134.out, NB102_134.out, NB110_134.out, sD HB⟩)
                refine bS (N := 15) (cs := #[.int .i64 0, .int .i64 0, .int .i64 0]) (t := 38) ?_
                intro gb133 hg w51 hbox hb
                have BK133 := aM (hbox); have GW133 := gE hg HB; have GE133 := gE hg HB; have NB101_133 := nL hg BK101; have NB102_133 := nL hg BK102; have NB110_133 := nL hg BK110; have NB133_134 := nG hg BK134; replace HO106 := rB HO106 hb; replace HO109 := rB HO109 hb; replace HO119 := rB HO119 hb; replace HO122 := rB HO122 hb; replace BK101 := bB BK101 hb; replace BK102 := bB BK102 hb; replace BK110 := bB BK110 hb; replace BK134 := bB BK134 hb; replace HB := sB HB hb; clear hb hbox hg
                refine hK.out _ _ ⟨cE BK110 0, cE BK110 1, cE BK110 2⟩ (fun hHeld => ?_)
                clear hK K
                refine nX (some 15) ?_
                exact nV (hJ4_9_14_15 (gb133, gb134) _ ⟨hHeld, rD HO106, rD HO109, rD HO119, rD HO122, bD BK101, bD BK102, bD BK110, bD BK133, bD BK134, GW133.out, GE133.out, NB101_133.out, NB102_133.out, NB110_133.out, NB133_134.out, GW134.out, GE134.out, NB101_134.out, NB102_134.out, NB110_134.out, sD HB⟩)
               rintro gb133 w50 ⟨hS_, h0_, h1_, h2_, h3_, h4_, h5_, h6_, h7_, h8_, h9_, h10_, h12_, h14_, h16_⟩
               (try dsimp only at h0_ h1_ h2_ h3_ h4_ h5_ h6_ h7_ h8_ h9_ h10_ h12_ h14_ h16_)
               have BK133 := aM h7_; have GW133 := aM h8_; have GE133 := aM h9_; have NB101_133 := aM h10_; have NB102_133 := aM h12_; have NB110_133 := aM h14_; replace HO106 := aM h0_; replace HO109 := aM h1_; replace HO119 := aM h2_; replace HO122 := aM h3_; replace BK101 := aM h4_; replace BK102 := aM h5_; replace BK110 := aM h6_; replace HB := aM h16_; clear h0_ h1_ h2_ h3_ h4_ h5_ h6_ h7_ h8_ h9_ h10_ h12_ h14_ h16_
               (try dsimp only at hS_); have hHeld := hS_; clear hS_
               refine nQ ?_
               refine three3 (i := 12) (j := 13) (k := 15) (Ni := some 66) (Nj := some 14) (Nk := some 16) HT_ rfl rfl rfl rfl rfl rfl (fun K hK => ?_) (fun K hK => ?_) (fun K hK => ?_)
               ·refine gS Try.func31 #[.slice Ao44 t104.length co44, .agg #[.int .i64 (wrap64 (Int.tmod a1_0 4)), .int .i64 (1 + (((Int.tdiv a1_0 4) % 256) % 14)), .int .i64 (wrap64 (a1_1))]] ?_
                with_reducible refine (parolelaw42_premium.calls k _ _ t104 (wrap64 (Int.tmod a1_0 4)) (1 + (((Int.tdiv a1_0 4) % 256) % 14)) (wrap64 (a1_1)) t129 t130 t131 _ ?side1 ?side2 A12.out).mono ?_
                (case side1 => exact rC HO106)
                (case side2 => exact rN HO106)
                rintro e w51 ⟨rfl, hb⟩
                refine ⟨_, rfl, ?_⟩
                replace HO106 := rB HO106 hb; replace HO109 := rB HO109 hb; replace HO119 := rB HO119 hb; replace HO122 := rB HO122 hb; replace BK101 := bB BK101 hb; replace BK102 := bB BK102 hb; replace BK110 := bB BK110 hb; replace BK133 := bB BK133 hb; replace HB := sB HB hb; (try clear hb); (try clear hb2); (try clear hk); (try clear hi)
                refine hK.out _ _ ⟨cE BK110 0, cE BK110 1, cE BK110 2⟩ (fun hHeld => ?_)
                clear hK K
                refine nX (some 66) ?_
                exact nV (hJ4_9_12_14 (gb133) _ ⟨hHeld, rD HO106, rD HO109, rD HO119, rD HO122, bD BK101, bD BK102, bD BK110, bD BK133, GW133.out, GE133.out, NB101_133.out, NB102_133.out, NB110_133.out, sD HB⟩)
               ·refine bS (N := 14) (cs := #[.int .i64 0, .int .i64 0, .int .i64 0]) (t := 38) ?_
                intro gb132 hg w51 hbox hb
                have BK132 := aM (hbox); have GW132 := gE hg HB; have GE132 := gE hg HB; have NB101_132 := nL hg BK101; have NB102_132 := nL hg BK102; have NB110_132 := nL hg BK110; have NB132_133 := nG hg BK133; replace HO106 := rB HO106 hb; replace HO109 := rB HO109 hb; replace HO119 := rB HO119 hb; replace HO122 := rB HO122 hb; replace BK101 := bB BK101 hb; replace BK102 := bB BK102 hb; replace BK110 := bB BK110 hb; replace BK133 := bB BK133 hb; replace HB := sB HB hb; clear hb hbox hg
                refine hK.out _ _ ⟨cE BK110 0, cE BK110 1, cE BK110 2⟩ (fun hHeld => ?_)
                clear hK K
                refine nX (some 14) ?_
                exact nV (hJ4_9_13_14 (gb132, gb133) _ ⟨hHeld, rD HO106, rD HO109, rD HO119, rD HO122, bD BK101, bD BK102, bD BK110, bD BK132, bD BK133, GW132.out, GE132.out, NB101_132.out, NB102_132.out, NB110_132.out, NB132_133.out, GW133.out, GE133.out, NB101_133.out, NB102_133.out, NB110_133.out, sD HB⟩)
               refine bS (N := 16) (cs := #[.int .i64 0, .int .i64 0, .int .i64 0]) (t := 38) ?_
               intro gb134 hg w51 hbox hb
               have BK134 := aM (hbox); have GW134 := gE hg HB; have GE134 := gE hg HB; have NB101_134 := nL hg BK101; have NB102_134 := nL hg BK102; have NB110_134 := nL hg BK110; have NB133_134 := nL hg BK133; replace HO106 := rB HO106 hb; replace HO109 := rB HO109 hb; replace HO119 := rB HO119 hb; replace HO122 := rB HO122 hb; replace BK101 := bB BK101 hb; replace BK102 := bB BK102 hb; replace BK110 := bB BK110 hb; replace BK133 := bB BK133 hb; replace HB := sB HB hb; clear hb hbox hg
               refine hK.out _ _ ⟨cE BK110 0, cE BK110 1, cE BK110 2⟩ (fun hHeld => ?_)
               clear hK K
               refine nX (some 16) ?_
               exact nV (hJ4_9_14_15 (gb133, gb134) _ ⟨hHeld, rD HO106, rD HO109, rD HO119, rD HO122, bD BK101, bD BK102, bD BK110, bD BK133, bD BK134, GW133.out, GE133.out, NB101_133.out, NB102_133.out, NB110_133.out, NB133_134.out, GW134.out, GE134.out, NB101_134.out, NB102_134.out, NB110_134.out, sD HB⟩)
              rintro gb132 w50 ⟨hS_, h0_, h1_, h2_, h3_, h4_, h5_, h6_, h7_, h8_, h9_, h10_, h12_, h14_, h16_⟩
              (try dsimp only at h0_ h1_ h2_ h3_ h4_ h5_ h6_ h7_ h8_ h9_ h10_ h12_ h14_ h16_)
              have BK132 := aM h7_; have GW132 := aM h8_; have GE132 := aM h9_; have NB101_132 := aM h10_; have NB102_132 := aM h12_; have NB110_132 := aM h14_; replace HO106 := aM h0_; replace HO109 := aM h1_; replace HO119 := aM h2_; replace HO122 := aM h3_; replace BK101 := aM h4_; replace BK102 := aM h5_; replace BK110 := aM h6_; replace HB := aM h16_; clear h0_ h1_ h2_ h3_ h4_ h5_ h6_ h7_ h8_ h9_ h10_ h12_ h14_ h16_
              (try dsimp only at hS_); have hHeld := hS_; clear hS_
              refine nQ ?_
              refine three3 (i := 12) (j := 14) (k := 15) (Ni := some 66) (Nj := some 15) (Nk := some 16) HT_ rfl rfl rfl rfl rfl rfl (fun K hK => ?_) (fun K hK => ?_) (fun K hK => ?_)
              ·refine gS Try.func31 #[.slice Ao44 t104.length co44, .agg #[.int .i64 (wrap64 (Int.tmod a1_0 4)), .int .i64 (1 + (((Int.tdiv a1_0 4) % 256) % 14)), .int .i64 (wrap64 (a1_1))]] ?_
               with_reducible refine (parolelaw42_premium.calls k _ _ t104 (wrap64 (Int.tmod a1_0 4)) (1 + (((Int.tdiv a1_0 4) % 256) % 14)) (wrap64 (a1_1)) t129 t130 t131 _ ?side1 ?side2 A12.out).mono ?_
               (case side1 => exact rC HO106)
               (case side2 => exact rN HO106)
               rintro e w51 ⟨rfl, hb⟩
               refine ⟨_, rfl, ?_⟩
               replace HO106 := rB HO106 hb; replace HO109 := rB HO109 hb; replace HO119 := rB HO119 hb; replace HO122 := rB HO122 hb; replace BK101 := bB BK101 hb; replace BK102 := bB BK102 hb; replace BK110 := bB BK110 hb; replace BK132 := bB BK132 hb; replace HB := sB HB hb; (try clear hb); (try clear hb2); (try clear hk); (try clear hi)
               refine hK.out _ _ ⟨cE BK110 0, cE BK110 1, cE BK110 2⟩ (fun hHeld => ?_)
               clear hK K
               refine nX (some 66) ?_
               exact nV (hJ4_9_12_13 (gb132) _ ⟨hHeld, rD HO106, rD HO109, rD HO119, rD HO122, bD BK101, bD BK102, bD BK110, bD BK132, GW132.out, GE132.out, NB101_132.out, NB102_132.out, NB110_132.out, sD HB⟩)
              ·refine bS (N := 15) (cs := #[.int .i64 0, .int .i64 0, .int .i64 0]) (t := 38) ?_
               intro gb133 hg w51 hbox hb
               have BK133 := aM (hbox); have GW133 := gE hg HB; have GE133 := gE hg HB; have NB101_133 := nL hg BK101; have NB102_133 := nL hg BK102; have NB110_133 := nL hg BK110; have NB132_133 := nL hg BK132; replace HO106 := rB HO106 hb; replace HO109 := rB HO109 hb; replace HO119 := rB HO119 hb; replace HO122 := rB HO122 hb; replace BK101 := bB BK101 hb; replace BK102 := bB BK102 hb; replace BK110 := bB BK110 hb; replace BK132 := bB BK132 hb; replace HB := sB HB hb; clear hb hbox hg
               refine hK.out _ _ ⟨cE BK110 0, cE BK110 1, cE BK110 2⟩ (fun hHeld => ?_)
               clear hK K
               refine nX (some 15) ?_
               exact nV (hJ4_9_13_14 (gb132, gb133) _ ⟨hHeld, rD HO106, rD HO109, rD HO119, rD HO122, bD BK101, bD BK102, bD BK110, bD BK132, bD BK133, GW132.out, GE132.out, NB101_132.out, NB102_132.out, NB110_132.out, NB132_133.out, GW133.out, GE133.out, NB101_133.out, NB102_133.out, NB110_133.out, sD HB⟩)
              refine bS (N := 16) (cs := #[.int .i64 0, .int .i64 0, .int .i64 0]) (t := 38) ?_
              intro gb134 hg w51 hbox hb
              have BK134 := aM (hbox); have GW134 := gE hg HB; have GE134 := gE hg HB; have NB101_134 := nL hg BK101; have NB102_134 := nL hg BK102; have NB110_134 := nL hg BK110; have NB132_134 := nL hg BK132; replace HO106 := rB HO106 hb; replace HO109 := rB HO109 hb; replace HO119 := rB HO119 hb; replace HO122 := rB HO122 hb; replace BK101 := bB BK101 hb; replace BK102 := bB BK102 hb; replace BK110 := bB BK110 hb; replace BK132 := bB BK132 hb; replace HB := sB HB hb; clear hb hbox hg
              refine hK.out _ _ ⟨cE BK110 0, cE BK110 1, cE BK110 2⟩ (fun hHeld => ?_)
              clear hK K
              refine nX (some 16) ?_
              exact nV (hJ4_9_13_15 (gb132, gb134) _ ⟨hHeld, rD HO106, rD HO109, rD HO119, rD HO122, bD BK101, bD BK102, bD BK110, bD BK132, bD BK134, GW132.out, GE132.out, NB101_132.out, NB102_132.out, NB110_132.out, NB132_134.out, GW134.out, GE134.out, NB101_134.out, NB102_134.out, NB110_134.out, sD HB⟩)
             rintro _ w50 ⟨hS_, h0_, h1_, h2_, h3_, h4_, h5_, h6_, h7_⟩
             (try dsimp only at h0_ h1_ h2_ h3_ h4_ h5_ h6_ h7_)
             replace HO106 := aM h0_; replace HO109 := aM h1_; replace HO119 := aM h2_; replace HO122 := aM h3_; replace BK101 := aM h4_; replace BK102 := aM h5_; replace BK110 := aM h6_; replace HB := aM h7_; clear h0_ h1_ h2_ h3_ h4_ h5_ h6_ h7_
             (try dsimp only at hS_); have hHeld := hS_; clear hS_
             refine nQ ?_
             refine three3 (i := 13) (j := 14) (k := 15) (Ni := some 14) (Nj := some 15) (Nk := some 16) HT_ rfl rfl rfl rfl rfl rfl (fun K hK => ?_) (fun K hK => ?_) (fun K hK => ?_)
             ·refine bS (N := 14) (cs := #[.int .i64 0, .int .i64 0, .int .i64 0]) (t := 38) ?_
              intro gb132 hg w51 hbox hb
              have BK132 := aM (hbox); have GW132 := gE hg HB; have GE132 := gE hg HB; have NB101_132 := nL hg BK101; have NB102_132 := nL hg BK102; have NB110_132 := nL hg BK110; replace HO106 := rB HO106 hb; replace HO109 := rB HO109 hb; replace HO119 := rB HO119 hb; replace HO122 := rB HO122 hb; replace BK101 := bB BK101 hb; replace BK102 := bB BK102 hb; replace BK110 := bB BK110 hb; replace HB := sB HB hb; clear hb hbox hg
              refine hK.out _ _ ⟨cE BK110 0, cE BK110 1, cE BK110 2⟩ (fun hHeld => ?_)
              clear hK K
              refine nX (some 14) ?_
              exact nV (hJ4_9_12_13 (gb132) _ ⟨hHeld, rD HO106, rD HO109, rD HO119, rD HO122, bD BK101, bD BK102, bD BK110, bD BK132, GW132.out, GE132.out, NB101_132.out, NB102_132.out, NB110_132.out, sD HB⟩)
             ·refine bS (N := 15) (cs := #[.int .i64 0, .int .i64 0, .int .i64 0]) (t := 38) ?_
              intro gb133 hg w51 hbox hb
              have BK133 := aM (hbox); have GW133 := gE hg HB; have GE133 := gE hg HB; have NB101_133 := nL hg BK101; have NB102_133 := nL hg BK102; have NB110_133 := nL hg BK110; replace HO106 := rB HO106 hb; replace HO109 := rB HO109 hb; replace HO119 := rB HO119 hb; replace HO122 := rB HO122 hb; replace BK101 := bB BK101 hb; replace BK102 := bB BK102 hb; replace BK110 := bB BK110 hb; replace HB := sB HB hb; clear hb hbox hg
              refine hK.out _ _ ⟨cE BK110 0, cE BK110 1, cE BK110 2⟩ (fun hHeld => ?_)
              clear hK K
              refine nX (some 15) ?_
              exact nV (hJ4_9_12_14 (gb133) _ ⟨hHeld, rD HO106, rD HO109, rD HO119, rD HO122, bD BK101, bD BK102, bD BK110, bD BK133, GW133.out, GE133.out, NB101_133.out, NB102_133.out, NB110_133.out, sD HB⟩)
             refine bS (N := 16) (cs := #[.int .i64 0, .int .i64 0, .int .i64 0]) (t := 38) ?_
             intro gb134 hg w51 hbox hb
             have BK134 := aM (hbox); have GW134 := gE hg HB; have GE134 := gE hg HB; have NB101_134 := nL hg BK101; have NB102_134 := nL hg BK102; have NB110_134 := nL hg BK110; replace HO106 := rB HO106 hb; replace HO109 := rB HO109 hb; replace HO119 := rB HO119 hb; replace HO122 := rB HO122 hb; replace BK101 := bB BK101 hb; replace BK102 := bB BK102 hb; replace BK110 := bB BK110 hb; replace HB := sB HB hb; clear hb hbox hg
             refine hK.out _ _ ⟨cE BK110 0, cE BK110 1, cE BK110 2⟩ (fun hHeld => ?_)
             clear hK K
             refine nX (some 16) ?_
             exact nV (hJ4_9_12_15 (gb134) _ ⟨hHeld, rD HO106, rD HO109, rD HO119, rD HO122, bD BK101, bD BK102, bD BK110, bD BK134, GW134.out, GE134.out, NB101_134.out, NB102_134.out, NB110_134.out, sD HB⟩)
            rintro ⟨gb132, gb133, gb134⟩ w51 ⟨hS_, h0_, h1_, h2_, h3_, h4_, h5_, h6_, h7_, h8_, h9_, h10_, h11_, h12_, h14_, h16_, h19_, h21_, h22_, h23_, h24_, h26_, h28_, h31_, h32_, h33_, h34_, h36_, h38_, h40_⟩
            (try dsimp only at h0_ h1_ h2_ h3_ h4_ h5_ h6_ h7_ h8_ h9_ h10_ h11_ h12_ h14_ h16_ h19_ h21_ h22_ h23_ h24_ h26_ h28_ h31_ h32_ h33_ h34_ h36_ h38_ h40_)
            have BK132 := aM h7_; have BK133 := aM h8_; have BK134 := aM h9_; have GW132 := aM h10_; have GE132 := aM h11_; have NB101_132 := aM h12_; have NB102_132 := aM h14_; have NB110_132 := aM h16_; have NB132_133 := aM h19_; have NB132_134 := aM h21_; have GW133 := aM h22_; have GE133 := aM h23_; have NB101_133 := aM h24_; have NB102_133 := aM h26_
            have NB110_133 := aM h28_; have NB133_134 := aM h31_; have GW134 := aM h32_; have GE134 := aM h33_; have NB101_134 := aM h34_; have NB102_134 := aM h36_; have NB110_134 := aM h38_; replace HO106 := aM h0_; replace HO109 := aM h1_; replace HO119 := aM h2_; replace HO122 := aM h3_; replace BK101 := aM h4_; replace BK102 := aM h5_; replace BK110 := aM h6_; replace HB := aM h40_; clear h0_ h1_ h2_ h3_ h4_ h5_ h6_ h7_ h8_ h9_ h10_ h11_ h12_ h14_ h16_ h19_ h21_ h22_ h23_ h24_ h26_ h28_ h31_ h32_ h33_ h34_ h36_ h38_ h40_
            (try dsimp only at hS_); have hHeld := hS_; clear hS_
            refine nQ ?_
            refine oX (i := 9) (N := some 63) rfl rfl HT_ (fun K hK => ?_)
            refine gS Try.func33 #[.slice Ao44 t104.length co44, .slice Ao45 y120.length co45, .int .i64 (wrap64 (Int.tmod a2 8)), .int .i64 (wrap64 (a0_2))] ?_
            with_reducible refine (parolelaw42_bond.calls k _ _ t104 _ _ y120 (wrap64 (Int.tmod a2 8)) (wrap64 (a0_2)) t126 t127 t128 _ ?side1 ?side2 ?side3 ?side4 A11.out).mono ?_
            (case side1 => exact rC HO106)
            (case side2 => exact rN HO106)
            (case side3 => exact rC HO122)
            (case side4 => exact rN HO122)
            rintro e w52 ⟨rfl, hb⟩
            refine ⟨_, rfl, ?_⟩
            replace HO106 := rB HO106 hb; replace HO109 := rB HO109 hb; replace HO119 := rB HO119 hb; replace HO122 := rB HO122 hb; replace BK101 := bB BK101 hb; replace BK102 := bB BK102 hb; replace BK110 := bB BK110 hb; replace BK132 := bB BK132 hb; replace BK133 := bB BK133 hb; replace BK134 := bB BK134 hb; replace HB := sB HB hb; (try clear hb); (try clear hb2); (try clear hk); (try clear hi)
            refine hK.out _ _ ⟨cE BK110 0, cE BK110 1, cE BK110 2⟩ (fun hHeld => ?_)
            clear hK K
            refine nX (some 63) ?_
            exact nV (hJ4_9_13_14_15 (gb132, gb133, gb134) _ ⟨hHeld, rD HO106, rD HO109, rD HO119, rD HO122, bD BK101, bD BK102, bD BK110, bD BK132, bD BK133, bD BK134, GW132.out, GE132.out, NB101_132.out, NB102_132.out, NB110_132.out, NB132_133.out, NB132_134.out, GW133.out, GE133.out, NB101_133.out, NB102_133.out, NB110_133.out, NB133_134.out, GW134.out, GE134.out, NB101_134.out, NB102_134.out, NB110_134.out, sD HB⟩)
           rintro ⟨gb133, gb134⟩ w51 ⟨hS_, h0_, h1_, h2_, h3_, h4_, h5_, h6_, h7_, h8_, h9_, h10_, h11_, h13_, h15_, h18_, h19_, h20_, h21_, h23_, h25_, h27_⟩
           (try dsimp only at h0_ h1_ h2_ h3_ h4_ h5_ h6_ h7_ h8_ h9_ h10_ h11_ h13_ h15_ h18_ h19_ h20_ h21_ h23_ h25_ h27_)
           have BK133 := aM h7_; have BK134 := aM h8_; have GW133 := aM h9_; have GE133 := aM h10_; have NB101_133 := aM h11_; have NB102_133 := aM h13_; have NB110_133 := aM h15_; have NB133_134 := aM h18_; have GW134 := aM h19_; have GE134 := aM h20_; have NB101_134 := aM h21_; have NB102_134 := aM h23_; have NB110_134 := aM h25_; replace HO106 := aM h0_
           replace HO109 := aM h1_; replace HO119 := aM h2_; replace HO122 := aM h3_; replace BK101 := aM h4_; replace BK102 := aM h5_; replace BK110 := aM h6_; replace HB := aM h27_; clear h0_ h1_ h2_ h3_ h4_ h5_ h6_ h7_ h8_ h9_ h10_ h11_ h13_ h15_ h18_ h19_ h20_ h21_ h23_ h25_ h27_
           (try dsimp only at hS_); have hHeld := hS_; clear hS_
           refine nQ ?_
           refine two2 (i := 12) (j := 13) (Ni := some 66) (Nj := some 14) HT_ rfl rfl rfl rfl (fun K hK => ?_) (fun K hK => ?_)
           ·refine gS Try.func31 #[.slice Ao44 t104.length co44, .agg #[.int .i64 (wrap64 (Int.tmod a1_0 4)), .int .i64 (1 + (((Int.tdiv a1_0 4) % 256) % 14)), .int .i64 (wrap64 (a1_1))]] ?_
            with_reducible refine (parolelaw42_premium.calls k _ _ t104 (wrap64 (Int.tmod a1_0 4)) (1 + (((Int.tdiv a1_0 4) % 256) % 14)) (wrap64 (a1_1)) t129 t130 t131 _ ?side1 ?side2 A12.out).mono ?_
            (case side1 => exact rC HO106)
            (case side2 => exact rN HO106)
            rintro e w52 ⟨rfl, hb⟩
            refine ⟨_, rfl, ?_⟩
            replace HO106 := rB HO106 hb; replace HO109 := rB HO109 hb; replace HO119 := rB HO119 hb; replace HO122 := rB HO122 hb; replace BK101 := bB BK101 hb; replace BK102 := bB BK102 hb; replace BK110 := bB BK110 hb; replace BK133 := bB BK133 hb; replace BK134 := bB BK134 hb; replace HB := sB HB hb; (try clear hb); (try clear hb2); (try clear hk); (try clear hi)
            refine hK.out _ _ ⟨cE BK110 0, cE BK110 1, cE BK110 2⟩ (fun hHeld => ?_)
            clear hK K
            refine nX (some 66) ?_
            exact nV (hJ4_9_12_14_15 (gb133, gb134) _ ⟨hHeld, rD HO106, rD HO109, rD HO119, rD HO122, bD BK101, bD BK102, bD BK110, bD BK133, bD BK134, GW133.out, GE133.out, NB101_133.out, NB102_133.out, NB110_133.out, NB133_134.out, GW134.out, GE134.out, NB101_134.out, NB102_134.out, NB110_134.out, sD HB⟩)
           refine bS (N := 14) (cs := #[.int .i64 0, .int .i64 0, .int .i64 0]) (t := 38) ?_
           intro gb132 hg w52 hbox hb
           have BK132 := aM (hbox); have GW132 := gE hg HB; have GE132 := gE hg HB; have NB101_132 := nL hg BK101; have NB102_132 := nL hg BK102; have NB110_132 := nL hg BK110; have NB132_133 := nG hg BK133; have NB132_134 := nG hg BK134; replace HO106 := rB HO106 hb; replace HO109 := rB HO109 hb; replace HO119 := rB HO119 hb; replace HO122 := rB HO122 hb; replace BK101 := bB BK101 hb; replace BK102 := bB BK102 hb; replace BK110 := bB BK110 hb; replace BK133 := bB BK133 hb; replace BK134 := bB BK134 hb; replace HB := sB HB hb; clear hb hbox hg
           refine hK.out _ _ ⟨cE BK110 0, cE BK110 1, cE BK110 2⟩ (fun hHeld => ?_)
           clear hK K
           refine nX (some 14) ?_
           exact nV (hJ4_9_13_14_15 (gb132, gb133, gb134) _ ⟨hHeld, rD HO106, rD HO109, rD HO119, rD HO122, bD BK101, bD BK102, bD BK110, bD BK132, bD BK133, bD BK134, GW132.out, GE132.out, NB101_132.out, NB102_132.out, NB110_132.out, NB132_133.out, NB132_134.out, GW133.out, GE133.out, NB101_133.out, NB102_133.out, NB110_133.out, NB133_134.out, GW134.out, GE134.out, NB101_134.out, NB102_134.out, NB110_134.out, sD HB⟩)
          rintro ⟨gb132, gb134⟩ w51 ⟨hS_, h0_, h1_, h2_, h3_, h4_, h5_, h6_, h7_, h8_, h9_, h10_, h11_, h13_, h15_, h18_, h19_, h20_, h21_, h23_, h25_, h27_⟩
          (try dsimp only at h0_ h1_ h2_ h3_ h4_ h5_ h6_ h7_ h8_ h9_ h10_ h11_ h13_ h15_ h18_ h19_ h20_ h21_ h23_ h25_ h27_)
          have BK132 := aM h7_; have BK134 := aM h8_; have GW132 := aM h9_; have GE132 := aM h10_; have NB101_132 := aM h11_; have NB102_132 := aM h13_; have NB110_132 := aM h15_; have NB132_134 := aM h18_; have GW134 := aM h19_; have GE134 := aM h20_; have NB101_134 := aM h21_; have NB102_134 := aM h23_; have NB110_134 := aM h25_; replace HO106 := aM h0_
          replace HO109 := aM h1_; replace HO119 := aM h2_; replace HO122 := aM h3_; replace BK101 := aM h4_; replace BK102 := aM h5_; replace BK110 := aM h6_; replace HB := aM h27_; clear h0_ h1_ h2_ h3_ h4_ h5_ h6_ h7_ h8_ h9_ h10_ h11_ h13_ h15_ h18_ h19_ h20_ h21_ h23_ h25_ h27_
          (try dsimp only at hS_); have hHeld := hS_; clear hS_
          refine nQ ?_
          refine two2 (i := 12) (j := 14) (Ni := some 66) (Nj := some 15) HT_ rfl rfl rfl rfl (fun K hK => ?_) (fun K hK => ?_)
          ·refine gS Try.func31 #[.slice Ao44 t104.length co44, .agg #[.int .i64 (wrap64 (Int.tmod a1_0 4)), .int .i64 (1 + (((Int.tdiv a1_0 4) % 256) % 14)), .int .i64 (wrap64 (a1_1))]] ?_
           with_reducible refine (parolelaw42_premium.calls k _ _ t104 (wrap64 (Int.tmod a1_0 4)) (1 + (((Int.tdiv a1_0 4) % 256) % 14)) (wrap64 (a1_1)) t129 t130 t131 _ ?side1 ?side2 A12.out).mono ?_
           (case side1 => exact rC HO106)
           (case side2 => exact rN HO106)
           rintro e w52 ⟨rfl, hb⟩
           refine ⟨_, rfl, ?_⟩
           replace HO106 := rB HO106 hb; replace HO109 := rB HO109 hb; replace HO119 := rB HO119 hb; replace HO122 := rB HO122 hb; replace BK101 := bB BK101 hb; replace BK102 := bB BK102 hb; replace BK110 := bB BK110 hb; replace BK132 := bB BK132 hb; replace BK134 := bB BK134 hb; replace HB := sB HB hb; (try clear hb); (try clear hb2); (try clear hk); (try clear hi)
           refine hK.out _ _ ⟨cE BK110 0, cE BK110 1, cE BK110 2⟩ (fun hHeld => ?_)
           clear hK K
           refine nX (some 66) ?_
           exact nV (hJ4_9_12_13_15 (gb132, gb134) _ ⟨hHeld, rD HO106, rD HO109, rD HO119, rD HO122, bD BK101, bD BK102, bD BK110, bD BK132, bD BK134, GW132.out, GE132.out, NB101_132.out, NB102_132.out, NB110_132.out, NB132_134.out, GW134.out, GE134.out, NB101_134.out, NB102_134.out, NB110_134.out, sD HB⟩)
          refine bS (N := 15) (cs := #[.int .i64 0, .int .i64 0, .int .i64 0]) (t := 38) ?_
          intro gb133 hg w52 hbox hb
          have BK133 := aM (hbox); have GW133 := gE hg HB; have GE133 := gE hg HB; have NB101_133 := nL hg BK101; have NB102_133 := nL hg BK102; have NB110_133 := nL hg BK110; have NB132_133 := nL hg BK132; have NB133_134 := nG hg BK134; replace HO106 := rB HO106 hb; replace HO109 := rB HO109 hb; replace HO119 := rB HO119 hb; replace HO122 := rB HO122 hb; replace BK101 := bB BK101 hb; replace BK102 := bB BK102 hb; replace BK110 := bB BK110 hb; replace BK132 := bB BK132 hb; replace BK134 := bB BK134 hb; replace HB := sB HB hb; clear hb hbox hg
          refine hK.out _ _ ⟨cE BK110 0, cE BK110 1, cE BK110 2⟩ (fun hHeld => ?_)
          clear hK K
          refine nX (some 15) ?_
          exact nV (hJ4_9_13_14_15 (gb132, gb133, gb134) _ ⟨hHeld, rD HO106, rD HO109, rD HO119, rD HO122, bD BK101, bD BK102, bD BK110, bD BK132, bD BK133, bD BK134, GW132.out, GE132.out, NB101_132.out, NB102_132.out, NB110_132.out, NB132_133.out, NB132_134.out, GW133.out, GE133.out, NB101_133.out, NB102_133.out, NB110_133.out, NB133_134.out, GW134.out, GE134.out, NB101_134.out, NB102_134.out, NB110_134.out, sD HB⟩)
         rintro ⟨gb132, gb133⟩ w51 ⟨hS_, h0_, h1_, h2_, h3_, h4_, h5_, h6_, h7_, h8_, h9_, h10_, h11_, h13_, h15_, h18_, h19_, h20_, h21_, h23_, h25_, h27_⟩
         (try dsimp only at h0_ h1_ h2_ h3_ h4_ h5_ h6_ h7_ h8_ h9_ h10_ h11_ h13_ h15_ h18_ h19_ h20_ h21_ h23_ h25_ h27_)
         have BK132 := aM h7_; have BK133 := aM h8_; have GW132 := aM h9_; have GE132 := aM h10_; have NB101_132 := aM h11_; have NB102_132 := aM h13_; have NB110_132 := aM h15_; have NB132_133 := aM h18_; have GW133 := aM h19_; have GE133 := aM h20_; have NB101_133 := aM h21_; have NB102_133 := aM h23_; have NB110_133 := aM h25_; replace HO106 := aM h0_
         replace HO109 := aM h1_; replace HO119 := aM h2_; replace HO122 := aM h3_; replace BK101 := aM h4_; replace BK102 := aM h5_; replace BK110 := aM h6_; replace HB := aM h27_; clear h0_ h1_ h2_ h3_ h4_ h5_ h6_ h7_ h8_ h9_ h10_ h11_ h13_ h15_ h18_ h19_ h20_ h21_ h23_ h25_ h27_
         (try dsimp only at hS_); have hHeld := hS_; clear hS_
         refine nQ ?_
         refine two2 (i := 12) (j := 15) (Ni := some 66) (Nj := some 16) HT_ rfl rfl rfl rfl (fun K hK => ?_) (fun K hK => ?_)
         ·refine gS Try.func31 #[.slice Ao44 t104.length co44, .agg #[.int .i64 (wrap64 (Int.tmod a1_0 4)), .int .i64 (1 + (((Int.tdiv a1_0 4) % 256) % 14)), .int .i64 (wrap64 (a1_1))]] ?_
          with_reducible refine (parolelaw42_premium.calls k _ _ t104 (wrap64 (Int.tmod a1_0 4)) (1 + (((Int.tdiv a1_0 4) % 256) % 14)) (wrap64 (a1_1)) t129 t130 t131 _ ?side1 ?side2 A12.out).mono ?_
          (case side1 => exact rC HO106)
          (case side2 => exact rN HO106)
          rintro e w52 ⟨rfl, hb⟩
          refine ⟨_, rfl, ?_⟩
          replace HO106 := rB HO106 hb; replace HO109 := rB HO109 hb; replace HO119 := rB HO119 hb; replace HO122 := rB HO122 hb; replace BK101 := bB BK101 hb; replace BK102 := bB BK102 hb; replace BK110 := bB BK110 hb; replace BK132 := bB BK132 hb; replace BK133 := bB BK133 hb; replace HB := sB HB hb; (try clear hb); (try clear hb2); (try clear hk); (try clear hi)
          refine hK.out _ _ ⟨cE BK110 0, cE BK110 1, cE BK110 2⟩ (fun hHeld => ?_)
          clear hK K
          refine nX (some 66) ?_
          exact nV (hJ4_9_12_13_14 (gb132, gb133) _ ⟨hHeld, rD HO106, rD HO109, rD HO119, rD HO122, bD BK101, bD BK102, bD BK110, bD BK132, bD BK133, GW132.out, GE132.out, NB101_132.out, NB102_132.out, NB110_132.out, NB132_133.out, GW133.out, GE133.out, NB101_133.out, NB102_133.out, NB110_133.out, sD HB⟩)
         refine bS (N := 16) (cs := #[.int .i64 0, .int .i64 0, .int .i64 0]) (t := 38) ?_
         intro gb134 hg w52 hbox hb
         have BK134 := aM (hbox); have GW134 := gE hg HB; have GE134 := gE hg HB; have NB101_134 := nL hg BK101; have NB102_134 := nL hg BK102; have NB110_134 := nL hg BK110; have NB132_134 := nL hg BK132; have NB133_134 := nL hg BK133; replace HO106 := rB HO106 hb; replace HO109 := rB HO109 hb; replace HO119 := rB HO119 hb; replace HO122 := rB HO122 hb; replace BK101 := bB BK101 hb; replace BK102 := bB BK102 hb; replace BK110 := bB BK110 hb; replace BK132 := bB BK132 hb; replace BK133 := bB BK133 hb; replace HB := sB HB hb; clear hb hbox hg
         refine hK.out _ _ ⟨cE BK110 0, cE BK110 1, cE BK110 2⟩ (fun hHeld => ?_)
         clear hK K
         refine nX (some 16) ?_
         exact nV (hJ4_9_13_14_15 (gb132, gb133, gb134) _ ⟨hHeld, rD HO106, rD HO109, rD HO119, rD HO122, bD BK101, bD BK102, bD BK110, bD BK132, bD BK133, bD BK134, GW132.out, GE132.out, NB101_132.out, NB102_132.out, NB110_132.out, NB132_133.out, NB132_134.out, GW133.out, GE133.out, NB101_133.out, NB102_133.out, NB110_133.out, NB133_134.out, GW134.out, GE134.out, NB101_134.out, NB102_134.out, NB110_134.out, sD HB⟩)
        rintro gb134 w51 ⟨hS_, h0_, h1_, h2_, h3_, h4_, h5_, h6_, h7_, h8_, h9_, h10_, h12_, h14_, h16_⟩
        (try dsimp only at h0_ h1_ h2_ h3_ h4_ h5_ h6_ h7_ h8_ h9_ h10_ h12_ h14_ h16_)
        have BK134 := aM h7_; have GW134 := aM h8_; have GE134 := aM h9_; have NB101_134 := aM h10_; have NB102_134 := aM h12_; have NB110_134 := aM h14_; replace HO106 := aM h0_; replace HO109 := aM h1_; replace HO119 := aM h2_; replace HO122 := aM h3_; replace BK101 := aM h4_; replace BK102 := aM h5_; replace BK110 := aM h6_; replace HB := aM h16_; clear h0_ h1_ h2_ h3_ h4_ h5_ h6_ h7_ h8_ h9_ h10_ h12_ h14_ h16_
        (try dsimp only at hS_); have hHeld := hS_; clear hS_
        refine nQ ?_
        refine two2 (i := 13) (j := 14) (Ni := some 14) (Nj := some 15) HT_ rfl rfl rfl rfl (fun K hK => ?_) (fun K hK => ?_)
        ·refine bS (N := 14) (cs := #[.int .i64 0, .int .i64 0, .int .i64 0]) (t := 38) ?_
         intro gb132 hg w52 hbox hb
         have BK132 := aM (hbox); have GW132 := gE hg HB; have GE132 := gE hg HB; have NB101_132 := nL hg BK101; have NB102_132 := nL hg BK102; have NB110_132 := nL hg BK110; have NB132_134 := nG hg BK134; replace HO106 := rB HO106 hb; replace HO109 := rB HO109 hb; replace HO119 := rB HO119 hb; replace HO122 := rB HO122 hb; replace BK101 := bB BK101 hb; replace BK102 := bB BK102 hb; replace BK110 := bB BK110 hb; replace BK134 := bB BK134 hb; replace HB := sB HB hb; clear hb hbox hg
         refine hK.out _ _ ⟨cE BK110 0, cE BK110 1, cE BK110 2⟩ (fun hHeld => ?_)
         clear hK K
         refine nX (some 14) ?_
         exact nV (hJ4_9_12_13_15 (gb132, gb134) _ ⟨hHeld, rD HO106, rD HO109, rD HO119, rD HO122, bD BK101, bD BK102, bD BK110, bD BK132, bD BK134, GW132.out, GE132.out, NB101_132.out, NB102_132.out, NB110_132.out, NB132_134.out, GW134.out, GE134.out, NB101_134.out, NB102_134.out, NB110_134.out, sD HB⟩)
        refine bS (N := 15) (cs := #[.int .i64 0, .int .i64 0, .int .i64 0]) (t := 38) ?_
        intro gb133 hg w52 hbox hb
        have BK133 := aM (hbox); have GW133 := gE hg HB; have GE133 := gE hg HB; have NB101_133 := nL hg BK101; have NB102_133 := nL hg BK102; have NB110_133 := nL hg BK110; have NB133_134 := nG hg BK134; replace HO106 := rB HO106 hb; replace HO109 := rB HO109 hb; replace HO119 := rB HO119 hb; replace HO122 := rB HO122 hb; replace BK101 := bB BK101 hb; replace BK102 := bB BK102 hb; replace BK110 := bB BK110 hb; replace BK134 := bB BK134 hb; replace HB := sB HB hb; clear hb hbox hg
        refine hK.out _ _ ⟨cE BK110 0, cE BK110 1, cE BK110 2⟩ (fun hHeld => ?_)
        clear hK K
        refine nX (some 15) ?_
        exact nV (hJ4_9_12_14_15 (gb133, gb134) _ ⟨hHeld, rD HO106, rD HO109, rD HO119, rD HO122, bD BK101, bD BK102, bD BK110, bD BK133, bD BK134, GW133.out, GE133.out, NB101_133.out, NB102_133.out, NB110_133.out, NB133_134.out, GW134.out, GE134.out, NB101_134.out, NB102_134.out, NB110_134.out, sD HB⟩)
       rintro gb133 w51 ⟨hS_, h0_, h1_, h2_, h3_, h4_, h5_, h6_, h7_, h8_, h9_, h10_, h12_, h14_, h16_⟩
       (try dsimp only at h0_ h1_ h2_ h3_ h4_ h5_ h6_ h7_ h8_ h9_ h10_ h12_ h14_ h16_)
       have BK133 := aM h7_; have GW133 := aM h8_; have GE133 := aM h9_; have NB101_133 := aM h10_; have NB102_133 := aM h12_; have NB110_133 := aM h14_; replace HO106 := aM h0_; replace HO109 := aM h1_; replace HO119 := aM h2_; replace HO122 := aM h3_; replace BK101 := aM h4_; replace BK102 := aM h5_; replace BK110 := aM h6_; replace HB := aM h16_; clear h0_ h1_ h2_ h3_ h4_ h5_ h6_ h7_ h8_ h9_ h10_ h12_ h14_ h16_
       (try dsimp only at hS_); have hHeld := hS_; clear hS_
       refine nQ ?_
       refine two2 (i := 13) (j := 15) (Ni := some 14) (Nj := some 16) HT_ rfl rfl rfl rfl (fun K hK => ?_) (fun K hK => ?_)
       ·refine bS (N := 14) (cs := #[.int .i64 0, .int .i64 0, .int .i64 0]) (t := 38) ?_
        intro gb132 hg w52 hbox hb
        have BK132 := aM (hbox); have GW132 := gE hg HB; have GE132 := gE hg HB; have NB101_132 := nL hg BK101; have NB102_132 := nL hg BK102; have NB110_132 := nL hg BK110; have NB132_133 := nG hg BK133; replace HO106 := rB HO106 hb; replace HO109 := rB HO109 hb; replace HO119 := rB HO119 hb; replace HO122 := rB HO122 hb; replace BK101 := bB BK101 hb; replace BK102 := bB BK102 hb; replace BK110 := bB BK110 hb; replace BK133 := bB BK133 hb; replace HB := sB HB hb; clear hb hbox hg
        refine hK.out _ _ ⟨cE BK110 0, cE BK110 1, cE BK110 2⟩ (fun hHeld => ?_)
        clear hK K
        refine nX (some 14) ?_
        exact nV (hJ4_9_12_13_14 (gb132, gb133) _ ⟨hHeld, rD HO106, rD HO109, rD HO119, rD HO122, bD BK101, bD BK102, bD BK110, bD BK132, bD BK133, GW132.out, GE132.out, NB101_132.out, NB102_132.out, NB110_132.out, NB132_133.out, GW133.out, GE133.out, NB101_133.out, NB102_133.out, NB110_133.out, sD HB⟩)
       refine bS (N := 16) (cs := #[.int .i64 0, .int .i64 0, .int .i64 0]) (t := 38) ?_
       intro gb134 hg w52 hbox hb
       have BK134 := aM (hbox); have GW134 := gE hg HB; have GE134 := gE hg HB; have NB101_134 := nL hg BK101; have NB102_134 := nL hg BK102; have NB110_134 := nL hg BK110; have NB133_134 := nL hg BK133; replace HO106 := rB HO106 hb; replace HO109 := rB HO109 hb; replace HO119 := rB HO119 hb; replace HO122 := rB HO122 hb; replace BK101 := bB BK101 hb; replace BK102 := bB BK102 hb; replace BK110 := bB BK110 hb; replace BK133 := bB BK133 hb; replace HB := sB HB hb; clear hb hbox hg
       refine hK.out _ _ ⟨cE BK110 0, cE BK110 1, cE BK110 2⟩ (fun hHeld => ?_)
       clear hK K
       refine nX (some 16) ?_
       exact nV (hJ4_9_12_14_15 (gb133, gb134) _ ⟨hHeld, rD HO106, rD HO109, rD HO119, rD HO122, bD BK101, bD BK102, bD BK110, bD BK133, bD BK134, GW133.out, GE133.out, NB101_133.out, NB102_133.out, NB110_133.out, NB133_134.out, GW134.out, GE134.out, NB101_134.out, NB102_134.out, NB110_134.out, sD HB⟩)
      rintro gb132 w51 ⟨hS_, h0_, h1_, h2_, h3_, h4_, h5_, h6_, h7_, h8_, h9_, h10_, h12_, h14_, h16_⟩
      (try dsimp only at h0_ h1_ h2_ h3_ h4_ h5_ h6_ h7_ h8_ h9_ h10_ h12_ h14_ h16_)
      have BK132 := aM h7_; have GW132 := aM h8_; have GE132 := aM h9_; have NB101_132 := aM h10_; have NB102_132 := aM h12_; have NB110_132 := aM h14_; replace HO106 := aM h0_; replace HO109 := aM h1_; replace HO119 := aM h2_; replace HO122 := aM h3_; replace BK101 := aM h4_; replace BK102 := aM h5_; replace BK110 := aM h6_; replace HB := aM h16_; clear h0_ h1_ h2_ h3_ h4_ h5_ h6_ h7_ h8_ h9_ h10_ h12_ h14_ h16_
      (try dsimp only at hS_); have hHeld := hS_; clear hS_
      refine nQ ?_
      refine two2 (i := 14) (j := 15) (Ni := some 15) (Nj := some 16) HT_ rfl rfl rfl rfl (fun K hK => ?_) (fun K hK => ?_)
      ·refine bS (N := 15) (cs := #[.int .i64 0, .int .i64 0, .int .i64 0]) (t := 38) ?_
       intro gb133 hg w52 hbox hb
       have BK133 := aM (hbox); have GW133 := gE hg HB; have GE133 := gE hg HB; have NB101_133 := nL hg BK101; have NB102_133 := nL hg BK102; have NB110_133 := nL hg BK110; have NB132_133 := nL hg BK132; replace HO106 := rB HO106 hb; replace HO109 := rB HO109 hb; replace HO119 := rB HO119 hb; replace HO122 := rB HO122 hb; replace BK101 := bB BK101 hb; replace BK102 := bB BK102 hb; replace BK110 := bB BK110 hb; replace BK132 := bB BK132 hb; replace HB := sB HB hb; clear hb hbox hg
       refine hK.out _ _ ⟨cE BK110 0, cE BK110 1, cE BK110 2⟩ (fun hHeld => ?_)
       clear hK K
       refine nX (some 15) ?_
       exact nV (hJ4_9_12_13_14 (gb132, gb133) _ ⟨hHeld, rD HO106, rD HO109, rD HO119, rD HO122, bD BK101, bD BK102, bD BK110, bD BK132, bD BK133, GW132.out, GE132.out, NB101_132.out, NB102_132.out, NB110_132.out, NB132_133.out, GW133.out, GE133.out, NB101_133.out, NB102_133.out, NB110_133.out, sD HB⟩)
      refine bS (N := 16) (cs := #[.int .i64 0, .int .i64 0, .int .i64 0]) (t := 38) ?_
      intro gb134 hg w52 hbox hb
      have BK134 := aM (hbox); have GW134 := gE hg HB; have GE134 := gE hg HB; have NB101_134 := nL hg BK101; have NB102_134 := nL hg BK102; have NB110_134 := nL hg BK110; have NB132_134 := nL hg BK132; replace HO106 := rB HO106 hb; replace HO109 := rB HO109 hb; replace HO119 := rB HO119 hb; replace HO122 := rB HO122 hb; replace BK101 := bB BK101 hb; replace BK102 := bB BK102 hb; replace BK110 := bB BK110 hb; replace BK132 := bB BK132 hb; replace HB := sB HB hb; clear hb hbox hg
      refine hK.out _ _ ⟨cE BK110 0, cE BK110 1, cE BK110 2⟩ (fun hHeld => ?_)
      clear hK K
      refine nX (some 16) ?_
      exact nV (hJ4_9_12_13_15 (gb132, gb134) _ ⟨hHeld, rD HO106, rD HO109, rD HO119, rD HO122, bD BK101, bD BK102, bD BK110, bD BK132, bD BK134, GW132.out, GE132.out, NB101_132.out, NB102_132.out, NB110_132.out, NB132_134.out, GW134.out, GE134.out, NB101_134.out, NB102_134.out, NB110_134.out, sD HB⟩)
     rintro ⟨gb132, gb133, gb134⟩ w52 ⟨hS_, h0_, h1_, h2_, h3_, h4_, h5_, h6_, h7_, h8_, h9_, h10_, h11_, h12_, h14_, h16_, h19_, h21_, h22_, h23_, h24_, h26_, h28_, h31_, h32_, h33_, h34_, h36_, h38_, h40_⟩
     (try dsimp only at h0_ h1_ h2_ h3_ h4_ h5_ h6_ h7_ h8_ h9_ h10_ h11_ h12_ h14_ h16_ h19_ h21_ h22_ h23_ h24_ h26_ h28_ h31_ h32_ h33_ h34_ h36_ h38_ h40_)
     have BK132 := aM h7_; have BK133 := aM h8_; have BK134 := aM h9_; have GW132 := aM h10_; have GE132 := aM h11_; have NB101_132 := aM h12_; have NB102_132 := aM h14_; have NB110_132 := aM h16_; have NB132_133 := aM h19_; have NB132_134 := aM h21_; have GW133 := aM h22_; have GE133 := aM h23_; have NB101_133 := aM h24_; have NB102_133 := aM h26_
     have NB110_133 := aM h28_; have NB133_134 := aM h31_; have GW134 := aM h32_; have GE134 := aM h33_; have NB101_134 := aM h34_; have NB102_134 := aM h36_; have NB110_134 := aM h38_; replace HO106 := aM h0_; replace HO109 := aM h1_; replace HO119 := aM h2_; replace HO122 := aM h3_; replace BK101 := aM h4_; replace BK102 := aM h5_; replace BK110 := aM h6_; replace HB := aM h40_; clear h0_ h1_ h2_ h3_ h4_ h5_ h6_ h7_ h8_ h9_ h10_ h11_ h12_ h14_ h16_ h19_ h21_ h22_ h23_ h24_ h26_ h28_ h31_ h32_ h33_ h34_ h36_ h38_ h40_
     (try dsimp only at hS_); have hHeld := hS_; clear hS_
     refine nQ ?_
     refine oX (i := 12) (N := some 66) rfl rfl HT_ (fun K hK => ?_)
     refine gS Try.func31 #[.slice Ao44 t104.length co44, .agg #[.int .i64 (wrap64 (Int.tmod a1_0 4)), .int .i64 (1 + (((Int.tdiv a1_0 4) % 256) % 14)), .int .i64 (wrap64 (a1_1))]] ?_
     with_reducible refine (parolelaw42_premium.calls k _ _ t104 (wrap64 (Int.tmod a1_0 4)) (1 + (((Int.tdiv a1_0 4) % 256) % 14)) (wrap64 (a1_1)) t129 t130 t131 _ ?side1 ?side2 A12.out).mono ?_
     (case side1 => exact rC HO106)
     (case side2 => exact rN HO106)
     rintro e w53 ⟨rfl, hb⟩
     refine ⟨_, rfl, ?_⟩
     replace HO106 := rB HO106 hb; replace HO109 := rB HO109 hb; replace HO119 := rB HO119 hb; replace HO122 := rB HO122 hb; replace BK101 := bB BK101 hb; replace BK102 := bB BK102 hb; replace BK110 := bB BK110 hb; replace BK132 := bB BK132 hb; replace BK133 := bB BK133 hb; replace BK134 := bB BK134 hb; replace HB := sB HB hb; (try clear hb); (try clear hb2); (try clear hk); (try clear hi)
     refine hK.out _ _ ⟨cE BK110 0, cE BK110 1, cE BK110 2⟩ (fun hHeld => ?_)
     clear hK K
     refine nX (some 66) ?_
     exact nV (hJ4_9_12_13_14_15 (gb132, gb133, gb134) _ ⟨hHeld, rD HO106, rD HO109, rD HO119, rD HO122, bD BK101, bD BK102, bD BK110, bD BK132, bD BK133, bD BK134, GW132.out, GE132.out, NB101_132.out, NB102_132.out, NB110_132.out, NB132_133.out, NB132_134.out, GW133.out, GE133.out, NB101_133.out, NB102_133.out, NB110_133.out, NB133_134.out, GW134.out, GE134.out, NB101_134.out, NB102_134.out, NB110_134.out, sD HB⟩)
    rintro ⟨gb133, gb134⟩ w52 ⟨hS_, h0_, h1_, h2_, h3_, h4_, h5_, h6_, h7_, h8_, h9_, h10_, h11_, h13_, h15_, h18_, h19_, h20_, h21_, h23_, h25_, h27_⟩
    (try dsimp only at h0_ h1_ h2_ h3_ h4_ h5_ h6_ h7_ h8_ h9_ h10_ h11_ h13_ h15_ h18_ h19_ h20_ h21_ h23_ h25_ h27_)
    have BK133 := aM h7_; have BK134 := aM h8_; have GW133 := aM h9_; have GE133 := aM h10_; have NB101_133 := aM h11_; have NB102_133 := aM h13_; have NB110_133 := aM h15_; have NB133_134 := aM h18_; have GW134 := aM h19_; have GE134 := aM h20_; have NB101_134 := aM h21_; have NB102_134 := aM h23_; have NB110_134 := aM h25_; replace HO106 := aM h0_
    replace HO109 := aM h1_; replace HO119 := aM h2_; replace HO122 := aM h3_; replace BK101 := aM h4_; replace BK102 := aM h5_; replace BK110 := aM h6_; replace HB := aM h27_; clear h0_ h1_ h2_ h3_ h4_ h5_ h6_ h7_ h8_ h9_ h10_ h11_ h13_ h15_ h18_ h19_ h20_ h21_ h23_ h25_ h27_
    (try dsimp only at hS_); have hHeld := hS_; clear hS_
    refine nQ ?_
    refine oX (i := 13) (N := some 14) rfl rfl HT_ (fun K hK => ?_)
    refine bS (N := 14) (cs := #[.int .i64 0, .int .i64 0, .int .i64 0]) (t := 38) ?_
    intro gb132 hg w53 hbox hb
    have BK132 := aM (hbox); have GW132 := gE hg HB; have GE132 := gE hg HB; have NB101_132 := nL hg BK101; have NB102_132 := nL hg BK102; have NB110_132 := nL hg BK110; have NB132_133 := nG hg BK133; have NB132_134 := nG hg BK134; replace HO106 := rB HO106 hb; replace HO109 := rB HO109 hb; replace HO119 := rB HO119 hb; replace HO122 := rB HO122 hb; replace BK101 := bB BK101 hb; replace BK102 := bB BK102 hb; replace BK110 := bB BK110 hb; replace BK133 := bB BK133 hb; replace BK134 := bB BK134 hb; replace HB := sB HB hb; clear hb hbox hg
    refine hK.out _ _ ⟨cE BK110 0, cE BK110 1, cE BK110 2⟩ (fun hHeld => ?_)
    clear hK K
    refine nX (some 14) ?_
    exact nV (hJ4_9_12_13_14_15 (gb132, gb133, gb134) _ ⟨hHeld, rD HO106, rD HO109, rD HO119, rD HO122, bD BK101, bD BK102, bD BK110, bD BK132, bD BK133, bD BK134, GW132.out, GE132.out, NB101_132.out, NB102_132.out, NB110_132.out, NB132_133.out, NB132_134.out, GW133.out, GE133.out, NB101_133.out, NB102_133.out, NB110_133.out, NB133_134.out, GW134.out, GE134.out, NB101_134.out, NB102_134.out, NB110_134.out, sD HB⟩)
   rintro ⟨gb132, gb134⟩ w52 ⟨hS_, h0_, h1_, h2_, h3_, h4_, h5_, h6_, h7_, h8_, h9_, h10_, h11_, h13_, h15_, h18_, h19_, h20_, h21_, h23_, h25_, h27_⟩
   (try dsimp only at h0_ h1_ h2_ h3_ h4_ h5_ h6_ h7_ h8_ h9_ h10_ h11_ h13_ h15_ h18_ h19_ h20_ h21_ h23_ h25_ h27_)
   have BK132 := aM h7_; have BK134 := aM h8_; have GW132 := aM h9_; have GE132 := aM h10_; have NB101_132 := aM h11_; have NB102_132 := aM h13_; have NB110_132 := aM h15_; have NB132_134 := aM h18_; have GW134 := aM h19_; have GE134 := aM h20_; have NB101_134 := aM h21_; have NB102_134 := aM h23_; have NB110_134 := aM h25_; replace HO106 := aM h0_
   replace HO109 := aM h1_; replace HO119 := aM h2_; replace HO122 := aM h3_; replace BK101 := aM h4_; replace BK102 := aM h5_; replace BK110 := aM h6_; replace HB := aM h27_; clear h0_ h1_ h2_ h3_ h4_ h5_ h6_ h7_ h8_ h9_ h10_ h11_ h13_ h15_ h18_ h19_ h20_ h21_ h23_ h25_ h27_
   (try dsimp only at hS_); have hHeld := hS_; clear hS_
   refine nQ ?_
   refine oX (i := 14) (N := some 15) rfl rfl HT_ (fun K hK => ?_)
   refine bS (N := 15) (cs := #[.int .i64 0, .int .i64 0, .int .i64 0]) (t := 38) ?_
   intro gb133 hg w53 hbox hb
   have BK133 := aM (hbox); have GW133 := gE hg HB; have GE133 := gE hg HB; have NB101_133 := nL hg BK101; have NB102_133 := nL hg BK102; have NB110_133 := nL hg BK110; have NB132_133 := nL hg BK132; have NB133_134 := nG hg BK134; replace HO106 := rB HO106 hb; replace HO109 := rB HO109 hb; replace HO119 := rB HO119 hb; replace HO122 := rB HO122 hb; replace BK101 := bB BK101 hb; replace BK102 := bB BK102 hb; replace BK110 := bB BK110 hb; replace BK132 := bB BK132 hb; replace BK134 := bB BK134 hb; replace HB := sB HB hb; clear hb hbox hg
   refine hK.out _ _ ⟨cE BK110 0, cE BK110 1, cE BK110 2⟩ (fun hHeld => ?_)
   clear hK K
   refine nX (some 15) ?_
   exact nV (hJ4_9_12_13_14_15 (gb132, gb133, gb134) _ ⟨hHeld, rD HO106, rD HO109, rD HO119, rD HO122, bD BK101, bD BK102, bD BK110, bD BK132, bD BK133, bD BK134, GW132.out, GE132.out, NB101_132.out, NB102_132.out, NB110_132.out, NB132_133.out, NB132_134.out, GW133.out, GE133.out, NB101_133.out, NB102_133.out, NB110_133.out, NB133_134.out, GW134.out, GE134.out, NB101_134.out, NB102_134.out, NB110_134.out, sD HB⟩)
  rintro ⟨gb132, gb133⟩ w52 ⟨hS_, h0_, h1_, h2_, h3_, h4_, h5_, h6_, h7_, h8_, h9_, h10_, h11_, h13_, h15_, h18_, h19_, h20_, h21_, h23_, h25_, h27_⟩
  (try dsimp only at h0_ h1_ h2_ h3_ h4_ h5_ h6_ h7_ h8_ h9_ h10_ h11_ h13_ h15_ h18_ h19_ h20_ h21_ h23_ h25_ h27_)
  have BK132 := aM h7_; have BK133 := aM h8_; have GW132 := aM h9_; have GE132 := aM h10_; have NB101_132 := aM h11_; have NB102_132 := aM h13_; have NB110_132 := aM h15_; have NB132_133 := aM h18_; have GW133 := aM h19_; have GE133 := aM h20_; have NB101_133 := aM h21_; have NB102_133 := aM h23_; have NB110_133 := aM h25_; replace HO106 := aM h0_
  replace HO109 := aM h1_; replace HO119 := aM h2_; replace HO122 := aM h3_; replace BK101 := aM h4_; replace BK102 := aM h5_; replace BK110 := aM h6_; replace HB := aM h27_; clear h0_ h1_ h2_ h3_ h4_ h5_ h6_ h7_ h8_ h9_ h10_ h11_ h13_ h15_ h18_ h19_ h20_ h21_ h23_ h25_ h27_
  (try dsimp only at hS_); have hHeld := hS_; clear hS_
  refine nQ ?_
  refine oX (i := 15) (N := some 16) rfl rfl HT_ (fun K hK => ?_)
  refine bS (N := 16) (cs := #[.int .i64 0, .int .i64 0, .int .i64 0]) (t := 38) ?_
  intro gb134 hg w53 hbox hb
  have BK134 := aM (hbox); have GW134 := gE hg HB; have GE134 := gE hg HB; have NB101_134 := nL hg BK101; have NB102_134 := nL hg BK102; have NB110_134 := nL hg BK110; have NB132_134 := nL hg BK132; have NB133_134 := nL hg BK133; replace HO106 := rB HO106 hb; replace HO109 := rB HO109 hb; replace HO119 := rB HO119 hb; replace HO122 := rB HO122 hb; replace BK101 := bB BK101 hb; replace BK102 := bB BK102 hb; replace BK110 := bB BK110 hb; replace BK132 := bB BK132 hb; replace BK133 := bB BK133 hb; replace HB := sB HB hb; clear hb hbox hg
  refine hK.out _ _ ⟨cE BK110 0, cE BK110 1, cE BK110 2⟩ (fun hHeld => ?_)
  clear hK K
  refine nX (some 16) ?_
  exact nV (hJ4_9_12_13_14_15 (gb132, gb133, gb134) _ ⟨hHeld, rD HO106, rD HO109, rD HO119, rD HO122, bD BK101, bD BK102, bD BK110, bD BK132, bD BK133, bD BK134, GW132.out, GE132.out, NB101_132.out, NB102_132.out, NB110_132.out, NB132_133.out, NB132_134.out, GW133.out, GE133.out, NB101_133.out, NB102_133.out, NB110_133.out, NB133_134.out, GW134.out, GE134.out, NB101_134.out, NB102_134.out, NB110_134.out, sD HB⟩)
 rintro ⟨gb132, gb133, gb134⟩ w53 ⟨hS_, h0_, h1_, h2_, h3_, h4_, h5_, h6_, h7_, h8_, h9_, h10_, h11_, h12_, h14_, h16_, h19_, h21_, h22_, h23_, h24_, h26_, h28_, h31_, h32_, h33_, h34_, h36_, h38_, h40_⟩
 (try dsimp only at h0_ h1_ h2_ h3_ h4_ h5_ h6_ h7_ h8_ h9_ h10_ h11_ h12_ h14_ h16_ h19_ h21_ h22_ h23_ h24_ h26_ h28_ h31_ h32_ h33_ h34_ h36_ h38_ h40_)
 have BK132 := aM h7_; have BK133 := aM h8_; have BK134 := aM h9_; have GW132 := aM h10_; have GE132 := aM h11_; have NB101_132 := aM h12_; have NB102_132 := aM h14_; have NB110_132 := aM h16_; have NB132_133 := aM h19_; have NB132_134 := aM h21_; have GW133 := aM h22_; have GE133 := aM h23_; have NB101_133 := aM h24_; have NB102_133 := aM h26_; have NB110_133 := aM h28_
 have NB133_134 := aM h31_; have GW134 := aM h32_; have GE134 := aM h33_; have NB101_134 := aM h34_; have NB102_134 := aM h36_; have NB110_134 := aM h38_; replace HO106 := aM h0_; replace HO109 := aM h1_; replace HO119 := aM h2_; replace HO122 := aM h3_; replace BK101 := aM h4_; replace BK102 := aM h5_; replace BK110 := aM h6_; replace HB := aM h40_; clear h0_ h1_ h2_ h3_ h4_ h5_ h6_ h7_ h8_ h9_ h10_ h11_ h12_ h14_ h16_ h19_ h21_ h22_ h23_ h24_ h26_ h28_ h31_ h32_ h33_ h34_ h36_ h38_ h40_
 (try dsimp only at hS_); have hHeld := hS_; clear hS_
 refine nQ ?_
 refine oX (i := 16) (N := none) rfl rfl HT_ (fun K hK => ?_)
 have hs54 : w53.cell? ⟨gb132, 0, none⟩ = some (.int .i64 0) := (blk_cell BK132.out 0).trans rfl
 have hfs54 := blk_frozen BK132.out 0; have hns54_0 := NB101_132.out; have hns54_1 := NB102_132.out; have hns54_2 := NB110_132.out; have hns54_4 := NB132_133.out.symm; have hns54_5 := NB132_134.out.symm; have hms54_0 := NB101_132.out.symm; have hms54_1 := NB102_132.out.symm; have hms54_2 := NB110_132.out.symm; have hms54_4 := NB132_133.out; have hms54_5 := NB132_134.out
 have hs55 : w53.cell? ⟨gb132, 1, none⟩ = some (.int .i64 0) := (blk_cell BK132.out 1).trans rfl
 have hfs55 := blk_frozen BK132.out 1; have hns55_0 := NB101_132.out; have hns55_1 := NB102_132.out; have hns55_2 := NB110_132.out; have hns55_4 := NB132_133.out.symm; have hns55_5 := NB132_134.out.symm; have hms55_0 := NB101_132.out.symm; have hms55_1 := NB102_132.out.symm; have hms55_2 := NB110_132.out.symm; have hms55_4 := NB132_133.out; have hms55_5 := NB132_134.out
 have hs56 : w53.cell? ⟨gb132, 2, none⟩ = some (.int .i64 0) := (blk_cell BK132.out 2).trans rfl
 have hfs56 := blk_frozen BK132.out 2; have hns56_0 := NB101_132.out; have hns56_1 := NB102_132.out; have hns56_2 := NB110_132.out; have hns56_4 := NB132_133.out.symm; have hns56_5 := NB132_134.out.symm; have hms56_0 := NB101_132.out.symm; have hms56_1 := NB102_132.out.symm; have hms56_2 := NB110_132.out.symm; have hms56_4 := NB132_133.out; have hms56_5 := NB132_134.out
 refine skip_ (w1 := ?_) (by rfl) rfl ?_ ?_
 rotate_left
 ·go_simp
  rfl
 refine hK.out _ _ ⟨((cell_far (p := ⟨gb132, _, none⟩) NB110_132.out _).trans (((cell_far (p := ⟨gb132, _, none⟩) NB110_132.out _).trans (((cell_far (p := ⟨gb132, _, none⟩) NB110_132.out _).trans (hHeld.1)))))), ((cell_far (p := ⟨gb132, _, none⟩) NB110_132.out _).trans (((cell_far (p := ⟨gb132, _, none⟩) NB110_132.out _).trans (((cell_far (p := ⟨gb132, _, none⟩) NB110_132.out _).trans (hHeld.2.1)))))), ((cell_far (p := ⟨gb132, _, none⟩) NB110_132.out _).trans (((cell_far (p := ⟨gb132, _, none⟩) NB110_132.out _).trans (((cell_far (p := ⟨gb132, _, none⟩) NB110_132.out _).trans (hHeld.2.2))))))⟩ (fun hHeld => ?_)
 clear hK K
 refine oX (i := 17) (N := none) rfl rfl HT_ (fun K hK => ?_)
 have hs57 : w53.cell? ⟨gb133, 0, none⟩ = some (.int .i64 0) := (blk_cell BK133.out 0).trans rfl
 have hfs57 := blk_frozen BK133.out 0; have hns57_0 := NB101_133.out; have hns57_1 := NB102_133.out; have hns57_2 := NB110_133.out; have hns57_3 := NB132_133.out; have hns57_5 := NB133_134.out.symm; have hms57_0 := NB101_133.out.symm; have hms57_1 := NB102_133.out.symm; have hms57_2 := NB110_133.out.symm; have hms57_3 := NB132_133.out.symm; have hms57_5 := NB133_134.out
 have hs58 : w53.cell? ⟨gb133, 1, none⟩ = some (.int .i64 0) := (blk_cell BK133.out 1).trans rfl
 have hfs58 := blk_frozen BK133.out 1; have hns58_0 := NB101_133.out; have hns58_1 := NB102_133.out; have hns58_2 := NB110_133.out; have hns58_3 := NB132_133.out; have hns58_5 := NB133_134.out.symm; have hms58_0 := NB101_133.out.symm; have hms58_1 := NB102_133.out.symm; have hms58_2 := NB110_133.out.symm; have hms58_3 := NB132_133.out.symm; have hms58_5 := NB133_134.out
 have hs59 : w53.cell? ⟨gb133, 2, none⟩ = some (.int .i64 0) := (blk_cell BK133.out 2).trans rfl
 have hfs59 := blk_frozen BK133.out 2; have hns59_0 := NB101_133.out; have hns59_1 := NB102_133.out; have hns59_2 := NB110_133.out; have hns59_3 := NB132_133.out; have hns59_5 := NB133_134.out.symm; have hms59_0 := NB101_133.out.symm; have hms59_1 := NB102_133.out.symm; have hms59_2 := NB110_133.out.symm; have hms59_3 := NB132_133.out.symm; have hms59_5 := NB133_134.out
 refine skip_ (w1 := ?_) (by rfl) rfl ?_ ?_
 rotate_left
 ·go_simp
  rfl
 refine hK.out _ _ ⟨((cell_far (p := ⟨gb133, _, none⟩) NB110_133.out _).trans (((cell_far (p := ⟨gb133, _, none⟩) NB110_133.out _).trans (((cell_far (p := ⟨gb133, _, none⟩) NB110_133.out _).trans (hHeld.1)))))), ((cell_far (p := ⟨gb133, _, none⟩) NB110_133.out _).trans (((cell_far (p := ⟨gb133, _, none⟩) NB110_133.out _).trans (((cell_far (p := ⟨gb133, _, none⟩) NB110_133.out _).trans (hHeld.2.1)))))), ((cell_far (p := ⟨gb133, _, none⟩) NB110_133.out _).trans (((cell_far (p := ⟨gb133, _, none⟩) NB110_133.out _).trans (((cell_far (p := ⟨gb133, _, none⟩) NB110_133.out _).trans (hHeld.2.2))))))⟩ (fun hHeld => ?_)
 clear hK K
 refine oX (i := 18) (N := none) rfl rfl HT_ (fun K hK => ?_)
 have hs60 : w53.cell? ⟨gb134, 0, none⟩ = some (.int .i64 0) := (blk_cell BK134.out 0).trans rfl
 have hfs60 := blk_frozen BK134.out 0; have hns60_0 := NB101_134.out; have hns60_1 := NB102_134.out; have hns60_2 := NB110_134.out; have hns60_3 := NB132_134.out; have hns60_4 := NB133_134.out; have hms60_0 := NB101_134.out.symm; have hms60_1 := NB102_134.out.symm; have hms60_2 := NB110_134.out.symm; have hms60_3 := NB132_134.out.symm; have hms60_4 := NB133_134.out.symm
 have hs61 : w53.cell? ⟨gb134, 1, none⟩ = some (.int .i64 0) := (blk_cell BK134.out 1).trans rfl
 have hfs61 := blk_frozen BK134.out 1; have hns61_0 := NB101_134.out; have hns61_1 := NB102_134.out; have hns61_2 := NB110_134.out; have hns61_3 := NB132_134.out; have hns61_4 := NB133_134.out; have hms61_0 := NB101_134.out.symm; have hms61_1 := NB102_134.out.symm; have hms61_2 := NB110_134.out.symm; have hms61_3 := NB132_134.out.symm; have hms61_4 := NB133_134.out.symm
 have hs62 : w53.cell? ⟨gb134, 2, none⟩ = some (.int .i64 0) := (blk_cell BK134.out 2).trans rfl
 have hfs62 := blk_frozen BK134.out 2; have hns62_0 := NB101_134.out; have hns62_1 := NB102_134.out; have hns62_2 := NB110_134.out; have hns62_3 := NB132_134.out; have hns62_4 := NB133_134.out; have hms62_0 := NB101_134.out.symm; have hms62_1 := NB102_134.out.symm; have hms62_2 := NB110_134.out.symm; have hms62_3 := NB132_134.out.symm; have hms62_4 := NB133_134.out.symm
 refine skip_ (w1 := ?_) (by rfl) rfl ?_ ?_
 rotate_left
 ·go_simp
  rfl
 refine hK.out _ _ ⟨((cell_far (p := ⟨gb134, _, none⟩) NB110_134.out _).trans (((cell_far (p := ⟨gb134, _, none⟩) NB110_134.out _).trans (((cell_far (p := ⟨gb134, _, none⟩) NB110_134.out _).trans (hHeld.1)))))), ((cell_far (p := ⟨gb134, _, none⟩) NB110_134.out _).trans (((cell_far (p := ⟨gb134, _, none⟩) NB110_134.out _).trans (((cell_far (p := ⟨gb134, _, none⟩) NB110_134.out _).trans (hHeld.2.1)))))), ((cell_far (p := ⟨gb134, _, none⟩) NB110_134.out _).trans (((cell_far (p := ⟨gb134, _, none⟩) NB110_134.out _).trans (((cell_far (p := ⟨gb134, _, none⟩) NB110_134.out _).trans (hHeld.2.2))))))⟩ (fun hHeld => ?_)
 clear hK K
 refine done_ (done_of HT_.out (by kernel_rfl)) ?_
 have hnb63 := NB110_132.out; have hnc63 := NB110_132.out.symm; have hnb64 := NB110_133.out; have hnc64 := NB110_133.out.symm; have hnb65 := NB110_134.out; have hnc65 := NB110_134.out.symm; obtain ⟨hcz66_0, hcz66_1, hcz66_2, hfz66_0, hfz66_1, hfz66_2⟩ := cZ3 BK110; have hnb67 := NB101_132.out.symm; have hnc67 := NB101_132.out; have hnb68 := NB102_132.out.symm; have hnc68 := NB102_132.out; have hnb69 := NB132_133.out; have hnc69 := NB132_133.out.symm; have hnb70 := NB132_134.out; have hnc70 := NB132_134.out.symm; obtain ⟨hcz71_0, hcz71_1, hcz71_2, hfz71_0, hfz71_1, hfz71_2⟩ := cZ3 BK132; have hnb72 := NB101_134.out.symm; have hnc72 := NB101_134.out; have hnb73 := NB102_134.out.symm; have hnc73 := NB102_134.out; have hnb74 := NB133_134.out.symm
 have hnc74 := NB133_134.out; obtain ⟨hcz75_0, hcz75_1, hcz75_2, hfz75_0, hfz75_1, hfz75_2⟩ := cZ3 BK134
 try go_wp2_with (first | ((with_reducible refine gate_callee (f := 50) rfl ?_); refine gL (some 106) Try.func50 #[.agg #[.int .i64 t123, .int .i64 t124], .agg #[.int .i64 t129, .int .i64 t130]] ?_; (with_reducible refine (rat_Add.calls k t123 t124 t129 t130 t135 t136 t137 _ A15.out).mono ?_); rintro e w76 ⟨rfl, hb⟩; refine ⟨_, rfl, ?_⟩; replace HO106 := aM (Kd.R_below (rD ⟨(Kd.R_mono (Kd.R_mono (Kd.R_mono (Kd.R_far (p := ⟨gb134, 2, none⟩) (Kd.R_far (p := ⟨gb134, 1, none⟩) (Kd.R_far (p := ⟨gb134, 0, none⟩) (Kd.R_far (p := ⟨gb133, 2, none⟩) (Kd.R_far (p := ⟨gb133, 1, none⟩) (Kd.R_far (p := ⟨gb133, 0, none⟩) (Kd.R_far (p := ⟨gb132, 2, none⟩) (Kd.R_far (p := ⟨gb132, 1, none⟩) (Kd.R_far (p := ⟨gb132, 0, none⟩) (Kd.R_types (Kd.R_types (Kd.R_types HO106.out BK132.out (by decide)) BK133.out (by decide)) BK134.out (by decide)) (fun _ hk => hk.1.1.2) (.int .i64 t123)) (fun _ hk => hk.1.1.2) (.int .i64 t124)) (fun _ hk => hk.1.1.2) (.int .i64 t125)) (fun _ hk => hk.1.2) (.int .i64 t126)) (fun _ hk => hk.1.2) (.int .i64 t127)) (fun _ hk => hk.1.2) (.int .i64 t128)) (fun _ hk => hk.2) (.int .i64 t129)) (fun _ hk => hk.2) (.int .i64 t130)) (fun _ hk => hk.2) (.int .i64 t131)) (fun _ h_ => h_.1)) (fun _ h_ => h_.1)) (fun _ h_ => h_.1))⟩) hb); replace HO109 := aM (Kd.R_below (rD ⟨(Kd.R_mono (Kd.R_mono (Kd.R_mono (Kd.R_far (p := ⟨gb134, 2, none⟩) (Kd.R_far (p := ⟨gb134, 1, none⟩) (Kd.R_far (p := ⟨gb134, 0, none⟩) (Kd.R_far (p := ⟨gb133, 2, none⟩) (Kd.R_far (p := ⟨gb133, 1, none⟩) (Kd.R_far (p := ⟨gb133, 0, none⟩) (Kd.R_far (p := ⟨gb132, 2, none⟩) (Kd.R_far (p := ⟨gb132, 1, none⟩) (Kd.R_far (p := ⟨gb132, 0, none⟩) (Kd.R_types (Kd.R_types (Kd.R_types HO109.out BK132.out (by decide)) BK133.out (by decide)) BK134.out (by decide)) (fun _ hk => hk.1.1.2) (.int .i64 t123)) (fun _ hk => hk.1.1.2) (.int .i64 t124)) (fun _ hk => hk.1.1.2) (.int .i64 t125)) (fun _ hk => hk.1.2) (.int .i64 t126)) (fun _ hk => hk.1.2) (.int .i64 t127)) (fun _ hk => hk.1.2) (.int .i64 t128)) (fun _ hk => hk.2) (.int .i64 t129)) (fun _ hk => hk.2) (.int .i64 t130)) (fun _ hk => hk.2) (.int .i64 t131)) (fun _ h_ => h_.1)) (fun _ h_ => h_.1)) (fun _ h_ => h_.1))⟩) hb); replace HO119 := aM (Kd.R_below (rD ⟨(Kd.R_mono (Kd.R_mono (Kd.R_mono (Kd.R_far (p := ⟨gb134, 2, none⟩) (Kd.R_far (p := ⟨gb134, 1, none⟩) (Kd.R_far (p := ⟨gb134, 0, none⟩) (Kd.R_far (p := ⟨gb133, 2, none⟩) (Kd.R_far (p := ⟨gb133, 1, none⟩) (Kd.R_far (p := ⟨gb133, 0, none⟩) (Kd.R_far (p := ⟨gb132, 2, none⟩) (Kd.R_far (p := ⟨gb132, 1, none⟩) (Kd.R_far (p := ⟨gb132, 0, none⟩) (Kd.R_types (Kd.R_types (Kd.R_types HO119.out BK132.out (by decide)) BK133.out (by decide)) BK134.out (by decide)) (fun _ hk => hk.1.1.2) (.int .i64 t123)) (fun _ hk => hk.1.1.2) (.int .i64 t124)) (fun _ hk => hk.1.1.2) (.int .i64 t125)) (fun _ hk => hk.1.2) (.int .i64 t126)) (fun _ hk => hk.1.2) (.int .i64 t127)) (fun _ hk => hk.1.2) (.int .i64 t128)) (fun _ hk => hk.2) (.int .i64 t129)) (fun _ hk => hk.2) (.int .i64 t130)) (fun _ hk => hk.2) (.int .i64 t131)) (fun _ h_ => h_.1)) (fun _ h_ => h_.1)) (fun _ h_ => h_.1))⟩) hb); replace HO122 := aM (Kd.R_below (rD ⟨(Kd.R_mono (Kd.R_mono (Kd.R_mono (Kd.R_far (p := ⟨gb134, 2, none⟩) (Kd.R_far (p := ⟨gb134, 1, none⟩) (Kd.R_far (p := ⟨gb134, 0, none⟩) (Kd.R_far (p := ⟨gb133, 2, none⟩) (Kd.R_far (p := ⟨gb133, 1, none⟩) (Kd.R_far (p := ⟨gb133, 0, none⟩) (Kd.R_far (p := ⟨gb132, 2, none⟩) (Kd.R_far (p := ⟨gb132, 1, none⟩) (Kd.R_far (p := ⟨gb132, 0, none⟩) (Kd.R_types (Kd.R_types (Kd.R_types HO122.out BK132.out (by decide)) BK133.out (by decide)) BK134.out (by decide)) (fun _ hk => hk.1.1.2) (.int .i64 t123)) (fun _ hk => hk.1.1.2) (.int .i64 t124)) (fun _ hk => hk.1.1.2) (.int .i64 t125)) (fun _ hk => hk.1.2) (.int .i64 t126)) (fun _ hk => hk.1.2) (.int .i64 t127)) (fun _ hk => hk.1.2) (.int .i64 t128)) (fun _ hk => hk.2) (.int .i64 t129)) (fun _ hk => hk.2) (.int .i64 t130)) (fun _ hk => hk.2) (.int .i64 t131)) (fun _ h_ => h_.1)) (fun _ h_ => h_.1)) (fun _ h_ => h_.1))⟩) hb); replace BK101 := aM (blk_below (g := gb101) (o := .cells #[.slice A0_0 l0_0.length c0_0, .slice A0_1 l0_1.length c0_1, .int .u16 a0_2] 45 (0, 0)) (bF BK101) hb); replace BK102 := aM (blk_below (g := gb102) (o := .cells #[.int .u8 a1_0, .int .u8 a1_1] 80 (0, 0)) (bF BK102) hb); replace BK110 := aM (blk_below (g := gb110) (o := .cells #[.int .i64 (wrap64 (Int.tmod a1_0 4)), .int .i64 (1 + (((Int.tdiv a1_0 4) % 256) % 14)), .int .i64 (wrap64 (a1_1))] 47 (0, 0)) (bF BK110) hb); replace HB := sB HB hb; replace BK132 := aM (blk_below (g := gb132) (o := .cells #[.int .i64 t123, .int .i64 t124, .int .i64 t125] 38 (0, 0)) (by refine bM ?_; refine blk_far ?_ NB132_134.out _; refine bM ?_; refine blk_far ?_ NB132_134.out _; refine bM ?_; refine blk_far ?_ NB132_134.out _; refine bM ?_; refine blk_far ?_ NB132_133.out _; refine bM ?_; refine blk_far ?_ NB132_133.out _; refine bM ?_; refine blk_far ?_ NB132_133.out _; refine bM ?_; refine blk_put (cs := #[.int .i64 t123, .int .i64 t124, .int .i64 0]) ?_ 2 _ rfl; refine bM ?_; refine blk_put (cs := #[.int .i64 t123, .int .i64 0, .int .i64 0]) ?_ 1 _ rfl; refine bM ?_; refine blk_put (cs := #[.int .i64 0, .int .i64 0, .int .i64 0]) ?_ 0 _ rfl; exact bD BK132) hb); replace BK133 := aM (blk_below (g := gb133) (o := .cells #[.int .i64 t126, .int .i64 t127, .int .i64 t128] 38 (0, 0)) (by refine bM ?_; refine blk_far ?_ NB133_134.out _; refine bM ?_; refine blk_far ?_ NB133_134.out _; refine bM ?_; refine blk_far ?_ NB133_134.out _; refine bM ?_; refine blk_put (cs := #[.int .i64 t126, .int .i64 t127, .int .i64 0]) ?_ 2 _ rfl; refine bM ?_; refine blk_put (cs := #[.int .i64 t126, .int .i64 0, .int .i64 0]) ?_ 1 _ rfl; refine bM ?_; refine blk_put (cs := #[.int .i64 0, .int .i64 0, .int .i64 0]) ?_ 0 _ rfl; refine bM ?_; refine blk_far ?_ NB132_133.out.symm _; refine bM ?_; refine blk_far ?_ NB132_133.out.symm _; refine bM ?_; refine blk_far ?_ NB132_133.out.symm _; exact bD BK133) hb); replace BK134 := aM (blk_below (g := gb134) (o := .cells #[.int .i64 t129, .int .i64 t130, .int .i64 t131] 38 (0, 0)) (by refine bM ?_; refine blk_put (cs := #[.int .i64 t129, .int .i64 t130, .int .i64 0]) ?_ 2 _ rfl; refine bM ?_; refine blk_put (cs := #[.int .i64 t129, .int .i64 0, .int .i64 0]) ?_ 1 _ rfl; refine bM ?_; refine blk_put (cs := #[.int .i64 0, .int .i64 0, .int .i64 0]) ?_ 0 _ rfl; refine bM ?_; refine blk_far ?_ NB133_134.out.symm _; refine bM ?_; refine blk_far ?_ NB133_134.out.symm _; refine bM ?_; refine blk_far ?_ NB133_134.out.symm _; refine bM ?_; refine blk_far ?_ NB132_134.out.symm _; refine bM ?_; refine blk_far ?_ NB132_134.out.symm _; refine bM ?_; refine blk_far ?_ NB132_134.out.symm _; exact bD BK134) hb); (try clear hb)) | ((with_reducible refine gate_dst (N := 17) rfl ?_); refine bE (N := 17) (cs := #[.int .i64 0, .int .i64 0]) (t := 35) ?_; intro gb138 hg w77 hbox hb; have BK138 := aM (hbox); have GW138 := gE hg HB; have GE138 := gE hg HB; have NB101_138 := nL hg BK101; have NB102_138 := nL hg BK102; have NB110_138 := nL hg BK110; have NB132_138 := nL hg BK132; have NB133_138 := nL hg BK133; have NB134_138 := nL hg BK134; replace HO106 := rB HO106 hb; replace HO109 := rB HO109 hb; replace HO119 := rB HO119 hb; replace HO122 := rB HO122 hb; replace BK101 := bB BK101 hb; replace BK102 := bB BK102 hb; replace BK110 := bB BK110 hb; replace BK132 := bB BK132 hb; replace BK133 := bB BK133 hb; replace BK134 := bB BK134 hb; replace HB := sB HB hb; clear hb hbox hg; have hnb78 := NB101_138.out.symm; have hnc78 := NB101_138.out; have hnb79 := NB102_138.out.symm; have hnc79 := NB102_138.out; have hnb80 := NB110_138.out.symm; have hnc80 := NB110_138.out; have hnb81 := NB132_138.out.symm; have hnc81 := NB132_138.out; have hnb82 := NB133_138.out.symm; have hnc82 := NB133_138.out; have hnb83 := NB134_138.out.symm; have hnc83 := NB134_138.out; obtain ⟨hcz84_0, hcz84_1, hfz84_0, hfz84_1⟩ := cZ2 BK138))
 have n0_ : Aside0 (Kd.R k71 71 ((w77.setCell ⟨gb138, 0, none⟩ (.int .i64 t135)).setCell ⟨gb138, 1, none⟩ (.int .i64 t136)) w.heap.size (fun _ => True) (.slice Ao44 t104.length co44) t104) := ⟨by (with_reducible repeat (first | apply Kd.R_alloc | apply Kd.R_drewN | apply Kd.R_drew)); exact Kd.R_mono (Kd.R_far (p := ⟨gb138, 1, none⟩) (Kd.R_far (p := ⟨gb138, 0, none⟩) (Kd.R_types HO106.out BK138.out (by decide)) (fun _ hk => hk.2) (.int .i64 t135)) (fun _ hk => hk.2) (.int .i64 t136)) (fun _ hk => trivial)⟩
 have n1_ : Aside0 (Kd.R k47 47 ((w77.setCell ⟨gb138, 0, none⟩ (.int .i64 t135)).setCell ⟨gb138, 1, none⟩ (.int .i64 t136)) w.heap.size (fun k_ => some k_ ≠ (.slice Ao43 y117.length co43 : Value).ownBlock ∧ some k_ ≠ (.slice Ao45 y120.length co45 : Value).ownBlock ∧ k_ ≠ gb110) (.slice Ao33 t107.length co33) t107) := ⟨by (with_reducible repeat (first | apply Kd.R_alloc | apply Kd.R_drewN | apply Kd.R_drew)); exact Kd.R_mono (Kd.R_far (p := ⟨gb138, 1, none⟩) (Kd.R_far (p := ⟨gb138, 0, none⟩) (Kd.R_types HO109.out BK138.out (by decide)) (fun _ hk => hk.2) (.int .i64 t135)) (fun _ hk => hk.2) (.int .i64 t136)) (fun _ hk => ⟨hk.1.1, ⟨hk.1.2.1, hk.1.2.2⟩⟩)⟩
 have n2_ : Aside0 (Kd.R k47 47 ((w77.setCell ⟨gb138, 0, none⟩ (.int .i64 t135)).setCell ⟨gb138, 1, none⟩ (.int .i64 t136)) w.heap.size (fun k_ => some k_ ≠ (.slice Ao33 t107.length co33 : Value).ownBlock ∧ some k_ ≠ (.slice Ao45 y120.length co45 : Value).ownBlock ∧ k_ ≠ gb110) (.slice Ao43 y117.length co43) y117) := ⟨by (with_reducible repeat (first | apply Kd.R_alloc | apply Kd.R_drewN | apply Kd.R_drew)); exact Kd.R_mono (Kd.R_far (p := ⟨gb138, 1, none⟩) (Kd.R_far (p := ⟨gb138, 0, none⟩) (Kd.R_types HO119.out BK138.out (by decide)) (fun _ hk => hk.2) (.int .i64 t135)) (fun _ hk => hk.2) (.int .i64 t136)) (fun _ hk => ⟨hk.1.1, ⟨hk.1.2.1, hk.1.2.2⟩⟩)⟩
 have n3_ : Aside0 (Kd.R k47 47 ((w77.setCell ⟨gb138, 0, none⟩ (.int .i64 t135)).setCell ⟨gb138, 1, none⟩ (.int .i64 t136)) w.heap.size (fun k_ => some k_ ≠ (.slice Ao33 t107.length co33 : Value).ownBlock ∧ some k_ ≠ (.slice Ao43 y117.length co43 : Value).ownBlock ∧ k_ ≠ gb110) (.slice Ao45 y120.length co45) y120) := ⟨by (with_reducible repeat (first | apply Kd.R_alloc | apply Kd.R_drewN | apply Kd.R_drew)); exact Kd.R_mono (Kd.R_far (p := ⟨gb138, 1, none⟩) (Kd.R_far (p := ⟨gb138, 0, none⟩) (Kd.R_types HO122.out BK138.out (by decide)) (fun _ hk => hk.2) (.int .i64 t135)) (fun _ hk => hk.2) (.int .i64 t136)) (fun _ hk => ⟨hk.1.1, ⟨hk.1.2.1, hk.1.2.2⟩⟩)⟩
 have n4_ : Aside0 (((w77.setCell ⟨gb138, 0, none⟩ (.int .i64 t135)).setCell ⟨gb138, 1, none⟩ (.int .i64 t136)).heap[gb101]? = some (.cells #[.slice A0_0 l0_0.length c0_0, .slice A0_1 l0_1.length c0_1, .int .u16 a0_2] 45 (0, 0))) := ⟨bF BK101⟩
 have n5_ : Aside0 (((w77.setCell ⟨gb138, 0, none⟩ (.int .i64 t135)).setCell ⟨gb138, 1, none⟩ (.int .i64 t136)).heap[gb102]? = some (.cells #[.int .u8 a1_0, .int .u8 a1_1] 80 (0, 0))) := ⟨bF BK102⟩
 have n6_ : Aside0 (((w77.setCell ⟨gb138, 0, none⟩ (.int .i64 t135)).setCell ⟨gb138, 1, none⟩ (.int .i64 t136)).heap[gb110]? = some (.cells #[.int .i64 (wrap64 (Int.tmod a1_0 4)), .int .i64 (1 + (((Int.tdiv a1_0 4) % 256) % 14)), .int .i64 (wrap64 (a1_1))] 47 (0, 0))) := ⟨bF BK110⟩
 have n7_ : Aside0 (((w77.setCell ⟨gb138, 0, none⟩ (.int .i64 t135)).setCell ⟨gb138, 1, none⟩ (.int .i64 t136)).heap[gb132]? = some (.cells #[.int .i64 t123, .int .i64 t124, .int .i64 t125] 38 (0, 0))) := ⟨bF BK132⟩
 have n8_ : Aside0 (((w77.setCell ⟨gb138, 0, none⟩ (.int .i64 t135)).setCell ⟨gb138, 1, none⟩ (.int .i64 t136)).heap[gb133]? = some (.cells #[.int .i64 t126, .int .i64 t127, .int .i64 t128] 38 (0, 0))) := ⟨bF BK133⟩
 have n9_ : Aside0 (((w77.setCell ⟨gb138, 0, none⟩ (.int .i64 t135)).setCell ⟨gb138, 1, none⟩ (.int .i64 t136)).heap[gb134]? = some (.cells #[.int .i64 t129, .int .i64 t130, .int .i64 t131] 38 (0, 0))) := ⟨bF BK134⟩
 have n10_ : Aside0 (((w77.setCell ⟨gb138, 0, none⟩ (.int .i64 t135)).setCell ⟨gb138, 1, none⟩ (.int .i64 t136)).heap[gb138]? = some (.cells #[.int .i64 t135, .int .i64 t136] 35 (0, 0))) := ⟨by refine bM ?_; refine blk_put (cs := #[.int .i64 t135, .int .i64 0]) ?_ 1 _ rfl; refine bM ?_; refine blk_put (cs := #[.int .i64 0, .int .i64 0]) ?_ 0 _ rfl; exact bD BK138⟩
 have n11_ : Aside0 (Below w.heap.size w ((w77.setCell ⟨gb138, 0, none⟩ (.int .i64 t135)).setCell ⟨gb138, 1, none⟩ (.int .i64 t136))) := ⟨sD HB⟩
 (try clear HO106); (try clear HO109); (try clear HO119); (try clear HO122); (try clear BK101); (try clear BK102); (try clear BK110); (try clear BK132); (try clear BK133); (try clear BK134); (try clear BK138); (try clear HB)
 generalize ((w77.setCell ⟨gb138, 0, none⟩ (.int .i64 t135)).setCell ⟨gb138, 1, none⟩ (.int .i64 t136)) = w85 at n0_ n1_ n2_ n3_ n4_ n5_ n6_ n7_ n8_ n9_ n10_ n11_ ⊢
 have HO106 := n0_; have HO109 := n1_; have HO119 := n2_; have HO122 := n3_; have BK101 := n4_; have BK102 := n5_; have BK110 := n6_; have BK132 := n7_; have BK133 := n8_; have BK134 := n9_; have BK138 := n10_; have HB := n11_; clear n0_ n1_ n2_ n3_ n4_ n5_ n6_ n7_ n8_ n9_ n10_ n11_; replace HO106 := aM (Kd.R_drew HO106.out); replace HO109 := aM (Kd.R_drew HO109.out); replace HO119 := aM (Kd.R_drew HO119.out); replace HO122 := aM (Kd.R_drew HO122.out); replace BK101 := aM (blk_drew BK101.out); replace BK102 := aM (blk_drew BK102.out); replace BK110 := aM (blk_drew BK110.out); replace BK132 := aM (blk_drew BK132.out); replace BK133 := aM (blk_drew BK133.out)
 replace BK134 := aM (blk_drew BK134.out); replace BK138 := aM (blk_drew BK138.out); replace HB := aM (below_drew1 HB.out)
 refine start_ (n := 22) (S := fun w' => w'.cell? ⟨gb134, 0, none⟩ = some (.int .i64 t129) ∧ w'.cell? ⟨gb134, 1, none⟩ = some (.int .i64 t130) ∧ w'.cell? ⟨gb134, 2, none⟩ = some (.int .i64 t131) ∧ w'.cell? ⟨gb133, 0, none⟩ = some (.int .i64 t126) ∧ w'.cell? ⟨gb133, 1, none⟩ = some (.int .i64 t127) ∧ w'.cell? ⟨gb133, 2, none⟩ = some (.int .i64 t128) ∧ w'.cell? ⟨gb138, 0, none⟩ = some (.int .i64 t135) ∧ w'.cell? ⟨gb138, 1, none⟩ = some (.int .i64 t136) ∧ w'.cell? ⟨gb132, 0, none⟩ = some (.int .i64 t123) ∧ w'.cell? ⟨gb132, 1, none⟩ = some (.int .i64 t124) ∧ w'.cell? ⟨gb132, 2, none⟩ = some (.int .i64 t125)) (ds := []) #[false, false, false, false, false, false, false, false, false, false, false, false, false, false, false, false, false, false, false, false, false, false] (by kernel_rfl) rfl rfl ⟨cE BK134 0, cE BK134 1, cE BK134 2, cE BK133 0, cE BK133 1, cE BK133 2, cE BK138 0, cE BK138 1, cE BK132 0, cE BK132 1, cE BK132 2⟩ (fun hHeld => ?_); refine with_tabW parolelaw42_PriceBondsA.tab14 parolelaw42_PriceBondsA.bits14 (fun HT_ HW_ => ?_)
 generalize w85.drew = w86 at HO106 HO109 HO119 HO122 BK101 BK102 BK110 BK132 BK133 BK134 BK138 HB hHeld ⊢
 refine pX (i := 0) (N := some 109) rfl rfl HT_ ?_
 refine tX (i := 1) (N := some 110) rfl rfl HT_ HW_ hHeld (Or.inl ⟨by rfl, by rintro w' ⟨s0, s1, s2, s3, s4, s5, s6, s7, s8, s9, s10⟩; go_simp; with_reducible rfl⟩) ?_
 refine pX (i := 2) (N := some 111) rfl rfl HT_ ?_
 refine pX (i := 3) (N := some 112) rfl rfl HT_ ?_
 refine pX (i := 6) (N := some 115) rfl rfl HT_ ?_
 refine tX (i := 4) (N := some 113) rfl rfl HT_ HW_ hHeld (Or.inl ⟨by rfl, by rintro w' ⟨s0, s1, s2, s3, s4, s5, s6, s7, s8, s9, s10⟩; go_simp; with_reducible rfl⟩) ?_
 refine tX (i := 5) (N := some 114) rfl rfl HT_ HW_ hHeld (Or.inl ⟨by rfl, by rintro w' ⟨s0, s1, s2, s3, s4, s5, s6, s7, s8, s9, s10⟩; go_simp; with_reducible rfl⟩) ?_
 refine pX (i := 7) (N := some 116) rfl rfl HT_ ?_
 refine pX (i := 8) (N := some 117) rfl rfl HT_ ?_
 refine pX (i := 9) (N := some 118) rfl rfl HT_ ?_
 refine pX (i := 10) (N := some 119) rfl rfl HT_ ?_
 refine pX (i := 11) (N := some 120) rfl rfl HT_ ?_
 refine pX (i := 13) (N := some 122) rfl rfl HT_ ?_
 refine tX (i := 14) (N := some 123) rfl rfl HT_ HW_ hHeld (Or.inl ⟨by rfl, by rintro w' ⟨s0, s1, s2, s3, s4, s5, s6, s7, s8, s9, s10⟩; go_simp; with_reducible rfl⟩) ?_
 refine oX (i := 12) (N := some 121) rfl rfl HT_ (fun K hK => ?_)
 refine gS Try.func44 #[.int .i64 (wrap64 (a0_2))] ?_
 with_reducible refine (paroleref42_Whole.calls (wrap64 (a0_2)) t139 t140 _ A18.out).mono ?_
 rintro e w87 ⟨rfl, hb⟩
 refine ⟨_, rfl, ?_⟩
 replace HO106 := rB HO106 hb; replace HO109 := rB HO109 hb; replace HO119 := rB HO119 hb; replace HO122 := rB HO122 hb; replace BK101 := bB BK101 hb; replace BK102 := bB BK102 hb; replace BK110 := bB BK110 hb; replace BK132 := bB BK132 hb; replace BK133 := bB BK133 hb; replace BK134 := bB BK134 hb; replace BK138 := bB BK138 hb; replace HB := sB HB hb; (try clear hb); (try clear hb2); (try clear hk); (try clear hi)
 refine hK.out _ _ ⟨cE BK134 0, cE BK134 1, cE BK134 2, cE BK133 0, cE BK133 1, cE BK133 2, cE BK138 0, cE BK138 1, cE BK132 0, cE BK132 1, cE BK132 2⟩ (fun hHeld => ?_)
 clear hK K
 refine nX (some 121) ?_
 refine oX (i := 15) (N := some 124) rfl rfl HT_ (fun K hK => ?_)
 refine gS Try.func47 #[.agg #[.int .i64 t139, .int .i64 t140], .agg #[.int .i64 t123, .int .i64 t124]] ?_
 with_reducible refine (rat_Cmp.calls t139 t140 t123 t124 t141 _ A19.out).mono ?_
 rintro e w88 ⟨rfl, hb⟩
 refine ⟨_, rfl, ?_⟩
 replace HO106 := rB HO106 hb; replace HO109 := rB HO109 hb; replace HO119 := rB HO119 hb; replace HO122 := rB HO122 hb; replace BK101 := bB BK101 hb; replace BK102 := bB BK102 hb; replace BK110 := bB BK110 hb; replace BK132 := bB BK132 hb; replace BK133 := bB BK133 hb; replace BK134 := bB BK134 hb; replace BK138 := bB BK138 hb; replace HB := sB HB hb; (try clear hb); (try clear hb2); (try clear hk); (try clear hi)
 refine hK.out _ _ ⟨cE BK134 0, cE BK134 1, cE BK134 2, cE BK133 0, cE BK133 1, cE BK133 2, cE BK138 0, cE BK138 1, cE BK132 0, cE BK132 1, cE BK132 2⟩ (fun hHeld => ?_)
 clear hK K
 refine nX (some 124) ?_
 refine pX (i := 16) (N := some 125) rfl rfl HT_ ?_
 refine pX (i := 17) (N := some 126) rfl rfl HT_ ?_
 refine pX (i := 18) (N := some 127) rfl rfl HT_ ?_
 refine pX (i := 19) (N := some 128) rfl rfl HT_ ?_
 refine pX (i := 20) (N := some 129) rfl rfl HT_ ?_
 refine pX (i := 21) (N := some 6) rfl rfl HT_ ?_
 refine done_ (done_of HT_.out (by kernel_rfl)) ?_
 try go_wp2
 go_ret
 exact ⟨by first | rfl | (simp [errW_none, errW_some] <;> rfl) | (simp [*, errW_none, errW_some] <;> rfl), sD HB⟩
/-- THE ONE PURE STATEMENT of parolelaw42_PriceBondsA. -/
def parolelaw42_PriceBondsA.Pure : Prop := ∀ (l0_0 : List Int) (l0_1 : List Int) (a0_2 : Int) (a1_0 : Int) (a1_1 : Int) (a2 : Int), ((l0_0.length ≤ maxLen ∧ ∀ x142 ∈ l0_0, (Lit.int .u8 x142).wf = true) ∧ (l0_1.length ≤ maxLen ∧ ∀ x143 ∈ l0_1, (Lit.int .u8 x143).wf = true) ∧ (Lit.int .u16 a0_2).wf = true) → ((Lit.int .u8 a1_0).wf = true ∧ (Lit.int .u8 a1_1).wf = true) → (Lit.int .u8 a2).wf = true → ∃ k, parolelaw42_PriceBondsA.f k l0_0 l0_1 a0_2 a1_0 a1_1 a2 = some true
end Go.Proofs.Ytohnkcmbogcfhaa.P
